/- Texts laid together. -/
import Derived.Test.YtlciofheonbkiaaGreatQ11
import Derived.Test.YtlciofheonbkiaaGreatQ13
import Derived.Test.YtlciofheonbkiaaGreatQ14
import Derived.Test.YtlciofheonbkiaaGreatQ12
import Derived.Test.YtlciofheonbkiaaGreatQ01
import Derived.Deep.Fields
import Derived.Deep.Slices
import Derived.Deep.LoopGhost
import Derived.Test.YtlciofheonbkiaaGreatQ10
/- Texts laid together: BlMath2, BlMath4, Made2, BlMath3, Made4. -/
/- What is merged is a digest (no program in sight). -/
namespace Go.Proofs.YtlciofheonbkiaaGreat
open Go.RowKit
namespace Nl

def eqF (id i c : Int) : Int := if i = id then c else 0
theorem gsum_find {zs : List (Int × Int)} (h : Strict zs) (id : Int) : gsum (eqF id) zs = findL id zs := by
  induction zs with
  | nil => rfl
  | cons z r ih =>
    simp only [gsum, findL, ih h.tail, eqF]
    by_cases q : z.1 = id
    · rw [if_pos q, if_pos q]
      have : findL id r = 0 := by
        have hh := h.head
        clear ih h
        induction r with
        | nil => rfl
        | cons y r ih =>
          have := hh y (List.mem_cons_self ..)
          simp only [findL]
          rw [if_neg (by omega)]
          exact ih (fun a ha => hh a (List.mem_cons_of_mem _ ha))
      omega
    · rw [if_neg q, if_neg q]; omega
theorem find_in {zs : List (Int × Int)} {id : Int} (h : findL id zs ≠ 0) : (id, findL id zs) ∈ zs := by
  induction zs with
  | nil => exact absurd rfl h
  | cons z r ih =>
    simp only [findL] at h ⊢
    by_cases q : z.1 = id
    · rw [if_pos q]; rw [← q]; exact List.mem_cons_self ..
    · rw [if_neg q] at h ⊢; exact List.mem_cons_of_mem _ (ih h)
theorem join_find {l : Int} {xs ys : List (Int × Int)} (hx : Roll l xs) (hy : Roll l ys) (hs : sumL xs + sumL ys ≤ 72057594037927935) (id : Int) : findL id (joinL xs ys) = findL id xs + findL id ys := by
  obtain ⟨_, r1, _, _, g1⟩ := join_spec hx hy hs
  rw [← gsum_find r1.strict, ← gsum_find hx.strict, ← gsum_find hy.strict]
  exact g1 (eqF id) (fun i a b => by unfold eqF; split <;> omega)
theorem light_find {l most : Int} {zs : List (Int × Int)} (hl : lightB l zs most = true) (h0 : 0 ≤ most) {id : Int} (hk : kidsB l id = true) : findL id zs ≤ most := by
  by_cases h : findL id zs = 0
  · omega
  · have hm := find_in h
    simp only [lightB, List.all_eq_true, Bool.not_eq_true'] at hl
    have := hl _ hm
    simp only [heavyB, hk, Bool.true_and, decide_eq_false_iff_not] at this
    omega
theorem cap_add {a b k : Int} (ha : 0 ≤ a) (hb : 0 ≤ b) (hk : 1 ≤ k) : capV a k + capV b k ≤ capV (a + b) k := by
  unfold capV
  rw [if_neg (by omega), if_neg (by omega), if_neg (by omega)]
  refine (Int.le_ediv_iff_mul_le (by omega)).2 ?_
  have h1 := Int.ediv_mul_le a (show k ≠ 0 by omega)
  have h2 := Int.ediv_mul_le b (show k ≠ 0 by omega)
  rw [Int.add_mul]; omega
/-- What two digests are merged to. -/
def mergeL (l k : Int) (zs zs' : List (Int × Int)) : List (Int × Int) := joinL (lowL l k zs) (lowL l k zs')
theorem merge_spec {l k K K' : Int} {zs zs' : List (Int × Int)} (d : Dg l K zs) (d' : Dg l K' zs') (h1 : 1 ≤ k) (h2 : k ≤ K) (h3 : k ≤ K') (hs : sumL zs + sumL zs' ≤ 72057594037927935) :
    Dg l k (mergeL l k zs zs') ∧ sumL (mergeL l k zs zs') = sumL zs + sumL zs' ∧ ((mergeL l k zs zs').length : Int) ≤ 8 * k - 2 ∧ (mergeL l k zs zs').length ≤ zs.length + zs'.length ∧
      ∀ f : Int → Int → Int, (∀ i a b, f i (a + b) = f i a + f i b) → gsum f (mergeL l k zs zs') = gsum f (lowL l k zs) + gsum f (lowL l k zs') := by
  obtain ⟨a1, a2, a3, a4⟩ := low_spec d h1 h2
  obtain ⟨b1, b2, b3, b4⟩ := low_spec d' h1 h3
  have hs' : sumL (lowL l k zs) + sumL (lowL l k zs') ≤ 72057594037927935 := by omega
  obtain ⟨_, r1, r2, r3, r4⟩ := join_spec a1.roll b1.roll hs'
  have hf := join_find a1.roll b1.roll hs'
  have p1 := sumL_nonneg a1.roll.strict.pos
  have p2 := sumL_nonneg b1.roll.strict.pos
  unfold mergeL
  generalize lowL l k zs = A at *
  generalize lowL l k zs' = B at *
  have hl1 := a1.light
  have hl2 := b1.light
  have ca := cap_add p1 p2 h1
  have c1 := cap_nn (sumL A) k
  have c2 := cap_nn (sumL B) k
  refine ⟨⟨r1, h1, a1.k2, ?_, by omega⟩, by omega, by omega, by omega, r4⟩
  rw [r3]
  simp only [lightB, List.all_eq_true, Bool.not_eq_true']
  intro z hz
  cases hk : kidsB l z.1
  · simp [heavyB, hk]
  · have e := strict_at r1.strict (id := z.1) (c := z.2) hz
    rw [hf] at e
    have q1 := light_find hl1 c1 hk
    have q2 := light_find hl2 c2 hk
    simp only [heavyB, hk, Bool.true_and, decide_eq_false_iff_not]
    omega
theorem merge_load {l k kind : Int} {zs zs' : List (Int × Int)} (hp : poolIs kind l = true) (m : Dg l k (mergeL l k zs zs')) : loadE kind l k (mergeL l k zs zs') = 0 := by
  have hk : isK k = true := decide_eq_true ⟨m.k1, m.k2⟩
  have := m.room
  unfold loadE
  rw [if_neg (by rw [hp, hk]; decide), if_neg (by rw [rollB_iff.2 m.roll]; decide), if_neg (fun q => q.elim (fun q => by omega) (fun q => by rw [m.light] at q; cases q))]
end Nl
end Go.Proofs.YtlciofheonbkiaaGreat

/- What calls leave of a digest (no program in sight). -/
namespace Go.Proofs.YtlciofheonbkiaaGreat
namespace Nl
end Nl
end Go.Proofs.YtlciofheonbkiaaGreat

/- The walk of the statements' own Made: a digest of calls, and the bag of all that was accepted. -/
namespace Go.Proofs.YtlciofheonbkiaaGreat
open Go.RowKit Nl

namespace Nl
/-- Nodes and readings that belong together. -/
structure MadeI (l k : Int) (zs its : List (Int × Int)) : Prop where
  dg : Dg l k zs
  bag : Bag l its
  sum : sumL its = sumL zs
  st : Stands l zs its
theorem MadeI.nil {l k : Int} (d : Dg l k []) : MadeI l k [] [] := ⟨d, Bag.nil l, rfl, Stands.nil l⟩
theorem MadeI.com {l k : Int} {zs its : List (Int × Int)} (m : MadeI l k zs its) : MadeI l k (comL l k zs).1 its := by
  obtain ⟨c1, c2, _⟩ := m.dg.com
  exact ⟨c1, m.bag, by rw [c2]; exact m.sum, m.st.run m.dg.roll⟩
end Nl

def MdPost (l k kind : Int) (n : Nat) (w : World) (e : Ending) (w' : World) : Prop :=
  ∃ dg q g h v zs its, e = .returned (.tuple #[.pointer (some ⟨dg, 0, none⟩), .agg #[.int .i64 l, v]]) ∧ DgV w' dg q g h kind l k 20000 zs ∧ RdN w' v its ∧ NotD v its (DB dg q g h) ∧ MadeI l k zs its ∧ zs.length ≤ n ∧ its.length ≤ n ∧ (∀ j, DB dg q g h j → w.heap.size ≤ j) ∧ Below w.heap.size w w'
end Go.Proofs.YtlciofheonbkiaaGreat

/- What is merged stands for what both were told (no program in sight). -/
namespace Go.Proofs.YtlciofheonbkiaaGreat
open Go.RowKit
namespace Nl

end Nl
end Go.Proofs.YtlciofheonbkiaaGreat

/- The walk of law 13's Made: which nodes. -/
namespace Go.Proofs.YtlciofheonbkiaaGreat
open Go.RowKit Nl

end Go.Proofs.YtlciofheonbkiaaGreat

/- Ranks: what weighs up to a value is at least what lies wholly up to it, and at most what begins up to it (no program in sight). -/
namespace Go.Proofs.YtlciofheonbkiaaGreat
open Go.RowKit Nl
namespace Nl

def lowF (l x i c : Int) : Int := if endsHi l i ≤ x then c else 0
def highF (l x i c : Int) : Int := if endsLo l i ≤ x then c else 0
def rankF (x v c : Int) : Int := if v ≤ x then c else 0
def Ranks (l : Int) (zs its : List (Int × Int)) : Prop := ∀ x, gsum (lowF l x) zs ≤ gsum (rankF x) its ∧ gsum (rankF x) its ≤ gsum (highF l x) zs
theorem right_nat {l id : Int} (h : rightB l id = true) : ∃ n i d : Nat, l = (n : Int) ∧ id = (i : Int) ∧ depN id = d ∧ d ≤ n ∧ 1 ≤ n ∧ n ≤ 48 ∧ 2 ^ d ≤ i ∧ i < 2 ^ (d + 1) := by
  have h' := h
  simp only [rightB, decide_eq_true_eq] at h'
  obtain ⟨n, rfl⟩ := Int.eq_ofNat_of_zero_le (show 0 ≤ l by omega)
  obtain ⟨i, rfl⟩ := Int.eq_ofNat_of_zero_le (show 0 ≤ id by omega)
  obtain ⟨a, b, c, d, e, f⟩ := right_dep h
  exact ⟨n, i, _, rfl, rfl, rfl, by simpa using d, by omega, by omega, e, f⟩
theorem dep_at {d i : Nat} (h1 : 2 ^ d ≤ i) (h2 : i < 2 ^ (d + 1)) : depN (i : Int) = d := by
  have h0 : 1 ≤ 2 ^ d := Nat.one_le_two_pow
  obtain ⟨-, p1, p2⟩ := dep_pow (i := i) (by omega)
  have a1 : 2 ^ depN (i : Int) < 2 ^ (d + 1) := by omega
  have a2 : 2 ^ d < 2 ^ (depN (i : Int) + 1) := by omega
  have a3 := (Nat.pow_lt_pow_iff_right (a := 2) (by omega)).1 a1
  have a4 := (Nat.pow_lt_pow_iff_right (a := 2) (by omega)).1 a2
  omega
theorem ends_nat {n i d : Nat} (hd : depN (i : Int) = d) (_hdn : d ≤ n) : endsLo (n : Int) (i : Int) = ((i * 2 ^ (n - d) : Nat) : Int) - ((2 ^ n : Nat) : Int) ∧ endsHi (n : Int) (i : Int) = (((i + 1) * 2 ^ (n - d) : Nat) : Int) - 1 - ((2 ^ n : Nat) : Int) := by
  unfold endsLo endsHi
  rw [hd]
  simp
theorem kid_ends {l p : Int} (h : kidsB l p = true) : endsLo l (2 * p) = endsLo l p ∧ endsHi l (2 * p + 1) = endsHi l p ∧ endsHi l (2 * p) ≤ endsHi l p ∧ endsLo l p ≤ endsLo l (2 * p + 1) := by
  simp only [kidsB, Bool.and_eq_true, decide_eq_true_eq] at h
  obtain ⟨hr, hlt⟩ := h
  obtain ⟨n, i, d, rfl, rfl, hd, hdn, hn1, hn2, h1, h2⟩ := right_nat hr
  have hi : i < 2 ^ n := by
    rw [Int.toNat_natCast] at hlt
    exact_mod_cast hlt
  have hlt2 : 2 ^ d < 2 ^ n := by omega
  have hdn2 := (Nat.pow_lt_pow_iff_right (a := 2) (by omega)).1 hlt2
  have k0 : depN ((2 * i : Nat) : Int) = d + 1 := dep_at (by rw [Nat.pow_succ]; omega) (by rw [Nat.pow_succ]; omega)
  have k1 : depN ((2 * i + 1 : Nat) : Int) = d + 1 := dep_at (by rw [Nat.pow_succ]; omega) (by rw [Nat.pow_succ]; omega)
  obtain ⟨a1, a2⟩ := ends_nat hd hdn
  obtain ⟨b1, b2⟩ := ends_nat (n := n) k0 (by omega)
  obtain ⟨c1, c2⟩ := ends_nat (n := n) k1 (by omega)
  have e0 : ((2 * i : Nat) : Int) = 2 * (i : Int) := by simp
  have e1 : ((2 * i + 1 : Nat) : Int) = 2 * (i : Int) + 1 := by simp
  rw [e0] at b1 b2
  rw [e1] at c1 c2
  rw [a1, a2, b1, b2, c1, c2]
  obtain ⟨m, em⟩ : ∃ m, n - (d + 1) = m := ⟨_, rfl⟩
  have em2 : n - d = m + 1 := by omega
  rw [em, em2, Nat.pow_succ]
  have q1 : 2 * i * 2 ^ m = i * (2 ^ m * 2) := by rw [Nat.mul_comm 2 i, Nat.mul_assoc, Nat.mul_comm 2]
  have q2 : (2 * i + 1) * 2 ^ m = i * (2 ^ m * 2) + 2 ^ m := by rw [Nat.add_mul, q1, Nat.one_mul]
  have q3 : (2 * i + 1 + 1) * 2 ^ m = i * (2 ^ m * 2) + 2 ^ m + 2 ^ m := by rw [Nat.add_mul, q2, Nat.one_mul]
  have q4 : (i + 1) * (2 ^ m * 2) = i * (2 ^ m * 2) + 2 ^ m * 2 := by rw [Nat.add_mul, Nat.one_mul]
  rw [q1, q2, q3, q4]
  generalize i * (2 ^ m * 2) = u
  generalize 2 ^ m = v
  generalize 2 ^ n = t
  omega
theorem Ranks.run {l most : Int} {zs its : List (Int × Int)} (r : Roll l zs) (s : Ranks l zs its) : Ranks l (runR l most zs).1 its := fun x => by
  obtain ⟨s1, s2⟩ := s x
  have key := (run_keeps (most := most) (fun ys => gsum (lowF l x) ys ≤ gsum (lowF l x) zs ∧ gsum (highF l x) zs ≤ gsum (highF l x) ys) (fun ys p r' q hp => by
    have hk := ready_kids hp
    have e1 := gsum_fold (f := lowF l x) (fun i => by unfold lowF; split <;> rfl) r' hk
    have e2 := gsum_fold (f := highF l x) (fun i => by unfold highF; split <;> rfl) r' hk
    obtain ⟨k1, k2, k3, k4⟩ := kid_ends hk
    have f0 := r'.find p
    have f1 := r'.find (2 * p)
    have f2 := r'.find (2 * p + 1)
    have ea : allV l ys p = findL (2 * p) ys + findL (2 * p + 1) ys + findL p ys := by unfold allV; rw [hk]; rfl
    rw [ea] at e1 e2
    generalize findL (2 * p) ys = a at *
    generalize findL (2 * p + 1) ys = b at *
    generalize findL p ys = c at *
    have t1 : lowF l x p (a + b + c) ≤ lowF l x (2 * p) a + lowF l x (2 * p + 1) b + lowF l x p c := by
      unfold lowF
      split <;> split <;> split <;> omega
    have t2 : highF l x (2 * p) a + highF l x (2 * p + 1) b + highF l x p c ≤ highF l x p (a + b + c) := by
      unfold highF
      split <;> split <;> split <;> omega
    omega) _ zs r ⟨Int.le_refl _, Int.le_refl _⟩ (Nat.le_refl _)).2.1
  omega
theorem Ranks.nil (l : Int) : Ranks l [] [] := fun x => by simp [gsum]
theorem leaf_ends {l x : Int} (h : leafB l x = true) : endsLo l (leafV l x) = x ∧ endsHi l (leafV l x) = x := by
  have h' := h
  simp only [leafB, decide_eq_true_eq] at h'
  obtain ⟨h1, h2, h3, h4⟩ := h'
  obtain ⟨n, rfl⟩ := Int.eq_ofNat_of_zero_le (show 0 ≤ l by omega)
  obtain ⟨a, rfl⟩ := Int.eq_ofNat_of_zero_le (show 0 ≤ x by omega)
  have e : leafV (n : Int) (a : Int) = ((2 ^ n + a : Nat) : Int) := by unfold leafV; rw [if_pos h]; simp
  rw [Int.toNat_natCast] at h4
  have h5 : a < 2 ^ n := by exact_mod_cast h4
  have hd : depN ((2 ^ n + a : Nat) : Int) = n := dep_at (by omega) (by rw [Nat.pow_succ]; omega)
  obtain ⟨a1, a2⟩ := ends_nat hd (Nat.le_refl _)
  rw [e, a1, a2]
  simp
  omega
theorem Ranks.leaf {l x c : Int} {zs its its' : List (Int × Int)} (r : Roll l zs) (s : Ranks l zs its) (hx : leafB l x = true) (hc : 0 ≤ c) (hi : ∀ y, gsum (rankF y) its' = gsum (rankF y) its + rankF y x c) : Ranks l (addS zs (leafV l x) c) its' := fun y => by
  obtain ⟨s1, s2⟩ := s y
  obtain ⟨b1, b2⟩ := leaf_ends hx
  rw [hi]
  have e1 := gsum_addS (f := lowF l y) (fun i => by unfold lowF; split <;> rfl) r.strict (id := leafV l x) (c := c) hc
  have e2 := gsum_addS (f := highF l y) (fun i => by unfold highF; split <;> rfl) r.strict (id := leafV l x) (c := c) hc
  have u1 : ∀ c', lowF l y (leafV l x) c' = if x ≤ y then c' else 0 := fun c' => by unfold lowF; rw [b2]
  have u2 : ∀ c', highF l y (leafV l x) c' = if x ≤ y then c' else 0 := fun c' => by unfold highF; rw [b1]
  rw [u1, u1] at e1
  rw [u2, u2] at e2
  unfold rankF at *
  generalize findL (leafV l x) zs = v at *
  by_cases hq : x ≤ y
  · rw [if_pos hq, if_pos hq] at e1 e2
    rw [if_pos hq]
    omega
  · rw [if_neg hq, if_neg hq] at e1 e2
    rw [if_neg hq]
    omega
/-- What lies over a value is on the way to its leaf. -/
theorem over_way {l i x : Int} (hr : rightB l i = true) (h1 : endsLo l i ≤ x) (h2 : x < endsHi l i) : kidsB l i = true ∧ i ∈ (List.range l.toNat).map (fun j => (2 ^ l.toNat + x) / 2 ^ (j + 1)) := by
  have hr0 := hr
  obtain ⟨n, i, d, rfl, rfl, hd, hdn, hn1, hn2, p1, p2⟩ := right_nat hr
  obtain ⟨a1, a2⟩ := ends_nat hd hdn
  have hdn' : d ≠ n := by
    rintro rfl
    rw [a1] at h1
    rw [a2] at h2
    simp at h1 h2
    omega
  have hlt : i < 2 ^ n := by
    have : 2 ^ (d + 1) ≤ 2 ^ n := Nat.pow_le_pow_right (by omega) (by omega)
    omega
  rw [a1] at h1
  rw [a2] at h2
  have hs : 2 ^ n = 2 ^ d * 2 ^ (n - d) := by rw [← Nat.pow_add]; congr 1; omega
  have q1 : 2 ^ d * 2 ^ (n - d) ≤ i * 2 ^ (n - d) := Nat.mul_le_mul_right _ p1
  have q2 : (i + 1) * 2 ^ (n - d) ≤ 2 ^ (d + 1) * 2 ^ (n - d) := Nat.mul_le_mul_right _ p2
  have q3 : 2 ^ (d + 1) * 2 ^ (n - d) = 2 * 2 ^ n := by rw [Nat.pow_succ, Nat.mul_comm (2 ^ d) 2, Nat.mul_assoc, ← hs]
  rw [← hs] at q1
  rw [q3] at q2
  obtain ⟨a, rfl⟩ := Int.eq_ofNat_of_zero_le (show 0 ≤ x by omega)
  refine ⟨?_, ?_⟩
  · simp only [kidsB, hr0, Bool.true_and, decide_eq_true_eq, Int.toNat_natCast]
    exact_mod_cast hlt
  · rw [Int.toNat_natCast]
    refine List.mem_map.2 ⟨n - d - 1, List.mem_range.2 (by omega), ?_⟩
    rw [show n - d - 1 + 1 = n - d by omega]
    have e : (2 ^ n + a) / 2 ^ (n - d) = i := (Nat.div_eq_iff (Nat.pow_pos (by omega))).2 ⟨by omega, by
      rw [Nat.add_mul, Nat.one_mul] at h2 q2
      have : 1 ≤ 2 ^ (n - d) := Nat.one_le_two_pow
      generalize i * 2 ^ (n - d) = u at *
      generalize 2 ^ (n - d) = v at *
      generalize 2 ^ n = t at *
      omega⟩
    have c1 : (2 : Int) ^ n + (a : Int) = ((2 ^ n + a : Nat) : Int) := by simp
    have c2 : (2 : Int) ^ (n - d) = ((2 ^ (n - d) : Nat) : Int) := by simp
    rw [c1, c2, ← Int.natCast_ediv, e]
def overF (l x i c : Int) : Int := if endsLo l i ≤ x ∧ x < endsHi l i then c else 0
theorem over_sum {l most x : Int} {zs : List (Int × Int)} (r : Roll l zs) (h0 : 0 ≤ most) (hl : lightB l zs most = true) : gsum (overF l x) zs ≤ most * l := by
  have hl1 := r.l1
  have key : ∀ ys : List (Int × Int), (∀ y ∈ ys, y ∈ zs) → ys.Pairwise (fun a b => a.1 < b.1) → gsum (overF l x) ys ≤ most * ((ys.filter (fun y => decide (endsLo l y.1 ≤ x ∧ x < endsHi l y.1))).length : Int) := by
    intro ys
    induction ys with
    | nil => intro _ _; simp [gsum]
    | cons y t ih =>
      intro hm hp
      have h1 := ih (fun z hz => hm z (List.mem_cons_of_mem _ hz)) (List.pairwise_cons.1 hp).2
      have hy := hm y (List.mem_cons_self ..)
      simp only [gsum]
      by_cases hc : endsLo l y.1 ≤ x ∧ x < endsHi l y.1
      · rw [List.filter_cons_of_pos (by simpa using hc), List.length_cons]
        have ek := (over_way (r.ids y hy) hc.1 hc.2).1
        have hh := List.all_eq_true.1 hl y hy
        have hcy : y.2 ≤ most := by
          simp only [heavyB, ek, Bool.true_and, Bool.not_eq_true', decide_eq_false_iff_not] at hh
          omega
        unfold overF
        rw [if_pos hc]
        have e : most * ((((t.filter (fun y => decide (endsLo l y.1 ≤ x ∧ x < endsHi l y.1))).length + 1 : Nat)) : Int) = most * ((t.filter (fun y => decide (endsLo l y.1 ≤ x ∧ x < endsHi l y.1))).length : Int) + most := by
          rw [Int.natCast_add, Int.mul_add]; simp
        rw [e]
        unfold overF at h1
        omega
      · rw [List.filter_cons_of_neg (by simpa using hc)]
        unfold overF
        rw [if_neg hc]
        unfold overF at h1
        omega
  have h1 := key zs (fun _ h => h) r.strict.1
  have hn : ((zs.filter (fun y => decide (endsLo l y.1 ≤ x ∧ x < endsHi l y.1))).map (fun y => y.1)).Nodup := by
    have hp : ((zs.filter (fun y => decide (endsLo l y.1 ≤ x ∧ x < endsHi l y.1)))).Pairwise (fun a b => a.1 < b.1) := r.strict.1.filter _
    exact List.Pairwise.map _ (fun a b (h : a.1 < b.1) => by omega) hp
  have h2 := nodup_le hn (ys := (List.range l.toNat).map (fun j => (2 ^ l.toNat + x) / 2 ^ (j + 1))) (fun i hi => by
    obtain ⟨y, hy, rfl⟩ := List.mem_map.1 hi
    obtain ⟨hy1, hy2⟩ := List.mem_filter.1 hy
    have hy2 := of_decide_eq_true hy2
    exact (over_way (r.ids y hy1) hy2.1 hy2.2).2)
  simp only [List.length_map, List.length_range] at h2
  generalize (zs.filter (fun y => decide (endsLo l y.1 ≤ x ∧ x < endsHi l y.1))).length = m at *
  have h3 : most * (m : Int) ≤ most * l := Int.mul_le_mul_of_nonneg_left (by omega) h0
  omega
theorem high_over (l x : Int) (zs : List (Int × Int)) (h : ∀ y ∈ zs, endsLo l y.1 ≤ endsHi l y.1) : gsum (highF l x) zs = gsum (lowF l x) zs + gsum (overF l x) zs := by
  rw [← gsum_add]
  refine gsum_congr (fun y hy => ?_)
  have := h y hy
  unfold highF lowF overF
  split <;> split <;> split <;> omega
theorem ends_le {l id : Int} (h : rightB l id = true) : endsLo l id ≤ endsHi l id := by
  obtain ⟨n, i, d, rfl, rfl, hd, hdn, hn1, hn2, p1, p2⟩ := right_nat h
  obtain ⟨a1, a2⟩ := ends_nat hd hdn
  rw [a1, a2, Nat.add_mul, Nat.one_mul]
  have : 1 ≤ 2 ^ (n - d) := Nat.one_le_two_pow
  omega
end Nl
end Go.Proofs.YtlciofheonbkiaaGreat

/- A crowd of digests, and the bags of what they stand for (no program in sight). -/
namespace Go.Proofs.YtlciofheonbkiaaGreat
open Go.RowKit Nl
namespace Nl

/-- All nodes on the way up from some values' leaves. -/
def ancL (l : Int) (X : List Int) : List Int := X.flatMap fun x => (List.range (l.toNat + 1)).map fun j => (2 ^ l.toNat + x) / 2 ^ j
theorem anc_len (l : Int) (X : List Int) : (ancL l X).length = X.length * (l.toNat + 1) := by
  unfold ancL
  induction X with
  | nil => simp
  | cons x r ih => rw [List.flatMap_cons, List.length_append, ih]; simp [Nat.add_mul]; omega
theorem anc_mem {l i : Int} {X : List Int} : i ∈ ancL l X ↔ ∃ x ∈ X, ∃ j, j ≤ l.toNat ∧ (2 ^ l.toNat + x) / 2 ^ j = i := by
  unfold ancL
  simp only [List.mem_flatMap, List.mem_map, List.mem_range]
  constructor
  · rintro ⟨x, hx, j, hj, e⟩; exact ⟨x, hx, j, by omega, e⟩
  · rintro ⟨x, hx, j, hj, e⟩; exact ⟨x, hx, j, by omega, e⟩
theorem anc_mono {l i : Int} {X Y : List Int} (h : ∀ x ∈ X, x ∈ Y) (hi : i ∈ ancL l X) : i ∈ ancL l Y := by
  obtain ⟨x, hx, j, hj, e⟩ := anc_mem.1 hi
  exact anc_mem.2 ⟨x, h x hx, j, hj, e⟩
theorem anc_up {l i p : Int} {X : List Int} (hX : ∀ x ∈ X, leafB l x = true) (hi : i ∈ ancL l X) (h2 : 2 ≤ i) (hp : i / 2 = p) : p ∈ ancL l X := by
  obtain ⟨x, hx, j, hj, e⟩ := anc_mem.1 hi
  have hb := hX x hx
  simp only [leafB, decide_eq_true_eq] at hb
  obtain ⟨b1, b2, b3, b4⟩ := hb
  by_cases hjl : j = l.toNat
  · exfalso
    subst hjl
    have hp0 : (0 : Int) < 2 ^ l.toNat := Int.pow_pos (by omega)
    have : (2 ^ l.toNat + x) / 2 ^ l.toNat < 2 := Int.ediv_lt_of_lt_mul hp0 (by omega)
    omega
  · refine anc_mem.2 ⟨x, hx, j + 1, by omega, ?_⟩
    rw [← hp, ← e, Int.pow_succ, Int.ediv_ediv_of_nonneg (Int.le_of_lt (Int.pow_pos (by omega)))]
def outF (A : List Int) (i c : Int) : Int := if i ∈ A then 0 else c
theorem out_add (A : List Int) (i a b : Int) : outF A i (a + b) = outF A i a + outF A i b := by unfold outF; split <;> omega
theorem out_nn {A : List Int} {i c : Int} (h : 0 ≤ c) : 0 ≤ outF A i c := by unfold outF; split <;> omega
theorem out_all {A : List Int} {zs : List (Int × Int)} (h : ∀ z ∈ zs, z.1 ∈ A) : gsum (outF A) zs = 0 := by
  induction zs with
  | nil => rfl
  | cons z r ih =>
    simp only [gsum]
    rw [ih (fun y hy => h y (by simp [hy]))]
    unfold outF
    rw [if_pos (h z (by simp))]; rfl
theorem all_out {A : List Int} {zs : List (Int × Int)} (hp : ∀ z ∈ zs, 0 < z.2) (h : gsum (outF A) zs = 0) : ∀ z ∈ zs, z.1 ∈ A := by
  induction zs with
  | nil => intro z hz; cases hz
  | cons y r ih =>
    simp only [gsum] at h
    have h1 : 0 ≤ outF A y.1 y.2 := out_nn (by have := hp y (by simp); omega)
    have h2 : 0 ≤ gsum (outF A) r := gsum_zero (fun x hx => out_nn (by have := hp x (by simp [hx]); omega))
    intro z hz
    rcases List.mem_cons.1 hz with rfl | hz
    · by_cases hm : z.1 ∈ A
      · exact hm
      · exfalso
        have : outF A z.1 z.2 = z.2 := by unfold outF; rw [if_neg hm]
        have := hp z (by simp)
        omega
    · exact ih (fun x hx => hp x (by simp [hx])) (by omega) z hz
theorem sub_run {l most : Int} {zs : List (Int × Int)} {X : List Int} (hX : ∀ x ∈ X, leafB l x = true) (r : Roll l zs) (h : ∀ z ∈ zs, z.1 ∈ ancL l X) : ∀ z ∈ (runR l most zs).1, z.1 ∈ ancL l X := by
  have key := run_keeps (l := l) (most := most) (fun ys => gsum (outF (ancL l X)) ys = 0) (fun ys p r' q hp => by
    have hk := ready_kids hp
    have e1 := gsum_fold (f := outF (ancL l X)) (fun i => by unfold outF; split <;> rfl) r' hk
    obtain ⟨k1, k2⟩ := kids_bound hk
    have f0 := r'.find p
    have f1 := r'.find (2 * p)
    have f2 := r'.find (2 * p + 1)
    have ea : allV l ys p = findL (2 * p) ys + findL (2 * p + 1) ys + findL p ys := by unfold allV; rw [hk]; rfl
    rw [ea, q] at e1
    have hin := all_out (fun z hz => (r'.strict.2 z hz).2) q
    have hpos : ∀ i, findL i ys ≠ 0 → i ∈ ancL l X := fun i hi => hin _ (find_in hi)
    have hpA : p ∈ ancL l X ∨ (findL (2 * p) ys = 0 ∧ findL (2 * p + 1) ys = 0) := by
      by_cases q1 : findL (2 * p) ys = 0
      · by_cases q2 : findL (2 * p + 1) ys = 0
        · exact .inr ⟨q1, q2⟩
        · exact .inl (anc_up hX (hpos _ q2) (by omega) (by omega))
      · exact .inl (anc_up hX (hpos _ q1) (by omega) (by omega))
    have hnn : 0 ≤ gsum (outF (ancL l X)) (foldDo l ys p).1 := gsum_zero (fun z hz => out_nn (by have := (fold_facts r' p).1.strict.2 z hz; omega))
    have n1 : 0 ≤ outF (ancL l X) (2 * p) (findL (2 * p) ys) := out_nn f1.1
    have n2 : 0 ≤ outF (ancL l X) (2 * p + 1) (findL (2 * p + 1) ys) := out_nn f2.1
    have n3 : 0 ≤ outF (ancL l X) p (findL p ys) := out_nn f0.1
    rcases hpA with hpA | ⟨q1, q2⟩
    · have e0 : ∀ c, outF (ancL l X) p c = 0 := fun c => by unfold outF; rw [if_pos hpA]
      rw [e0, e0] at e1
      show gsum (outF (ancL l X)) (foldDo l ys p).1 = 0
      omega
    · rw [q1, q2] at e1
      have e0 : ∀ i, outF (ancL l X) i 0 = 0 := fun i => by unfold outF; split <;> rfl
      rw [e0, e0] at e1
      have : (0 : Int) + 0 + findL p ys = findL p ys := by omega
      rw [this] at e1
      show gsum (outF (ancL l X)) (foldDo l ys p).1 = 0
      omega) _ zs r (out_all h) (Nat.le_refl _)
  exact all_out (fun z hz => (key.1.strict.2 z hz).2) key.2.1
/-- What a digest, and the bag that it stands for, have in common; X: whatever was ever inserted. -/
structure TI (l k : Int) (zs its : List (Int × Int)) (X : List Int) : Prop where
  dg : Dg l k zs
  bag : Bag l its
  sum : sumL its = sumL zs
  rk : Ranks l zs its
  leafs : ∀ x ∈ X, leafB l x = true
  sub : ∀ z ∈ zs, z.1 ∈ ancL l X
  vals : ∀ y ∈ its, y.1 ∈ X
theorem TI.nil {l k : Int} {X : List Int} (d : Dg l k []) (h : ∀ x ∈ X, leafB l x = true) : TI l k [] [] X := ⟨d, Bag.nil l, rfl, Ranks.nil l, h, fun _ h => (by cases h), fun _ h => (by cases h)⟩
theorem TI.mono {l k : Int} {zs its : List (Int × Int)} {X Y : List Int} (t : TI l k zs its X) (h : ∀ x ∈ X, x ∈ Y) (hY : ∀ x ∈ Y, leafB l x = true) : TI l k zs its Y :=
  ⟨t.dg, t.bag, t.sum, t.rk, hY, fun z hz => anc_mono h (t.sub z hz), fun y hy => h _ (t.vals y hy)⟩
theorem TI.zlen {l k : Int} {zs its : List (Int × Int)} {X : List Int} (t : TI l k zs its X) : zs.length ≤ X.length * (l.toNat + 1) := by
  rw [← anc_len, ← List.length_map (f := fun z : Int × Int => z.1)]
  refine nodup_le ?_ (fun i hi => ?_)
  · exact List.Pairwise.map _ (fun a b (h : a.1 < b.1) => by omega) t.dg.roll.strict.1
  · obtain ⟨z, hz, rfl⟩ := List.mem_map.1 hi
    exact t.sub z hz
theorem TI.ilen {l k : Int} {zs its : List (Int × Int)} {X : List Int} (t : TI l k zs its X) : its.length ≤ X.length := by
  rw [← List.length_map (f := fun z : Int × Int => z.1)]
  refine nodup_le ?_ (fun i hi => ?_)
  · exact List.Pairwise.map _ (fun a b (h : a.1 < b.1) => by omega) t.bag.rise
  · obtain ⟨z, hz, rfl⟩ := List.mem_map.1 hi
    exact t.vals z hz
theorem TI.com {l k : Int} {zs its : List (Int × Int)} {X : List Int} (t : TI l k zs its X) : TI l k (comL l k zs).1 its X := by
  obtain ⟨c1, c2, _⟩ := t.dg.com
  exact ⟨c1, t.bag, by rw [c2]; exact t.sum, t.rk.run t.dg.roll, t.leafs, sub_run t.leafs t.dg.roll t.sub, t.vals⟩
theorem TI.low {l k k' : Int} {zs its : List (Int × Int)} {X : List Int} (t : TI l k zs its X) (h1 : 1 ≤ k') (h2 : k' ≤ k) : TI l k' (lowL l k' zs) its X := by
  obtain ⟨c1, c2, _⟩ := low_spec t.dg h1 h2
  exact ⟨c1, t.bag, by rw [c2]; exact t.sum, t.rk.run t.dg.roll, t.leafs, sub_run t.leafs t.dg.roll t.sub, t.vals⟩
theorem putR_in {x c : Int} {its : List (Int × Int)} {X : List Int} (hx : x ∈ X) (h : ∀ y ∈ its, y.1 ∈ X) : ∀ y ∈ putR x c its, y.1 ∈ X := fun y hy => by
  rcases putR_mem y hy with ⟨e, -⟩ | h'
  · rw [e]; exact hx
  · exact h y h'
theorem rank_add (y a b c : Int) : rankF y a (b + c) = rankF y a b + rankF y a c := by unfold rankF; split <;> omega
/-- Inserted, or not: both tell the same. -/
theorem TI.ins {l k : Int} {zs its : List (Int × Int)} {X : List Int} (t : TI l k zs its X) (x wt : Int) :
    (dgIns l k zs x wt).2 = (badd l its x wt).2 ∧ ∃ Y : List Int, Y.length ≤ X.length + 1 ∧ (∀ z ∈ X, z ∈ Y) ∧ (∀ z ∈ Y, leafB l z = true) ∧ TI l k (dgIns l k zs x wt).1 (badd l its x wt).1 Y := by
  have hs := t.sum
  unfold dgIns badd
  by_cases h1 : leafB l x = false
  · rw [if_pos h1, if_pos h1]; exact ⟨rfl, X, by omega, fun _ h => h, t.leafs, t⟩
  rw [if_neg h1, if_neg h1]
  by_cases h2 : wt < 1
  · rw [if_pos h2, if_pos h2]; exact ⟨rfl, X, by omega, fun _ h => h, t.leafs, t⟩
  rw [if_neg h2, if_neg h2]
  by_cases h3 : 72057594037927935 - sumL zs < wt
  · rw [if_pos h3, if_pos (by omega)]; exact ⟨rfl, X, by omega, fun _ h => h, t.leafs, t⟩
  rw [if_neg h3, if_neg (show ¬ 72057594037927935 - sumL its < wt by omega)]
  refine ⟨rfl, x :: X, by simp, fun z hz => List.mem_cons_of_mem _ hz, ?_, ?_⟩
  · intro z hz
    rcases List.mem_cons.1 hz with rfl | hz
    · simpa using h1
    · exact t.leafs z hz
  · have hx : leafB l x = true := by simpa using h1
    have hY : ∀ z ∈ x :: X, leafB l z = true := fun z hz => by
      rcases List.mem_cons.1 hz with rfl | hz
      · exact hx
      · exact t.leafs z hz
    have t' := t.mono (Y := x :: X) (fun z hz => List.mem_cons_of_mem _ hz) hY
    have hd := t.dg.ins x wt
    unfold dgIns at hd
    rw [if_neg h1, if_neg h2, if_neg h3] at hd
    obtain ⟨d1, -, d3, -⟩ := hd
    obtain ⟨-, d4, d5, d6⟩ := d3 rfl
    obtain ⟨b1, b2, b3, b4, b5⟩ := leaf_bd hx
    have hi : ∀ y, gsum (rankF y) (putR x wt its) = gsum (rankF y) its + rankF y x wt := fun y => putR_gsum (fun a => rank_add y x a wt) its
    have hlA : leafV l x ∈ ancL l (x :: X) := anc_mem.2 ⟨x, by simp, 0, Nat.zero_le _, by rw [Int.pow_zero, Int.ediv_one, b5]⟩
    have key : ∀ ys : List (Int × Int), TI l k ys its (x :: X) → Ranks l (addS ys (leafV l x) wt) (putR x wt its) ∧ ∀ z ∈ addS ys (leafV l x) wt, z.1 ∈ ancL l (x :: X) := fun ys ty => by
      refine ⟨ty.rk.leaf ty.dg.roll hx (by omega) hi, ?_⟩
      have e := gsum_addS (f := outF (ancL l (x :: X))) (fun i => by unfold outF; split <;> rfl) ty.dg.roll.strict (id := leafV l x) (c := wt) (by omega)
      have e0 : ∀ c, outF (ancL l (x :: X)) (leafV l x) c = 0 := fun c => by unfold outF; rw [if_pos hlA]
      rw [e0, e0, out_all ty.sub] at e
      obtain ⟨s1, s2⟩ := addS_spec ty.dg.roll.strict b3 (c := wt) (by omega)
      exact all_out (fun z hz => (s1.2 z hz).2) (by omega)
    have hb := t.bag.put hx (c := wt) (by omega) (by omega)
    have hv := putR_in (x := x) (c := wt) (X := x :: X) (by simp) t'.vals
    cases hf : fullB k zs (leafV l x)
    · rw [hf] at d1 d6
      simp only [Bool.false_eq_true, if_false] at d1 d6 ⊢
      obtain ⟨k1, k2⟩ := key zs t'
      exact ⟨d1, hb, by rw [putR_sum]; omega, k1, hY, k2, hv⟩
    · rw [hf] at d1 d6
      simp only [if_true] at d1 d6 ⊢
      obtain ⟨k1, k2⟩ := key _ t'.com
      exact ⟨d1, hb, by rw [putR_sum]; omega, k1, hY, k2, hv⟩
/-- One bag poured to another one. -/
def pourR (its ys : List (Int × Int)) : List (Int × Int) := ys.foldl (fun a y => putR y.1 y.2 a) its
theorem pour_spec {l : Int} : ∀ (ys its : List (Int × Int)), Bag l its → (∀ y ∈ ys, leafB l y.1 = true ∧ 1 ≤ y.2) → sumL its + sumL ys ≤ 72057594037927935 →
    Bag l (pourR its ys) ∧ sumL (pourR its ys) = sumL its + sumL ys ∧ (∀ y, gsum (rankF y) (pourR its ys) = gsum (rankF y) its + gsum (rankF y) ys) ∧ ∀ X : List Int, (∀ y ∈ its, y.1 ∈ X) → (∀ y ∈ ys, y.1 ∈ X) → ∀ y ∈ pourR its ys, y.1 ∈ X
  | [], its, hb, _, _ => ⟨hb, by simp [pourR, sumL], fun y => by simp [pourR, gsum], fun X h _ => h⟩
  | z :: r, its, hb, hy, hs => by
    have hz := hy z (by simp)
    have hpr : 0 ≤ sumL r := sumL_nonneg (fun y h => by have := (hy y (by simp [h])).2; omega)
    simp only [sumL] at hs
    have hb2 := hb.put hz.1 hz.2 (by omega)
    obtain ⟨p1, p2, p3, p4⟩ := pour_spec r (putR z.1 z.2 its) hb2 (fun y h => hy y (by simp [h])) (by rw [putR_sum]; omega)
    refine ⟨p1, ?_, fun y => ?_, fun X h1 h2 => ?_⟩
    · show sumL (pourR (putR z.1 z.2 its) r) = _
      rw [p2, putR_sum]; simp only [sumL]; omega
    · show gsum (rankF y) (pourR (putR z.1 z.2 its) r) = _
      rw [p3, putR_gsum (fun a => rank_add y z.1 a z.2)]
      simp only [gsum]; omega
    · exact p4 X (putR_in (h2 z (by simp)) h1) (fun y h => h2 y (by simp [h]))
theorem TI.merge {l K K' k : Int} {zs zs' its its' : List (Int × Int)} {X : List Int} (t : TI l K zs its X) (t' : TI l K' zs' its' X) (h1 : 1 ≤ k) (h2 : k ≤ K) (h3 : k ≤ K') (hs : sumL zs + sumL zs' ≤ 72057594037927935) :
    TI l k (mergeL l k zs zs') (pourR its its') X := by
  obtain ⟨a1, a2, a3, a4, a5⟩ := merge_spec t.dg t'.dg h1 h2 h3 hs
  have e1 := t.sum
  have e2 := t'.sum
  obtain ⟨p1, p2, p3, p4⟩ := pour_spec (l := l) its' its t.bag (fun y hy => ⟨t'.bag.val y hy, t'.bag.pos y hy⟩) (by omega)
  have u := t.low h1 h2
  have u' := t'.low h1 h3
  refine ⟨a1, p1, by rw [p2, a2]; omega, fun x => ?_, t.leafs, ?_, p4 X t.vals t'.vals⟩
  · rw [p3, a5 (lowF l x) (fun i a b => by unfold lowF; split <;> omega), a5 (highF l x) (fun i a b => by unfold highF; split <;> omega)]
    have r1 := u.rk x
    have r2 := u'.rk x
    omega
  · refine all_out (fun z hz => (a1.roll.strict.2 z hz).2) ?_
    rw [a5 (outF (ancL l X)) (fun i a b => out_add _ i a b), out_all u.sub, out_all u'.sub]; rfl
/-- Ranks are never off by more. -/
theorem TI.stands {l k : Int} {zs its : List (Int × Int)} {X : List Int} (t : TI l k zs its X) (y : Int) :
    gsum (lowF l y) zs ≤ betV 0 y its ∧ betV 0 y its ≤ gsum (highF l y) zs ∧ gsum (highF l y) zs - gsum (lowF l y) zs ≤ l * (sumL its / k) := by
  have e : betV 0 y its = gsum (rankF y) its := by
    unfold betV
    refine gsum_congr (fun z hz => ?_)
    have hv := t.bag.val z hz
    simp only [leafB, decide_eq_true_eq] at hv
    unfold betF rankF
    by_cases q : z.1 ≤ y
    · rw [if_pos ⟨hv.2.2.1, q⟩, if_pos q]
    · rw [if_neg (fun h => q h.2), if_neg q]
  rw [e]
  obtain ⟨s1, s2⟩ := t.rk y
  refine ⟨s1, s2, ?_⟩
  rw [high_over l y zs (fun z hz => ends_le (t.dg.roll.ids z hz))]
  have h := over_sum (x := y) t.dg.roll (cap_nn _ _) t.dg.light
  have hc : capV (sumL zs) k = sumL its / k := by
    have h0 := sumL_nonneg t.dg.roll.strict.pos
    have hk := t.dg.k1
    unfold capV
    rw [if_neg (by omega), t.sum]
  rw [hc, Int.mul_comm] at h
  omega
end Nl
end Go.Proofs.YtlciofheonbkiaaGreat
