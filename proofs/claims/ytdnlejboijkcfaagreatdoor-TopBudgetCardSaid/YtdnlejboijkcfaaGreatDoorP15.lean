/- Texts laid together. -/
import Derived.Test.YtdnlejboijkcfaaGreatDoorP11
import Derived.Test.YtdnlejboijkcfaaGreatDoorP13
import Derived.Test.YtdnlejboijkcfaaGreatDoorP14
import Derived.Test.YtdnlejboijkcfaaGreatDoorP12
import Derived.Deep.LoopGhost
import Derived.Test.YtdnlejboijkcfaaGreatDoorP10
/- Texts laid together: BlMath2, BlMath4, Made2, BlMath3, Made4. -/
/- What is merged is a digest (no program in sight). -/
namespace Go.Proofs.YtdnlejboijkcfaaGreatDoor
open Go.RowKit
namespace Nl
def eqF (id i c : Int) : Int := if i = id then c else 0
theorem gsum_find {zs : List (Int × Int)} (h : Strict zs) (id : Int) : gsum (eqF id) zs = findL id zs := by
  induction zs with
  | nil => rfl
  | cons z r ih =>
    simp only [gsum, findL, ih h.tail, eqF]
    by_cases q : z.1 = id
    · rw [if_pos q, if_pos q]
      have : findL id r = 0 := by
        have hh := h.head
        clear ih h
        induction r with
        | nil => rfl
        | cons y r ih =>
          have := hh y (List.mem_cons_self ..)
          simp only [findL]
          rw [if_neg (by omega)]
          exact ih (fun a ha => hh a (List.mem_cons_of_mem _ ha))
      omega
    · rw [if_neg q, if_neg q]; omega
theorem find_in {zs : List (Int × Int)} {id : Int} (h : findL id zs ≠ 0) : (id, findL id zs) ∈ zs := by
  induction zs with
  | nil => exact absurd rfl h
  | cons z r ih =>
    simp only [findL] at h ⊢
    by_cases q : z.1 = id
    · rw [if_pos q]; rw [← q]; exact List.mem_cons_self ..
    · rw [if_neg q] at h ⊢; exact List.mem_cons_of_mem _ (ih h)
theorem join_find {l : Int} {xs ys : List (Int × Int)} (hx : Roll l xs) (hy : Roll l ys) (hs : sumL xs + sumL ys ≤ 72057594037927935) (id : Int) : findL id (joinL xs ys) = findL id xs + findL id ys := by
  obtain ⟨_, r1, _, _, g1⟩ := join_spec hx hy hs
  rw [← gsum_find r1.strict, ← gsum_find hx.strict, ← gsum_find hy.strict]
  exact g1 (eqF id) (fun i a b => by unfold eqF; split <;> omega)
theorem light_find {l most : Int} {zs : List (Int × Int)} (hl : lightB l zs most = true) (h0 : 0 ≤ most) {id : Int} (hk : kidsB l id = true) : findL id zs ≤ most := by
  by_cases h : findL id zs = 0
  · omega
  · have hm := find_in h
    simp only [lightB, List.all_eq_true, Bool.not_eq_true'] at hl
    have := hl _ hm
    simp only [heavyB, hk, Bool.true_and, decide_eq_false_iff_not] at this
    omega
theorem cap_add {a b k : Int} (ha : 0 ≤ a) (hb : 0 ≤ b) (hk : 1 ≤ k) : capV a k + capV b k ≤ capV (a + b) k := by
  unfold capV
  rw [if_neg (by omega), if_neg (by omega), if_neg (by omega)]
  refine (Int.le_ediv_iff_mul_le (by omega)).2 ?_
  have h1 := Int.ediv_mul_le a (show k ≠ 0 by omega)
  have h2 := Int.ediv_mul_le b (show k ≠ 0 by omega)
  rw [Int.add_mul]; omega
def mergeL (l k : Int) (zs zs' : List (Int × Int)) : List (Int × Int) := joinL (lowL l k zs) (lowL l k zs')
theorem merge_spec {l k K K' : Int} {zs zs' : List (Int × Int)} (d : Dg l K zs) (d' : Dg l K' zs') (h1 : 1 ≤ k) (h2 : k ≤ K) (h3 : k ≤ K') (hs : sumL zs + sumL zs' ≤ 72057594037927935) :
    Dg l k (mergeL l k zs zs') ∧ sumL (mergeL l k zs zs') = sumL zs + sumL zs' ∧ ((mergeL l k zs zs').length : Int) ≤ 8 * k - 2 ∧ (mergeL l k zs zs').length ≤ zs.length + zs'.length ∧
      ∀ f : Int → Int → Int, (∀ i a b, f i (a + b) = f i a + f i b) → gsum f (mergeL l k zs zs') = gsum f (lowL l k zs) + gsum f (lowL l k zs') := by
  obtain ⟨a1, a2, a3, a4⟩ := low_spec d h1 h2
  obtain ⟨b1, b2, b3, b4⟩ := low_spec d' h1 h3
  have hs' : sumL (lowL l k zs) + sumL (lowL l k zs') ≤ 72057594037927935 := by omega
  obtain ⟨_, r1, r2, r3, r4⟩ := join_spec a1.roll b1.roll hs'
  have hf := join_find a1.roll b1.roll hs'
  have p1 := sumL_nonneg a1.roll.strict.pos
  have p2 := sumL_nonneg b1.roll.strict.pos
  unfold mergeL
  generalize lowL l k zs = A at *
  generalize lowL l k zs' = B at *
  have hl1 := a1.light
  have hl2 := b1.light
  have ca := cap_add p1 p2 h1
  have c1 := cap_nn (sumL A) k
  have c2 := cap_nn (sumL B) k
  refine ⟨⟨r1, h1, a1.k2, ?_, by omega⟩, by omega, by omega, by omega, r4⟩
  rw [r3]
  simp only [lightB, List.all_eq_true, Bool.not_eq_true']
  intro z hz
  cases hk : kidsB l z.1
  · simp [heavyB, hk]
  · have e := strict_at r1.strict (id := z.1) (c := z.2) hz
    rw [hf] at e
    have q1 := light_find hl1 c1 hk
    have q2 := light_find hl2 c2 hk
    simp only [heavyB, hk, Bool.true_and, decide_eq_false_iff_not]
    omega
theorem merge_load {l k kind : Int} {zs zs' : List (Int × Int)} (hp : poolIs kind l = true) (m : Dg l k (mergeL l k zs zs')) : loadE kind l k (mergeL l k zs zs') = 0 := by
  have hk : isK k = true := decide_eq_true ⟨m.k1, m.k2⟩
  have := m.room
  unfold loadE
  rw [if_neg (by rw [hp, hk]; decide), if_neg (by rw [rollB_iff.2 m.roll]; decide), if_neg (fun q => q.elim (fun q => by omega) (fun q => by rw [m.light] at q; cases q))]
end Nl
end Go.Proofs.YtdnlejboijkcfaaGreatDoor
/- What calls leave of a digest (no program in sight). -/
namespace Go.Proofs.YtdnlejboijkcfaaGreatDoor
namespace Nl
end Nl
end Go.Proofs.YtdnlejboijkcfaaGreatDoor
/- The walk of the statements' own Made: a digest of calls, and the bag of all that was accepted. -/
namespace Go.Proofs.YtdnlejboijkcfaaGreatDoor
open Go.RowKit Nl
namespace Nl
structure MadeI (l k : Int) (zs its : List (Int × Int)) : Prop where
  dg : Dg l k zs
  bag : Bag l its
  sum : sumL its = sumL zs
  st : Stands l zs its
end Nl
end Go.Proofs.YtdnlejboijkcfaaGreatDoor
/- What is merged stands for what both were told (no program in sight). -/
namespace Go.Proofs.YtdnlejboijkcfaaGreatDoor
open Go.RowKit
namespace Nl
end Nl
end Go.Proofs.YtdnlejboijkcfaaGreatDoor
/- The walk of law 13's Made: which nodes. -/
namespace Go.Proofs.YtdnlejboijkcfaaGreatDoor
open Go.RowKit Nl
end Go.Proofs.YtdnlejboijkcfaaGreatDoor

/- Ranks: what weighs up to a value is at least what lies wholly up to it, and at most what begins up to it (no program in sight). -/
namespace Go.Proofs.YtdnlejboijkcfaaGreatDoor
open Go.RowKit Nl
namespace Nl
def lowF (l x i c : Int) : Int := if endsHi l i ≤ x then c else 0
def highF (l x i c : Int) : Int := if endsLo l i ≤ x then c else 0
def rankF (x v c : Int) : Int := if v ≤ x then c else 0
def Ranks (l : Int) (zs its : List (Int × Int)) : Prop := ∀ x, gsum (lowF l x) zs ≤ gsum (rankF x) its ∧ gsum (rankF x) its ≤ gsum (highF l x) zs
theorem right_nat {l id : Int} (h : rightB l id = true) : ∃ n i d : Nat, l = (n : Int) ∧ id = (i : Int) ∧ depN id = d ∧ d ≤ n ∧ 1 ≤ n ∧ n ≤ 48 ∧ 2 ^ d ≤ i ∧ i < 2 ^ (d + 1) := by
  have h' := h
  simp only [rightB, decide_eq_true_eq] at h'
  obtain ⟨n, rfl⟩ := Int.eq_ofNat_of_zero_le (show 0 ≤ l by omega)
  obtain ⟨i, rfl⟩ := Int.eq_ofNat_of_zero_le (show 0 ≤ id by omega)
  obtain ⟨a, b, c, d, e, f⟩ := right_dep h
  exact ⟨n, i, _, rfl, rfl, rfl, by simpa using d, by omega, by omega, e, f⟩
theorem dep_at {d i : Nat} (h1 : 2 ^ d ≤ i) (h2 : i < 2 ^ (d + 1)) : depN (i : Int) = d := by
  have h0 : 1 ≤ 2 ^ d := Nat.one_le_two_pow
  obtain ⟨-, p1, p2⟩ := dep_pow (i := i) (by omega)
  have a1 : 2 ^ depN (i : Int) < 2 ^ (d + 1) := by omega
  have a2 : 2 ^ d < 2 ^ (depN (i : Int) + 1) := by omega
  have a3 := (Nat.pow_lt_pow_iff_right (a := 2) (by omega)).1 a1
  have a4 := (Nat.pow_lt_pow_iff_right (a := 2) (by omega)).1 a2
  omega
theorem ends_nat {n i d : Nat} (hd : depN (i : Int) = d) (_hdn : d ≤ n) : endsLo (n : Int) (i : Int) = ((i * 2 ^ (n - d) : Nat) : Int) - ((2 ^ n : Nat) : Int) ∧ endsHi (n : Int) (i : Int) = (((i + 1) * 2 ^ (n - d) : Nat) : Int) - 1 - ((2 ^ n : Nat) : Int) := by
  unfold endsLo endsHi
  rw [hd]
  simp
theorem kid_ends {l p : Int} (h : kidsB l p = true) : endsLo l (2 * p) = endsLo l p ∧ endsHi l (2 * p + 1) = endsHi l p ∧ endsHi l (2 * p) ≤ endsHi l p ∧ endsLo l p ≤ endsLo l (2 * p + 1) := by
  simp only [kidsB, Bool.and_eq_true, decide_eq_true_eq] at h
  obtain ⟨hr, hlt⟩ := h
  obtain ⟨n, i, d, rfl, rfl, hd, hdn, hn1, hn2, h1, h2⟩ := right_nat hr
  have hi : i < 2 ^ n := by
    rw [Int.toNat_natCast] at hlt
    exact_mod_cast hlt
  have hlt2 : 2 ^ d < 2 ^ n := by omega
  have hdn2 := (Nat.pow_lt_pow_iff_right (a := 2) (by omega)).1 hlt2
  have k0 : depN ((2 * i : Nat) : Int) = d + 1 := dep_at (by rw [Nat.pow_succ]; omega) (by rw [Nat.pow_succ]; omega)
  have k1 : depN ((2 * i + 1 : Nat) : Int) = d + 1 := dep_at (by rw [Nat.pow_succ]; omega) (by rw [Nat.pow_succ]; omega)
  obtain ⟨a1, a2⟩ := ends_nat hd hdn
  obtain ⟨b1, b2⟩ := ends_nat (n := n) k0 (by omega)
  obtain ⟨c1, c2⟩ := ends_nat (n := n) k1 (by omega)
  have e0 : ((2 * i : Nat) : Int) = 2 * (i : Int) := by simp
  have e1 : ((2 * i + 1 : Nat) : Int) = 2 * (i : Int) + 1 := by simp
  rw [e0] at b1 b2
  rw [e1] at c1 c2
  rw [a1, a2, b1, b2, c1, c2]
  obtain ⟨m, em⟩ : ∃ m, n - (d + 1) = m := ⟨_, rfl⟩
  have em2 : n - d = m + 1 := by omega
  rw [em, em2, Nat.pow_succ]
  have q1 : 2 * i * 2 ^ m = i * (2 ^ m * 2) := by rw [Nat.mul_comm 2 i, Nat.mul_assoc, Nat.mul_comm 2]
  have q2 : (2 * i + 1) * 2 ^ m = i * (2 ^ m * 2) + 2 ^ m := by rw [Nat.add_mul, q1, Nat.one_mul]
  have q3 : (2 * i + 1 + 1) * 2 ^ m = i * (2 ^ m * 2) + 2 ^ m + 2 ^ m := by rw [Nat.add_mul, q2, Nat.one_mul]
  have q4 : (i + 1) * (2 ^ m * 2) = i * (2 ^ m * 2) + 2 ^ m * 2 := by rw [Nat.add_mul, Nat.one_mul]
  rw [q1, q2, q3, q4]
  generalize i * (2 ^ m * 2) = u
  generalize 2 ^ m = v
  generalize 2 ^ n = t
  omega
theorem Ranks.run {l most : Int} {zs its : List (Int × Int)} (r : Roll l zs) (s : Ranks l zs its) : Ranks l (runR l most zs).1 its := fun x => by
  obtain ⟨s1, s2⟩ := s x
  have key := (run_keeps (most := most) (fun ys => gsum (lowF l x) ys ≤ gsum (lowF l x) zs ∧ gsum (highF l x) zs ≤ gsum (highF l x) ys) (fun ys p r' q hp => by
    have hk := ready_kids hp
    have e1 := gsum_fold (f := lowF l x) (fun i => by unfold lowF; split <;> rfl) r' hk
    have e2 := gsum_fold (f := highF l x) (fun i => by unfold highF; split <;> rfl) r' hk
    obtain ⟨k1, k2, k3, k4⟩ := kid_ends hk
    have f0 := r'.find p
    have f1 := r'.find (2 * p)
    have f2 := r'.find (2 * p + 1)
    have ea : allV l ys p = findL (2 * p) ys + findL (2 * p + 1) ys + findL p ys := by unfold allV; rw [hk]; rfl
    rw [ea] at e1 e2
    generalize findL (2 * p) ys = a at *
    generalize findL (2 * p + 1) ys = b at *
    generalize findL p ys = c at *
    have t1 : lowF l x p (a + b + c) ≤ lowF l x (2 * p) a + lowF l x (2 * p + 1) b + lowF l x p c := by
      unfold lowF
      split <;> split <;> split <;> omega
    have t2 : highF l x (2 * p) a + highF l x (2 * p + 1) b + highF l x p c ≤ highF l x p (a + b + c) := by
      unfold highF
      split <;> split <;> split <;> omega
    omega) _ zs r ⟨Int.le_refl _, Int.le_refl _⟩ nlr).2.1
  omega
theorem Ranks.nil (l : Int) : Ranks l [] [] := fun x => by simp [gsum]
theorem leaf_ends {l x : Int} (h : leafB l x = true) : endsLo l (leafV l x) = x ∧ endsHi l (leafV l x) = x := by
  have h' := h
  simp only [leafB, decide_eq_true_eq] at h'
  obtain ⟨h1, h2, h3, h4⟩ := h'
  obtain ⟨n, rfl⟩ := Int.eq_ofNat_of_zero_le (show 0 ≤ l by omega)
  obtain ⟨a, rfl⟩ := Int.eq_ofNat_of_zero_le (show 0 ≤ x by omega)
  have e : leafV (n : Int) (a : Int) = ((2 ^ n + a : Nat) : Int) := by unfold leafV; rw [if_pos h]; simp
  rw [Int.toNat_natCast] at h4
  have h5 : a < 2 ^ n := by exact_mod_cast h4
  have hd : depN ((2 ^ n + a : Nat) : Int) = n := dep_at (by omega) (by rw [Nat.pow_succ]; omega)
  obtain ⟨a1, a2⟩ := ends_nat hd nlr
  rw [e, a1, a2]
  simp
  omega
theorem Ranks.leaf {l x c : Int} {zs its its' : List (Int × Int)} (r : Roll l zs) (s : Ranks l zs its) (hx : leafB l x = true) (hc : 0 ≤ c) (hi : ∀ y, gsum (rankF y) its' = gsum (rankF y) its + rankF y x c) : Ranks l (addS zs (leafV l x) c) its' := fun y => by
  obtain ⟨s1, s2⟩ := s y
  obtain ⟨b1, b2⟩ := leaf_ends hx
  rw [hi]
  have e1 := gsum_addS (f := lowF l y) (fun i => by unfold lowF; split <;> rfl) r.strict (id := leafV l x) (c := c) hc
  have e2 := gsum_addS (f := highF l y) (fun i => by unfold highF; split <;> rfl) r.strict (id := leafV l x) (c := c) hc
  have u1 : ∀ c', lowF l y (leafV l x) c' = if x ≤ y then c' else 0 := fun c' => by unfold lowF; rw [b2]
  have u2 : ∀ c', highF l y (leafV l x) c' = if x ≤ y then c' else 0 := fun c' => by unfold highF; rw [b1]
  rw [u1, u1] at e1
  rw [u2, u2] at e2
  unfold rankF at *
  generalize findL (leafV l x) zs = v at *
  by_cases hq : x ≤ y
  · rw [if_pos hq, if_pos hq] at e1 e2
    rw [if_pos hq]
    omega
  · rw [if_neg hq, if_neg hq] at e1 e2
    rw [if_neg hq]
    omega
theorem over_way {l i x : Int} (hr : rightB l i = true) (h1 : endsLo l i ≤ x) (h2 : x < endsHi l i) : kidsB l i = true ∧ i ∈ (List.range l.toNat).map (fun j => (2 ^ l.toNat + x) / 2 ^ (j + 1)) := by
  have hr0 := hr
  obtain ⟨n, i, d, rfl, rfl, hd, hdn, hn1, hn2, p1, p2⟩ := right_nat hr
  obtain ⟨a1, a2⟩ := ends_nat hd hdn
  have hdn' : d ≠ n := by
    rintro rfl
    rw [a1] at h1
    rw [a2] at h2
    simp at h1 h2
    omega
  have hlt : i < 2 ^ n := by
    have : 2 ^ (d + 1) ≤ 2 ^ n := Nat.pow_le_pow_right (by omega) (by omega)
    omega
  rw [a1] at h1
  rw [a2] at h2
  have hs : 2 ^ n = 2 ^ d * 2 ^ (n - d) := by rw [← Nat.pow_add]; congr 1; omega
  have q1 : 2 ^ d * 2 ^ (n - d) ≤ i * 2 ^ (n - d) := Nat.mul_le_mul_right _ p1
  have q2 : (i + 1) * 2 ^ (n - d) ≤ 2 ^ (d + 1) * 2 ^ (n - d) := Nat.mul_le_mul_right _ p2
  have q3 : 2 ^ (d + 1) * 2 ^ (n - d) = 2 * 2 ^ n := by rw [Nat.pow_succ, Nat.mul_comm (2 ^ d) 2, Nat.mul_assoc, ← hs]
  rw [← hs] at q1
  rw [q3] at q2
  obtain ⟨a, rfl⟩ := Int.eq_ofNat_of_zero_le (show 0 ≤ x by omega)
  refine ⟨?_, ?_⟩
  · simp only [kidsB, hr0, Bool.true_and, decide_eq_true_eq, Int.toNat_natCast]
    exact_mod_cast hlt
  · rw [Int.toNat_natCast]
    refine List.mem_map.2 ⟨n - d - 1, List.mem_range.2 (by omega), ?_⟩
    rw [show n - d - 1 + 1 = n - d by omega]
    have e : (2 ^ n + a) / 2 ^ (n - d) = i := (Nat.div_eq_iff (Nat.pow_pos (by omega))).2 ⟨by omega, by
      rw [Nat.add_mul, Nat.one_mul] at h2 q2
      have : 1 ≤ 2 ^ (n - d) := Nat.one_le_two_pow
      generalize i * 2 ^ (n - d) = u at *
      generalize 2 ^ (n - d) = v at *
      generalize 2 ^ n = t at *
      omega⟩
    have c1 : (2 : Int) ^ n + (a : Int) = ((2 ^ n + a : Nat) : Int) := by simp
    have c2 : (2 : Int) ^ (n - d) = ((2 ^ (n - d) : Nat) : Int) := by simp
    rw [c1, c2, ← Int.natCast_ediv, e]
def overF (l x i c : Int) : Int := if endsLo l i ≤ x ∧ x < endsHi l i then c else 0
theorem over_sum {l most x : Int} {zs : List (Int × Int)} (r : Roll l zs) (h0 : 0 ≤ most) (hl : lightB l zs most = true) : gsum (overF l x) zs ≤ most * l := by
  have hl1 := r.l1
  have key : ∀ ys : List (Int × Int), (∀ y ∈ ys, y ∈ zs) → ys.Pairwise (fun a b => a.1 < b.1) → gsum (overF l x) ys ≤ most * ((ys.filter (fun y => decide (endsLo l y.1 ≤ x ∧ x < endsHi l y.1))).length : Int) := by
    intro ys
    induction ys with
    | nil => intro _ _; simp [gsum]
    | cons y t ih =>
      intro hm hp
      have h1 := ih (fun z hz => hm z (List.mem_cons_of_mem _ hz)) (List.pairwise_cons.1 hp).2
      have hy := hm y (List.mem_cons_self ..)
      simp only [gsum]
      by_cases hc : endsLo l y.1 ≤ x ∧ x < endsHi l y.1
      · rw [List.filter_cons_of_pos (by simpa using hc), List.length_cons]
        have ek := (over_way (r.ids y hy) hc.1 hc.2).1
        have hh := List.all_eq_true.1 hl y hy
        have hcy : y.2 ≤ most := by
          simp only [heavyB, ek, Bool.true_and, Bool.not_eq_true', decide_eq_false_iff_not] at hh
          omega
        unfold overF
        rw [if_pos hc]
        have e : most * ((((t.filter (fun y => decide (endsLo l y.1 ≤ x ∧ x < endsHi l y.1))).length + 1 : Nat)) : Int) = most * ((t.filter (fun y => decide (endsLo l y.1 ≤ x ∧ x < endsHi l y.1))).length : Int) + most := by
          rw [Int.natCast_add, Int.mul_add]; simp
        rw [e]
        unfold overF at h1
        omega
      · rw [List.filter_cons_of_neg (by simpa using hc)]
        unfold overF
        rw [if_neg hc]
        unfold overF at h1
        omega
  have h1 := key zs (fun _ h => h) r.strict.1
  have hn : ((zs.filter (fun y => decide (endsLo l y.1 ≤ x ∧ x < endsHi l y.1))).map (fun y => y.1)).Nodup := by
    have hp : ((zs.filter (fun y => decide (endsLo l y.1 ≤ x ∧ x < endsHi l y.1)))).Pairwise (fun a b => a.1 < b.1) := r.strict.1.filter _
    exact List.Pairwise.map _ (fun a b (h : a.1 < b.1) => by omega) hp
  have h2 := nodup_le hn (ys := (List.range l.toNat).map (fun j => (2 ^ l.toNat + x) / 2 ^ (j + 1))) (fun i hi => by
    obtain ⟨y, hy, rfl⟩ := List.mem_map.1 hi
    obtain ⟨hy1, hy2⟩ := List.mem_filter.1 hy
    have hy2 := of_decide_eq_true hy2
    exact (over_way (r.ids y hy1) hy2.1 hy2.2).2)
  simp only [List.length_map, List.length_range] at h2
  generalize (zs.filter (fun y => decide (endsLo l y.1 ≤ x ∧ x < endsHi l y.1))).length = m at *
  have h3 : most * (m : Int) ≤ most * l := Int.mul_le_mul_of_nonneg_left (by omega) h0
  omega
theorem high_over (l x : Int) (zs : List (Int × Int)) (h : ∀ y ∈ zs, endsLo l y.1 ≤ endsHi l y.1) : gsum (highF l x) zs = gsum (lowF l x) zs + gsum (overF l x) zs := by
  rw [← gsum_add]
  refine gsum_congr (fun y hy => ?_)
  have := h y hy
  unfold highF lowF overF
  split <;> split <;> split <;> omega
theorem ends_le {l id : Int} (h : rightB l id = true) : endsLo l id ≤ endsHi l id := by
  obtain ⟨n, i, d, rfl, rfl, hd, hdn, hn1, hn2, p1, p2⟩ := right_nat h
  obtain ⟨a1, a2⟩ := ends_nat hd hdn
  rw [a1, a2, Nat.add_mul, Nat.one_mul]
  have : 1 ≤ 2 ^ (n - d) := Nat.one_le_two_pow
  omega
end Nl
end Go.Proofs.YtdnlejboijkcfaaGreatDoor
