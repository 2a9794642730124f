/- What is merged is a digest (no program in sight). -/
import Derived.Test.YtnakieopnobjmaaGreatBlMath
import Derived.Test.YtnakieopnobjmaaGreatDr5
namespace Go.Proofs.YtnakieopnobjmaaGreat
open Go.RowKit
namespace Nl

def eqF (id i c : Int) : Int := if i = id then c else 0
theorem gsum_find {zs : List (Int × Int)} (h : Strict zs) (id : Int) : gsum (eqF id) zs = findL id zs := by
  induction zs with
  | nil => rfl
  | cons z r ih =>
    simp only [gsum, findL, ih h.tail, eqF]
    by_cases q : z.1 = id
    · rw [if_pos q, if_pos q]
      have : findL id r = 0 := by
        have hh := h.head
        clear ih h
        induction r with
        | nil => rfl
        | cons y r ih =>
          have := hh y (List.mem_cons_self ..)
          simp only [findL]
          rw [if_neg (by omega)]
          exact ih (fun a ha => hh a (List.mem_cons_of_mem _ ha))
      omega
    · rw [if_neg q, if_neg q]; omega
theorem find_in {zs : List (Int × Int)} {id : Int} (h : findL id zs ≠ 0) : (id, findL id zs) ∈ zs := by
  induction zs with
  | nil => exact absurd rfl h
  | cons z r ih =>
    simp only [findL] at h ⊢
    by_cases q : z.1 = id
    · rw [if_pos q]; rw [← q]; exact List.mem_cons_self ..
    · rw [if_neg q] at h ⊢; exact List.mem_cons_of_mem _ (ih h)
theorem join_find {l : Int} {xs ys : List (Int × Int)} (hx : Roll l xs) (hy : Roll l ys) (hs : sumL xs + sumL ys ≤ 72057594037927935) (id : Int) : findL id (joinL xs ys) = findL id xs + findL id ys := by
  obtain ⟨_, r1, _, _, g1⟩ := join_spec hx hy hs
  rw [← gsum_find r1.strict, ← gsum_find hx.strict, ← gsum_find hy.strict]
  exact g1 (eqF id) (fun i a b => by unfold eqF; split <;> omega)
theorem light_find {l most : Int} {zs : List (Int × Int)} (hl : lightB l zs most = true) (h0 : 0 ≤ most) {id : Int} (hk : kidsB l id = true) : findL id zs ≤ most := by
  by_cases h : findL id zs = 0
  · omega
  · have hm := find_in h
    simp only [lightB, List.all_eq_true, Bool.not_eq_true'] at hl
    have := hl _ hm
    simp only [heavyB, hk, Bool.true_and, decide_eq_false_iff_not] at this
    omega
theorem cap_add {a b k : Int} (ha : 0 ≤ a) (hb : 0 ≤ b) (hk : 1 ≤ k) : capV a k + capV b k ≤ capV (a + b) k := by
  unfold capV
  rw [if_neg (by omega), if_neg (by omega), if_neg (by omega)]
  refine (Int.le_ediv_iff_mul_le (by omega)).2 ?_
  have h1 := Int.ediv_mul_le a (show k ≠ 0 by omega)
  have h2 := Int.ediv_mul_le b (show k ≠ 0 by omega)
  rw [Int.add_mul]; omega
/-- What two digests are merged to. -/
def mergeL (l k : Int) (zs zs' : List (Int × Int)) : List (Int × Int) := joinL (lowL l k zs) (lowL l k zs')
theorem merge_spec {l k K K' : Int} {zs zs' : List (Int × Int)} (d : Dg l K zs) (d' : Dg l K' zs') (h1 : 1 ≤ k) (h2 : k ≤ K) (h3 : k ≤ K') (hs : sumL zs + sumL zs' ≤ 72057594037927935) :
    Dg l k (mergeL l k zs zs') ∧ sumL (mergeL l k zs zs') = sumL zs + sumL zs' ∧ ((mergeL l k zs zs').length : Int) ≤ 8 * k - 2 ∧ (mergeL l k zs zs').length ≤ zs.length + zs'.length ∧
      ∀ f : Int → Int → Int, (∀ i a b, f i (a + b) = f i a + f i b) → gsum f (mergeL l k zs zs') = gsum f (lowL l k zs) + gsum f (lowL l k zs') := by
  obtain ⟨a1, a2, a3, a4⟩ := low_spec d h1 h2
  obtain ⟨b1, b2, b3, b4⟩ := low_spec d' h1 h3
  have hs' : sumL (lowL l k zs) + sumL (lowL l k zs') ≤ 72057594037927935 := by omega
  obtain ⟨_, r1, r2, r3, r4⟩ := join_spec a1.roll b1.roll hs'
  have hf := join_find a1.roll b1.roll hs'
  have p1 := sumL_nonneg a1.roll.strict.pos
  have p2 := sumL_nonneg b1.roll.strict.pos
  unfold mergeL
  generalize lowL l k zs = A at *
  generalize lowL l k zs' = B at *
  have hl1 := a1.light
  have hl2 := b1.light
  have ca := cap_add p1 p2 h1
  have c1 := cap_nn (sumL A) k
  have c2 := cap_nn (sumL B) k
  refine ⟨⟨r1, h1, a1.k2, ?_, by omega⟩, by omega, by omega, by omega, r4⟩
  rw [r3]
  simp only [lightB, List.all_eq_true, Bool.not_eq_true']
  intro z hz
  cases hk : kidsB l z.1
  · simp [heavyB, hk]
  · have e := strict_at r1.strict (id := z.1) (c := z.2) hz
    rw [hf] at e
    have q1 := light_find hl1 c1 hk
    have q2 := light_find hl2 c2 hk
    simp only [heavyB, hk, Bool.true_and, decide_eq_false_iff_not]
    omega
theorem merge_load {l k kind : Int} {zs zs' : List (Int × Int)} (hp : poolIs kind l = true) (m : Dg l k (mergeL l k zs zs')) : loadE kind l k (mergeL l k zs zs') = 0 := by
  have hk : isK k = true := decide_eq_true ⟨m.k1, m.k2⟩
  have := m.room
  unfold loadE
  rw [if_neg (by rw [hp, hk]; decide), if_neg (by rw [rollB_iff.2 m.roll]; decide), if_neg (fun q => q.elim (fun q => by omega) (fun q => by rw [m.light] at q; cases q))]
end Nl
end Go.Proofs.YtnakieopnobjmaaGreat
