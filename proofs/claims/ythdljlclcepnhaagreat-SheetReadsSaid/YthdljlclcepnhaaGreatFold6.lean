/- The walks of fold.First, the reference's Parents, First, Do, and the reference's Same of ints. -/
import Derived.Test.YthdljlclcepnhaaGreatAg7
import Derived.Test.YthdljlclcepnhaaGreatBE
namespace Go.Proofs.YthdljlclcepnhaaGreat
open Go.RowKit Nl

namespace Nl
theorem find_here {xs : List Int} {f : Int → Bool} {k : Nat} (hk : k < xs.length) (h1 : ∀ j, j < k → f (xs.getD j 0) = false) (h2 : f (xs.getD k 0) = true) : xs.find? f = some (xs.getD k 0) := by
  induction xs generalizing k with
  | nil => simp at hk
  | cons x r ih =>
    rw [List.find?_cons]
    cases k with
    | zero => simp only [List.getD_cons_zero] at h2 ⊢; rw [h2]
    | succ k =>
      have h0 := h1 0 (by omega)
      simp only [List.getD_cons_zero] at h0
      rw [h0]
      have := ih (k := k) (by simpa using hk) (fun j hj => by have := h1 (j + 1) (by omega); simpa using this) (by simpa using h2)
      simpa using this
theorem find_nowhere {xs : List Int} {f : Int → Bool} (h1 : ∀ j, j < xs.length → f (xs.getD j 0) = false) : xs.find? f = none := by
  rw [List.find?_eq_none]
  intro x hx
  obtain ⟨k, hk, e⟩ := List.getElem_of_mem hx
  have := h1 k hk
  rw [List.getD_eq_getElem?_getD, List.getElem?_eq_getElem hk, Option.getD_some, e] at this
  rw [this]; decide
theorem parents_in {l : Int} {zs : List (Int × Int)} (r : Roll l zs) : ∀ p ∈ parentsL zs, In64 p := fun p hp => by
  obtain ⟨x, hx, h1, h2⟩ := parents_mem.1 hp
  have h3 := r.ids x hx
  simp only [rightB, decide_eq_true_eq] at h3
  obtain ⟨n, rfl⟩ := Int.eq_ofNat_of_zero_le (show 0 ≤ l by omega)
  have := (pow48 (n := n) (by omega)).2
  simp only [Int.toNat_natCast] at h3
  exact ⟨by omega, by omega⟩
/-- A pair that weighs nothing. -/
theorem fold_zero {l : Int} {zs : List (Int × Int)} (r : Roll l zs) {p : Int} (h : pairV l zs p = 0) : foldDo l zs p = (zs, 0) := by
  cases hk : kidsB l p
  · unfold foldDo; rw [hk]; rfl
  · have h2 := fold_pair l zs p
    rw [h] at h2
    have hf := fold_facts r p
    have hp : findL (2 * p) zs + findL (2 * p + 1) zs = 0 := by unfold pairV at h; rw [hk] at h; simpa using h
    have f1 := r.find (2 * p)
    have f2 := r.find (2 * p + 1)
    have he : (foldDo l zs p).1 = zs := by
      refine strict_ext hf.1.strict r.strict (fun z => ?_)
      have key : ∀ q, findL q (foldDo l zs p).1 = findL q zs := fun q => by
        obtain ⟨k1, k2, k3⟩ := hf.2.2.2.2 hk
        by_cases e1 : q = 2 * p
        · rw [e1, k1]; omega
        · by_cases e2 : q = 2 * p + 1
          · rw [e2, k2]; omega
          · by_cases e3 : q = p
            · rw [e3, k3]; unfold allV; rw [hk]; simp only [if_true]; omega
            · exact fold_other r hk e1 e2 e3
      constructor
      · intro hz
        have h1 := strict_at hf.1.strict (id := z.1) (c := z.2) hz
        rw [key] at h1
        have h3 := (hf.1.strict.2 z hz).2
        have := find_mem r.strict (id := z.1) (by omega)
        rw [h1] at this; exact this
      · intro hz
        have h1 := strict_at r.strict (id := z.1) (c := z.2) hz
        rw [← key] at h1
        have h3 := (r.strict.2 z hz).2
        have := find_mem hf.1.strict (id := z.1) (by omega)
        rw [h1] at this; exact this
    exact Prod.ext he h2
end Nl

/-- A first one, or none. -/
def firstE (o : Option Int) : Ending := .returned (.tuple #[.int .i64 (o.getD 0), .bool o.isSome])
def FirRel (l most : Int) (zs : List Nd) (all : List Int) (w : World) (i : Value) (wr : World) : Prop :=
  ∃ k : Nat, i = .int .i64 k ∧ k ≤ all.length ∧ Hid (∀ j, j < k → readyB l zs (all.getD j 0) most = false) ∧ Below w.heap.size w wr

def RParRel (zs : List Nd) (w : World) (out i : Value) (wr : World) : Prop := ∃ k : Nat, i = .int .i64 k ∧ k ≤ zs.length ∧ RdIB wr w.heap.size out (parentsL (zs.take k)) ∧ Below w.heap.size w wr
def RFirRel (l most : Int) (zs : List Nd) (all : List Int) (b : Nat) (arr : Array Value) (T : Nat) (w : World) (i : Value) (wr : World) : Prop :=
  ∃ k : Nat, i = .int .i64 k ∧ k ≤ all.length ∧ Hid (∀ j, j < k → readyB l zs (all.getD j 0) most = false) ∧ Below w.heap.size w wr ∧ Blk wr b arr T
end Go.Proofs.YthdljlclcepnhaaGreat
