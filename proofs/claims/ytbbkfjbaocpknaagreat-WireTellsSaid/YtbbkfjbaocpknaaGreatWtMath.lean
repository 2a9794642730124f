/- One byte that is changed is told by the sum (no program in sight). -/
import Derived.Test.YtbbkfjbaocpknaaGreatWA
namespace Go.Proofs.YtbbkfjbaocpknaaGreat
namespace Vy

/-- The sums of a text hang on its bytes alone. -/
theorem sumP_congr {a b : Nat} {t u : List UInt8} : ∀ j, (∀ i, i < j → (t.getD i 0).toNat = (u.getD i 0).toNat) → sumP a b t j = sumP a b u j := by
  intro j
  induction j with
  | zero => intro _; rfl
  | succ j ih =>
    intro h
    simp only [sumP]
    rw [ih (fun i hi => h i (by omega)), h j (by omega)]
/-- Where one byte differs, the first sum does, from there on. -/
theorem sumP_low {a b : Nat} {t u : List UInt8} {i : Nat} (hi : (t.getD i 0).toNat ≠ (u.getD i 0).toNat) (h : ∀ j, j ≠ i → (t.getD j 0).toNat = (u.getD j 0).toNat) : ∀ j, i < j → (sumP a b t j).1 ≠ (sumP a b u j).1 := by
  intro j
  induction j with
  | zero => intro hj; omega
  | succ j ih =>
    intro hj
    have ht : (t.getD j 0).toNat < 256 := UInt8.toNat_lt _
    have hu : (u.getD j 0).toNat < 256 := UInt8.toNat_lt _
    simp only [sumP]
    by_cases e : j = i
    · subst e
      rw [sumP_congr j (fun k hk => h k (by omega))]
      generalize (sumP a b u j).1 = s at *
      omega
    · have hlt := ih (by omega)
      rw [h j e]
      cases j with
      | zero => omega
      | succ j =>
        have l1 : (sumP a b t (j + 1)).1 < 65521 := by simp only [sumP]; exact Nat.mod_lt _ (by decide)
        have l2 : (sumP a b u (j + 1)).1 < 65521 := by simp only [sumP]; exact Nat.mod_lt _ (by decide)
        generalize (sumP a b t (j + 1)).1 = s at *
        generalize (sumP a b u (j + 1)).1 = s' at *
        omega
theorem sbytes_low {p q : Nat × Nat} (hp : p.1 < 65521) (hq : q.1 < 65521) (h : sbytes p = sbytes q) : p.1 = q.1 := by
  simp only [sbytes, List.cons.injEq, and_true] at h
  obtain ⟨-, -, h3, h4⟩ := h
  have e3 := congrArg UInt8.toNat h3
  have e4 := congrArg UInt8.toNat h4
  rw [of_low (by omega), of_low (by omega)] at e3
  rw [of_low (by omega), of_low (by omega)] at e4
  omega
/-- A text whose sum stands behind it: is it sealed? -/
def openB (s : List UInt8) : Bool := decide (4 ≤ s.length ∧ s.drop (s.length - 4) = sbytes (sumP 1 0 (s.take (s.length - 4)) (s.length - 4)))
theorem open_seal (t : List UInt8) : openB (sealL t) = true := by
  have hl := seal_len t
  have e : (sealL t).length - 4 = t.length := by omega
  refine decide_eq_true ⟨by omega, ?_⟩
  rw [e]
  unfold sealL
  rw [List.drop_left, List.take_left]
/-- With one byte changed it is not. -/
theorem open_changed {t : List UInt8} {i : Nat} {c : UInt8} (hi : i < (sealL t).length) (hc : (sealL t).getD i 0 ≠ c) : openB ((sealL t).set i c) = false := by
  have hl := seal_len t
  have e : ((sealL t).set i c).length - 4 = t.length := by rw [List.length_set]; omega
  refine decide_eq_false (fun h => ?_)
  obtain ⟨-, h⟩ := h
  rw [e] at h
  have hne : ((sealL t).getD i 0).toNat ≠ c.toNat := fun q => hc (UInt8.toNat_inj.1 q)
  by_cases h1 : i < t.length
  · -- in the text: the first sum differs
    have hd : ((sealL t).set i c).drop t.length = sbytes (sumP 1 0 t t.length) := by
      rw [List.drop_set_of_lt h1]
      unfold sealL
      rw [List.drop_left]
    rw [hd] at h
    obtain ⟨a1, -⟩ := sumP_lt (a := 1) (b := 0) (t := t) (by decide) (by decide) t.length
    obtain ⟨b1, -⟩ := sumP_lt (a := 1) (b := 0) (t := ((sealL t).set i c).take t.length) (by decide) (by decide) t.length
    have hlow := sbytes_low a1 b1 h
    have hg : ∀ j, j < t.length → (sealL t).getD j 0 = t.getD j 0 := fun j hj => by
      unfold sealL
      simp [List.getD, List.getElem?_append_left hj]
    refine sumP_low (i := i) ?_ ?_ t.length h1 hlow
    · have : (((sealL t).set i c).take t.length).getD i 0 = c := by
        simp [List.getD, h1, hi]
      rw [this, ← hg i h1]
      exact hne
    · intro j hj
      by_cases hjl : j < t.length
      · have : (((sealL t).set i c).take t.length).getD j 0 = (sealL t).getD j 0 := by
          simp [List.getD, hjl, List.getElem?_set_ne (Ne.symm hj)]
        rw [this, hg j hjl]
      · have h2 : (((sealL t).set i c).take t.length).getD j 0 = 0 := by
          simp only [List.getD]
          rw [List.getElem?_eq_none (by rw [List.length_take]; omega)]
          rfl
        have h3 : t.getD j 0 = 0 := by simp [List.getD, List.getElem?_eq_none (show t.length ≤ j by omega)]
        rw [h2, h3]
  · -- in the sum: the text is as it was
    have ht : ((sealL t).set i c).take t.length = t := by
      rw [List.take_set_of_le (by omega)]
      unfold sealL
      rw [List.take_left]
    rw [ht] at h
    have hd := congrArg (fun u => u.getD (i - t.length) 0) h
    have e1 : (((sealL t).set i c).drop t.length).getD (i - t.length) 0 = c := by
      simp only [List.getD, List.getElem?_drop]
      rw [show t.length + (i - t.length) = i by omega, List.getElem?_set_self hi]
      rfl
    have e2 : (sbytes (sumP 1 0 t t.length)).getD (i - t.length) 0 = (sealL t).getD i 0 := by
      unfold sealL
      simp only [List.getD]
      rw [List.getElem?_append_right (by omega)]
    rw [e1, e2] at hd
    exact hc hd.symm
end Vy
end Go.Proofs.YtbbkfjbaocpknaaGreat
