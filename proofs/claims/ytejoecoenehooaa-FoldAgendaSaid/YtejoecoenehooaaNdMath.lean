/- Lists of nodes: the plain functions that the reference's layer 6 computes (no program in sight). -/
namespace Go.Proofs.Ytejoecoenehooaa
namespace Nl

/-- The weight of all, from n on; none: too much, or one below 0. -/
def totF : Int → List (Int × Int) → Option Int
  | n, [] => some n
  | n, x :: r => if x.2 < 0 ∨ 72057594037927935 - n < x.2 then none else totF (n + x.2) r
def totOk (xs : List (Int × Int)) : Bool := (totF 0 xs).isSome
def totV (xs : List (Int × Int)) : Int := (totF 0 xs).getD 0
/-- The weight of a node. -/
def findL (id : Int) : List (Int × Int) → Int
  | [] => 0
  | x :: r => if x.1 = id then x.2 else findL id r
/-- Where one is put: behind all that aren't greater. -/
def back (xs : List (Int × Int)) (id : Int) : Nat → Nat
  | 0 => 0
  | n + 1 => if id < (xs.getD n (0, 0)).1 then back xs id n else n + 1
def insL (xs : List (Int × Int)) (y : Int × Int) : List (Int × Int) := xs.take (back xs y.1 xs.length) ++ y :: xs.drop (back xs y.1 xs.length)
def sortL (xs : List (Int × Int)) : List (Int × Int) := xs.foldl insL []
/-- One node more behind a folded list. -/
def mstep (out : List (Int × Int)) (x : Int × Int) : List (Int × Int) :=
  if x.2 = 0 then out else if 0 < out.length ∧ (out.getD (out.length - 1) (0, 0)).1 = x.1 then out.dropLast ++ [((out.getD (out.length - 1) (0, 0)).1, (out.getD (out.length - 1) (0, 0)).2 + x.2)] else out ++ [x]
/-- The pass over a sorted list. -/
def pass : List (Int × Int) → List (Int × Int) → Option (List (Int × Int))
  | out, [] => some out
  | out, x :: r => if x.1 < 1 then none else pass (mstep out x) r
def foldL (xs : List (Int × Int)) : Option (List (Int × Int)) := if totOk xs then pass [] (sortL xs) else none

theorem totF_bd {n m : Int} {xs : List (Int × Int)} (hn : 0 ≤ n ∧ n ≤ 72057594037927935) (h : totF n xs = some m) : n ≤ m ∧ m ≤ 72057594037927935 := by
  induction xs generalizing n with
  | nil => simp [totF] at h; omega
  | cons x r ih =>
    simp only [totF] at h
    split at h
    · cases h
    · have := ih (n := n + x.2) (by omega) h; omega
theorem totF_counts {n m : Int} {xs : List (Int × Int)} (hn : 0 ≤ n ∧ n ≤ 72057594037927935) (h : totF n xs = some m) : ∀ x ∈ xs, 0 ≤ x.2 ∧ x.2 ≤ m - n := by
  induction xs generalizing n with
  | nil => intro x hx; cases hx
  | cons y r ih =>
    simp only [totF] at h
    split at h
    · cases h
    · have hb := totF_bd (n := n + y.2) (by omega) h
      have h2 := ih (n := n + y.2) (by omega) h
      intro x hx
      cases hx with
      | head => omega
      | tail _ hx => have := h2 x hx; omega
theorem back_le (xs : List (Int × Int)) (id : Int) (n : Nat) : back xs id n ≤ n := by
  induction n with
  | zero => exact Nat.le_refl _
  | succ n ih => unfold back; split <;> omega
theorem insL_length (xs : List (Int × Int)) (y : Int × Int) : (insL xs y).length = xs.length + 1 := by
  have := back_le xs y.1 xs.length
  unfold insL; simp; omega
theorem foldl_insL_length (ys xs : List (Int × Int)) : (ys.foldl insL xs).length = xs.length + ys.length := by
  induction ys generalizing xs with
  | nil => rfl
  | cons y r ih => simp only [List.foldl_cons, ih, insL_length, List.length_cons]; omega
theorem sortL_length (xs : List (Int × Int)) : (sortL xs).length = xs.length := by
  unfold sortL; rw [foldl_insL_length]; simp
theorem sortL_snoc (xs : List (Int × Int)) (y : Int × Int) : sortL (xs ++ [y]) = insL (sortL xs) y := by
  unfold sortL; rw [List.foldl_append]; rfl
theorem mstep_length (out : List (Int × Int)) (x : Int × Int) : (mstep out x).length ≤ out.length + 1 := by
  unfold mstep
  split
  · omega
  · split <;> simp <;> omega

/-- All weights together. -/
def sumL : List (Int × Int) → Int
  | [] => 0
  | x :: r => x.2 + sumL r
/-- No weight is below 0. -/
def Pos (xs : List (Int × Int)) : Prop := ∀ x ∈ xs, 0 ≤ x.2
theorem sumL_append (xs ys : List (Int × Int)) : sumL (xs ++ ys) = sumL xs + sumL ys := by
  induction xs with
  | nil => simp [sumL]
  | cons x r ih => simp only [List.cons_append, sumL, ih]; omega
theorem sumL_nonneg {xs : List (Int × Int)} (h : Pos xs) : 0 ≤ sumL xs := by
  induction xs with
  | nil => simp [sumL]
  | cons x r ih =>
    have h1 := h x (by simp)
    have h2 := ih (fun y hy => h y (by simp [hy]))
    simp only [sumL]; omega
theorem sumL_take_drop (xs : List (Int × Int)) (k : Nat) : sumL xs = sumL (xs.take k) + sumL (xs.drop k) := by
  rw [← sumL_append, List.take_append_drop]
theorem totF_sum {n m : Int} {xs : List (Int × Int)} (h : totF n xs = some m) : m = n + sumL xs ∧ Pos xs := by
  induction xs generalizing n with
  | nil => simp [totF] at h; simp [sumL, Pos, h]
  | cons x r ih =>
    simp only [totF] at h
    split at h
    · cases h
    · obtain ⟨h1, h2⟩ := ih h
      refine ⟨by simp only [sumL]; omega, fun y hy => ?_⟩
      cases hy with
      | head => omega
      | tail _ hy => exact h2 y hy
theorem insL_sum (xs : List (Int × Int)) (y : Int × Int) : sumL (insL xs y) = sumL xs + y.2 := by
  unfold insL
  rw [sumL_append]
  simp only [sumL]
  have := sumL_take_drop xs (back xs y.1 xs.length)
  omega
theorem insL_mem (xs : List (Int × Int)) (y z : Int × Int) : z ∈ insL xs y ↔ z = y ∨ z ∈ xs := by
  unfold insL
  rw [List.mem_append, List.mem_cons]
  constructor
  · rintro (h | h | h)
    · exact .inr (List.mem_of_mem_take h)
    · exact .inl h
    · exact .inr (List.mem_of_mem_drop h)
  · rintro (h | h)
    · exact .inr (.inl h)
    · rw [← List.take_append_drop (back xs y.1 xs.length) xs, List.mem_append] at h
      rcases h with h | h
      · exact .inl h
      · exact .inr (.inr h)
theorem foldl_insL_sum (ys xs : List (Int × Int)) : sumL (ys.foldl insL xs) = sumL xs + sumL ys := by
  induction ys generalizing xs with
  | nil => simp [sumL]
  | cons y r ih => simp only [List.foldl_cons, ih, insL_sum, sumL]; omega
theorem sortL_sum (xs : List (Int × Int)) : sumL (sortL xs) = sumL xs := by unfold sortL; rw [foldl_insL_sum]; simp [sumL]
theorem foldl_insL_mem (ys xs : List (Int × Int)) (z : Int × Int) : z ∈ ys.foldl insL xs ↔ z ∈ xs ∨ z ∈ ys := by
  induction ys generalizing xs with
  | nil => simp
  | cons y r ih =>
    simp only [List.foldl_cons, ih, insL_mem, List.mem_cons]
    constructor
    · rintro ((h | h) | h)
      · exact .inr (.inl h)
      · exact .inl h
      · exact .inr (.inr h)
    · rintro (h | h | h)
      · exact .inl (.inr h)
      · exact .inl (.inl h)
      · exact .inr h
theorem sortL_mem (xs : List (Int × Int)) (z : Int × Int) : z ∈ sortL xs ↔ z ∈ xs := by unfold sortL; rw [foldl_insL_mem]; simp
theorem sortL_pos {xs : List (Int × Int)} (h : Pos xs) : Pos (sortL xs) := fun x hx => h x ((sortL_mem xs x).1 hx)
theorem Pos.tail {x : Int × Int} {r : List (Int × Int)} (h : Pos (x :: r)) : Pos r := fun y hy => h y (by simp [hy])
theorem Pos.le_sum {xs : List (Int × Int)} (h : Pos xs) : ∀ x ∈ xs, x.2 ≤ sumL xs := by
  induction xs with
  | nil => intro x hx; cases hx
  | cons y r ih =>
    intro x hx
    have h1 := h y (by simp)
    have h2 := sumL_nonneg h.tail
    simp only [sumL]
    cases hx with
    | head => omega
    | tail _ hx => have := ih h.tail x hx; omega
theorem last_split {xs : List (Int × Int)} (h : 0 < xs.length) : xs = xs.dropLast ++ [xs.getD (xs.length - 1) (0, 0)] := by
  have hne : xs ≠ [] := by intro e; subst e; simp at h
  have e := List.dropLast_concat_getLast hne
  rw [List.getLast_eq_getElem] at e
  have e2 : xs.getD (xs.length - 1) (0, 0) = xs[xs.length - 1] := by simp [List.getD, List.getElem?_eq_getElem (show xs.length - 1 < xs.length by omega)]
  rw [e2]; exact e.symm
theorem mstep_sum (out : List (Int × Int)) (x : Int × Int) : sumL (mstep out x) = sumL out + x.2 := by
  unfold mstep
  split
  · omega
  · split
    · rename_i h
      have e := last_split h.1
      generalize out.getD (out.length - 1) (0, 0) = y at *
      rw [sumL_append]
      have : sumL out = sumL out.dropLast + y.2 := by
        have e2 := congrArg sumL e
        rw [sumL_append] at e2
        simp only [sumL] at e2; omega
      simp only [sumL]; omega
    · rw [sumL_append]; simp only [sumL]; omega
theorem mstep_pos {out : List (Int × Int)} {x : Int × Int} (h : Pos out) (hx : 0 ≤ x.2) : Pos (mstep out x) := by
  unfold mstep
  split
  · exact h
  · split
    · rename_i h1
      intro y hy
      rw [List.mem_append] at hy
      rcases hy with hy | hy
      · exact h y ((List.dropLast_sublist out).subset hy)
      · simp only [List.mem_singleton] at hy
        subst hy
        have : 0 ≤ (out.getD (out.length - 1) (0, 0)).2 := by
          refine h _ ?_
          simp [List.getD, List.getElem?_eq_getElem (show out.length - 1 < out.length by omega)]
        simp only; omega
    · intro y hy
      rw [List.mem_append] at hy
      rcases hy with hy | hy
      · exact h y hy
      · simp only [List.mem_singleton] at hy; subst hy; exact hx
end Nl
end Go.Proofs.Ytejoecoenehooaa
