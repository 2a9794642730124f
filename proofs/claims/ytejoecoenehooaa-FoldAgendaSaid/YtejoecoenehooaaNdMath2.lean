/- Lists of nodes by strictly rising numbers: what Fold makes of one node more (no program in sight). -/
import Derived.Test.YtejoecoenehooaaNdMath
namespace Go.Proofs.Ytejoecoenehooaa
namespace Nl

/-- A roll: numbers rise strictly, from 1 on; weights are above 0. -/
def Strict (xs : List (Int × Int)) : Prop := xs.Pairwise (fun a b => a.1 < b.1) ∧ ∀ x ∈ xs, 1 ≤ x.1 ∧ 0 < x.2
theorem Strict.tail {x : Int × Int} {r : List (Int × Int)} (h : Strict (x :: r)) : Strict r := ⟨(List.pairwise_cons.1 h.1).2, fun y hy => h.2 y (List.mem_cons_of_mem _ hy)⟩
theorem Strict.head {x : Int × Int} {r : List (Int × Int)} (h : Strict (x :: r)) : ∀ y ∈ r, x.1 < y.1 := (List.pairwise_cons.1 h.1).1
theorem Strict.pos {xs : List (Int × Int)} (h : Strict xs) : Pos xs := fun x hx => by have := (h.2 x hx).2; omega

/-- Behind all that aren't greater: what is ahead. -/
def upTo (id : Int) (xs : List (Int × Int)) : List (Int × Int) := xs.takeWhile (fun x => decide (x.1 ≤ id))
def past (id : Int) (xs : List (Int × Int)) : List (Int × Int) := xs.dropWhile (fun x => decide (x.1 ≤ id))
theorem upTo_past (id : Int) (xs : List (Int × Int)) : upTo id xs ++ past id xs = xs := List.takeWhile_append_dropWhile
theorem upTo_le {id : Int} {xs : List (Int × Int)} : ∀ x ∈ upTo id xs, x.1 ≤ id := by
  intro x hx
  unfold upTo at hx
  induction xs with
  | nil => simp at hx
  | cons y r ih =>
    rw [List.takeWhile_cons] at hx
    split at hx
    · rename_i h
      cases hx with
      | head => simpa using h
      | tail _ hx => exact ih hx
    · cases hx
theorem past_gt {id : Int} {xs : List (Int × Int)} (h : Strict xs) : ∀ x ∈ past id xs, id < x.1 := by
  intro x hx
  unfold past at hx
  induction xs with
  | nil => simp at hx
  | cons y r ih =>
    rw [List.dropWhile_cons] at hx
    split at hx
    · exact ih h.tail hx
    · rename_i hy
      simp only [decide_eq_true_eq] at hy
      cases hx with
      | head => omega
      | tail _ hx => have := h.head x hx; omega

theorem back_eq (A B : List (Int × Int)) (id : Int) (hA : ∀ x ∈ A, x.1 ≤ id) (hB : ∀ x ∈ B, id < x.1) (n : Nat) (hn : A.length ≤ n ∧ n ≤ A.length + B.length) : back (A ++ B) id n = A.length := by
  induction n with
  | zero => simp [back]; omega
  | succ n ih =>
    by_cases h : A.length = n + 1
    · rw [back, if_neg, h]
      have hl : n < A.length := by omega
      have : (A ++ B).getD n (0, 0) = A[n] := by simp [List.getD, List.getElem?_append_left hl, List.getElem?_eq_getElem hl]
      rw [this]
      have := hA _ (List.getElem_mem hl)
      omega
    · rw [back, if_pos, ih (by omega)]
      have hl : n - A.length < B.length := by omega
      have : (A ++ B).getD n (0, 0) = B[n - A.length] := by
        simp [List.getD, List.getElem?_append_right (show A.length ≤ n by omega), List.getElem?_eq_getElem hl]
      rw [this]
      exact hB _ (List.getElem_mem hl)
theorem insL_eq {xs : List (Int × Int)} (h : Strict xs) (y : Int × Int) : insL xs y = upTo y.1 xs ++ y :: past y.1 xs := by
  have e := upTo_past y.1 xs
  have hb := back_eq (upTo y.1 xs) (past y.1 xs) y.1 upTo_le (past_gt h) xs.length (by
    have := congrArg List.length e; simp at this; omega)
  rw [e] at hb
  unfold insL
  rw [hb]
  generalize upTo y.1 xs = A at *
  generalize past y.1 xs = B at *
  subst e
  simp
theorem insL_snoc {xs : List (Int × Int)} {y : Int × Int} (h : ∀ x ∈ xs, x.1 < y.1) : insL xs y = xs ++ [y] := by
  have hb := back_eq xs [] y.1 (fun x hx => by have := h x hx; omega) (by simp) xs.length (by simp)
  rw [List.append_nil] at hb
  unfold insL
  rw [hb]
  simp
theorem sortL_strict_aux (ys xs : List (Int × Int)) (h : (xs ++ ys).Pairwise (fun a b => a.1 < b.1)) : ys.foldl insL xs = xs ++ ys := by
  induction ys generalizing xs with
  | nil => simp
  | cons y r ih =>
    rw [List.foldl_cons, insL_snoc, ih]
    · simp
    · simpa using h
    · intro x hx
      rw [List.pairwise_append] at h
      exact h.2.2 x hx y (by simp)
theorem sortL_strict {xs : List (Int × Int)} (h : Strict xs) : sortL xs = xs := by
  have := sortL_strict_aux xs [] (by simpa using h.1)
  simpa [sortL] using this

theorem mstep_new {out : List (Int × Int)} {x : Int × Int} (hx : x.2 ≠ 0) (h : ∀ y ∈ out, y.1 < x.1) : mstep out x = out ++ [x] := by
  unfold mstep
  rw [if_neg hx, if_neg]
  rintro ⟨h1, h2⟩
  have hm : out.getD (out.length - 1) (0, 0) ∈ out := by
    simp [List.getD, List.getElem?_eq_getElem (show out.length - 1 < out.length by omega)]
  have := h _ hm
  omega
theorem pass_append (out xs ys : List (Int × Int)) : pass out (xs ++ ys) = (pass out xs).bind fun o => pass o ys := by
  induction xs generalizing out with
  | nil => rfl
  | cons x r ih =>
    simp only [List.cons_append, pass]
    split
    · rfl
    · exact ih _
theorem pass_strict {out xs : List (Int × Int)} (h : Strict xs) (hl : ∀ y ∈ out, ∀ x ∈ xs, y.1 < x.1) : pass out xs = some (out ++ xs) := by
  induction xs generalizing out with
  | nil => simp [pass]
  | cons x r ih =>
    have hx := h.2 x (by simp)
    rw [pass, if_neg (by omega), mstep_new (by omega) (fun y hy => hl y hy x (by simp)), ih h.tail]
    · simp
    · intro y hy z hz
      rw [List.mem_append] at hy
      rcases hy with hy | hy
      · exact hl y hy z (List.mem_cons_of_mem _ hz)
      · simp at hy; subst hy; exact h.head z hz
theorem Strict.left {A B : List (Int × Int)} (h : Strict (A ++ B)) : Strict A := ⟨(List.pairwise_append.1 h.1).1, fun x hx => h.2 x (by simp [hx])⟩
theorem Strict.right {A B : List (Int × Int)} (h : Strict (A ++ B)) : Strict B := ⟨(List.pairwise_append.1 h.1).2.1, fun x hx => h.2 x (by simp [hx])⟩

theorem totF_app {n m : Int} {xs ys : List (Int × Int)} (h : totF n xs = some m) : totF n (xs ++ ys) = totF m ys := by
  induction xs generalizing n with
  | nil => simp [totF] at h; subst h; rfl
  | cons x r ih =>
    simp only [totF, List.cons_append] at h ⊢
    split at h
    · cases h
    · rename_i hc; rw [if_neg hc]; exact ih h
theorem totF_pos {n : Int} {xs : List (Int × Int)} (h : Pos xs) (hs : n + sumL xs ≤ 72057594037927935) : totF n xs = some (n + sumL xs) := by
  induction xs generalizing n with
  | nil => simp [totF, sumL]
  | cons x r ih =>
    have h1 := h x (by simp)
    have h2 := sumL_nonneg h.tail
    simp only [sumL] at hs ⊢
    rw [totF, if_neg (by omega), ih h.tail (by omega)]
    congr 1; omega
theorem totV_sum {xs : List (Int × Int)} (h : Pos xs) (hs : sumL xs ≤ 72057594037927935) : totV xs = sumL xs := by
  unfold totV; rw [totF_pos h (by omega)]; simp

/-- A roll, and a weight more at a number. -/
def addS (xs : List (Int × Int)) (id c : Int) : List (Int × Int) := mstep (upTo id xs) (id, c) ++ past id xs
theorem foldL_add {xs : List (Int × Int)} {id c : Int} (h : Strict xs) (hid : 1 ≤ id) (hc : 0 ≤ c) (hs : sumL xs + c ≤ 72057594037927935) : foldL (xs ++ [(id, c)]) = some (addS xs id c) := by
  have hp : Pos (xs ++ [(id, c)]) := fun x hx => by
    rw [List.mem_append] at hx
    rcases hx with hx | hx
    · exact h.pos x hx
    · simp at hx; subst hx; exact hc
  have ht : totOk (xs ++ [(id, c)]) = true := by
    unfold totOk
    rw [totF_pos hp (by rw [sumL_append]; simp only [sumL]; omega)]; rfl
  have e := upTo_past id xs
  have hA : Strict (upTo id xs) := Strict.left (B := past id xs) (by rw [e]; exact h)
  have hB : Strict (past id xs) := Strict.right (A := upTo id xs) (by rw [e]; exact h)
  unfold foldL
  rw [ht, if_pos rfl, sortL_snoc, sortL_strict h, insL_eq h, pass_append, pass_strict hA (by simp)]
  simp only [List.nil_append, Option.bind_some, pass]
  rw [if_neg (by omega)]
  refine pass_strict hB ?_
  intro y hy x hx
  have h1 := past_gt h x hx
  have h2 : y.1 ≤ id := by
    unfold mstep at hy
    split at hy
    · exact upTo_le y hy
    · split at hy
      · rename_i h3
        rw [List.mem_append] at hy
        rcases hy with hy | hy
        · exact upTo_le y ((List.dropLast_sublist _).subset hy)
        · simp at hy; subst hy; simp only; have := h3.2; simp at this; omega
      · rw [List.mem_append] at hy
        rcases hy with hy | hy
        · exact upTo_le y hy
        · simp at hy; subst hy; exact Int.le_refl _
  omega
/-- Written out: what lies below, the place itself, what lies above. -/
theorem addS_parts {P Q : List (Int × Int)} {id v c : Int} (hP : ∀ x ∈ P, x.1 < id) (hQ : ∀ x ∈ Q, id < x.1) (hv : 0 ≤ v) (hc : 0 ≤ c) :
    addS (P ++ ((if 0 < v then [(id, v)] else []) ++ Q)) id c = P ++ ((if 0 < v + c then [(id, v + c)] else []) ++ Q) := by
  have hu : ∀ M : List (Int × Int), (∀ x ∈ M, x.1 ≤ id) → upTo id (M ++ Q) = M ∧ past id (M ++ Q) = Q := by
    intro M hM
    induction M with
    | nil =>
      cases Q with
      | nil => simp [upTo, past]
      | cons q r =>
        have h' : decide (q.1 ≤ id) = false := by have := hQ q (by simp); simp; omega
        constructor
        · show List.takeWhile _ (q :: r) = []; rw [List.takeWhile_cons, h']; rfl
        · show List.dropWhile _ (q :: r) = q :: r; rw [List.dropWhile_cons, h']; rfl
    | cons m r ih =>
      obtain ⟨i1, i2⟩ := ih (fun x hx => hM x (List.mem_cons_of_mem _ hx))
      have := hM m (by simp)
      unfold upTo past at *
      simp [this, i1, i2]
  unfold addS
  rw [← List.append_assoc]
  by_cases h : 0 < v
  · rw [if_pos h, if_pos (by omega)]
    obtain ⟨i1, i2⟩ := hu (P ++ [(id, v)]) (by
      intro x hx
      rw [List.mem_append] at hx
      rcases hx with hx | hx
      · have := hP x hx; omega
      · simp at hx; subst hx; exact Int.le_refl _)
    rw [i1, i2]
    unfold mstep
    by_cases h0 : c = 0
    · simp [h0]
    · rw [if_neg h0, if_pos (by simp)]
      simp
  · have : v = 0 := by omega
    subst this
    rw [if_neg h]
    obtain ⟨i1, i2⟩ := hu P (fun x hx => by have := hP x hx; omega)
    simp only [List.append_nil] at *
    rw [i1, i2]
    by_cases h0 : c = 0
    · subst h0; simp [mstep]
    · rw [mstep_new h0 hP, if_pos (by omega)]; simp
end Nl
end Go.Proofs.Ytejoecoenehooaa
