/- Stable sorting (no program in sight): what is sorted, and keeps its order at each number, is one list alone. -/
import Derived.Test.YtejoecoenehooaaNdMath2
namespace Go.Proofs.Ytejoecoenehooaa
namespace Nl

def Srt (xs : List (Int × Int)) : Prop := xs.Pairwise (fun a b => a.1 ≤ b.1)
def atK (k : Int) (xs : List (Int × Int)) : List (Int × Int) := xs.filter (fun x => decide (x.1 = k))
theorem atK_app (k : Int) (xs ys : List (Int × Int)) : atK k (xs ++ ys) = atK k xs ++ atK k ys := List.filter_append ..
theorem atK_cons (k : Int) (x : Int × Int) (xs : List (Int × Int)) : atK k (x :: xs) = if x.1 = k then x :: atK k xs else atK k xs := by
  unfold atK
  by_cases h : x.1 = k <;> simp [List.filter, h]
theorem atK_nil {k : Int} {xs : List (Int × Int)} (h : ∀ x ∈ xs, x.1 ≠ k) : atK k xs = [] := by
  unfold atK
  rw [List.filter_eq_nil_iff]
  intro x hx; simpa using h x hx
/-- zs is xs, sorted, those of one number as they stood. -/
def SS (xs zs : List (Int × Int)) : Prop := Srt zs ∧ ∀ k, atK k zs = atK k xs
theorem srt_tail {x : Int × Int} {r : List (Int × Int)} (h : Srt (x :: r)) : Srt r ∧ ∀ y ∈ r, x.1 ≤ y.1 := ⟨(List.pairwise_cons.1 h).2, (List.pairwise_cons.1 h).1⟩
theorem srt_one {a b : List (Int × Int)} (ha : Srt a) (hb : Srt b) (h : ∀ k, atK k a = atK k b) : a = b := by
  induction a generalizing b with
  | nil =>
    cases b with
    | nil => rfl
    | cons y r => have := h y.1; rw [atK_cons, if_pos rfl] at this; simp [atK] at this
  | cons x r ih =>
    cases b with
    | nil => have := h x.1; rw [atK_cons, if_pos rfl] at this; simp [atK] at this
    | cons y s =>
      obtain ⟨h1, h2⟩ := srt_tail ha
      obtain ⟨h3, h4⟩ := srt_tail hb
      have hx := h x.1
      have hy := h y.1
      rw [atK_cons, if_pos rfl, atK_cons] at hx
      rw [atK_cons, atK_cons, if_pos rfl] at hy
      have e : x.1 = y.1 := by
        by_cases q : y.1 = x.1
        · exact q.symm
        · exfalso
          rw [if_neg q] at hx
          rw [if_neg (Ne.symm q)] at hy
          have m1 : x ∈ s := by
            have : x ∈ atK x.1 s := by rw [← hx]; simp
            exact (List.mem_filter.1 this).1
          have m2 : y ∈ r := by
            have : y ∈ atK y.1 r := by rw [hy]; simp
            exact (List.mem_filter.1 this).1
          have := h2 y m2
          have := h4 x m1
          omega
      rw [if_pos e.symm] at hx
      have hxy : x = y := by injection hx
      subst hxy
      rw [ih h1 h3 (fun k => by
        have := h k
        rw [atK_cons, atK_cons] at this
        by_cases q : x.1 = k
        · rw [if_pos q, if_pos q] at this; injection this
        · rw [if_neg q, if_neg q] at this; exact this)]
theorem back_spec (xs : List (Int × Int)) (id : Int) (n : Nat) (hn : n ≤ xs.length) : (∀ x ∈ (xs.take n).drop (back xs id n), id < x.1) ∧ (0 < back xs id n → (xs.getD (back xs id n - 1) (0, 0)).1 ≤ id) := by
  induction n with
  | zero => simp [back]
  | succ n ih =>
    rw [back]
    obtain ⟨i1, i2⟩ := ih (by omega)
    split
    · rename_i h
      refine ⟨fun x hx => ?_, i2⟩
      have hb := back_le xs id n
      have e : xs.take (n + 1) = xs.take n ++ [xs.getD n (0, 0)] := by
        rw [List.take_add_one, List.getElem?_eq_getElem (show n < xs.length by omega)]
        simp [List.getD, List.getElem?_eq_getElem (show n < xs.length by omega)]
      rw [e, List.drop_append_of_le_length (by simp; omega), List.mem_append] at hx
      rcases hx with hx | hx
      · exact i1 x hx
      · simp only [List.mem_singleton] at hx; rw [hx]; exact h
    · rename_i h
      refine ⟨fun x hx => by simp at hx, fun _ => ?_⟩
      simp only [Nat.add_sub_cancel]; omega
theorem insL_srt {xs : List (Int × Int)} (h : Srt xs) (y : Int × Int) : Srt (insL xs y) ∧ ∀ k, atK k (insL xs y) = atK k (xs ++ [y]) := by
  obtain ⟨b1, b2⟩ := back_spec xs y.1 xs.length (Nat.le_refl _)
  rw [List.take_length] at b1
  have hb := back_le xs y.1 xs.length
  unfold insL
  generalize back xs y.1 xs.length = n at *
  have e := List.take_append_drop n xs
  have hlow : ∀ x ∈ xs.take n, x.1 ≤ y.1 := fun x hx => by
    by_cases hn : 0 < n
    · have hl := b2 hn
      have hlast : xs.getD (n - 1) (0, 0) = xs[n - 1] := by simp [List.getD, List.getElem?_eq_getElem (show n - 1 < xs.length by omega)]
      rw [hlast] at hl
      obtain ⟨i, hi, q⟩ := List.mem_iff_getElem.1 hx
      rw [List.getElem_take] at q
      simp only [List.length_take] at hi
      by_cases hi2 : i = n - 1
      · subst hi2; rw [← q]; exact hl
      · have := (List.pairwise_iff_getElem.1 h) i (n - 1) (by omega) (by omega) (by omega)
        rw [q] at this; omega
    · have : n = 0 := by omega
      subst this; simp at hx
  rw [← e] at h
  have hp := List.pairwise_append.1 h
  constructor
  · unfold Srt
    rw [List.pairwise_append, List.pairwise_cons]
    refine ⟨hp.1, ⟨fun z hz => by have := b1 z hz; omega, hp.2.1⟩, fun a ha b hb' => ?_⟩
    cases hb' with
    | head => exact hlow a ha
    | tail _ hb' => exact hp.2.2 a ha b hb'
  · intro k
    conv => rhs; rw [← e]
    rw [atK_app, atK_cons, atK_app, atK_app]
    by_cases q : y.1 = k
    · rw [if_pos q, atK_nil (xs := xs.drop n) (fun x hx => by have := b1 x hx; omega), atK_cons, if_pos q]; simp [atK]
    · rw [if_neg q, atK_cons, if_neg q]; simp [atK]
theorem sort_SS_aux (ys xs : List (Int × Int)) (h : Srt xs) : Srt (ys.foldl insL xs) ∧ ∀ k, atK k (ys.foldl insL xs) = atK k (xs ++ ys) := by
  induction ys generalizing xs with
  | nil => exact ⟨h, fun k => by simp⟩
  | cons y r ih =>
    obtain ⟨h1, h2⟩ := insL_srt h y
    obtain ⟨h3, h4⟩ := ih _ h1
    refine ⟨h3, fun k => ?_⟩
    rw [List.foldl_cons, h4, atK_app, h2, atK_app, atK_app, atK_cons, atK_cons]
    by_cases q : y.1 = k
    · rw [if_pos q, if_pos q]; simp [atK]
    · rw [if_neg q, if_neg q]; simp [atK]
theorem sortL_SS (xs : List (Int × Int)) : SS xs (sortL xs) := by
  obtain ⟨h1, h2⟩ := sort_SS_aux xs [] List.Pairwise.nil
  exact ⟨h1, fun k => by simpa [sortL] using h2 k⟩
theorem SS_sortL {xs zs : List (Int × Int)} (h : SS xs zs) : zs = sortL xs :=
  srt_one h.1 (sortL_SS xs).1 (fun k => (h.2 k).trans ((sortL_SS xs).2 k).symm)

/-- Half merged. -/
structure Mrg (a0 b0 out a b : List (Int × Int)) : Prop where
  so : Srt out
  sa : Srt a
  sb : Srt b
  oa : ∀ x ∈ out, ∀ y ∈ a, x.1 ≤ y.1
  ob : ∀ x ∈ out, ∀ y ∈ b, x.1 ≤ y.1
  at_ : ∀ k, atK k out ++ atK k a ++ atK k b = atK k a0 ++ atK k b0
  len : out.length + a.length + b.length = a0.length + b0.length
theorem Mrg.start {a b : List (Int × Int)} (ha : Srt a) (hb : Srt b) : Mrg a b [] a b := ⟨List.Pairwise.nil, ha, hb, (fun x hx => by cases hx), (fun x hx => by cases hx), (fun k => by simp [atK]), by simp⟩
theorem srt_snoc {out : List (Int × Int)} {y : Int × Int} (h : Srt out) (hy : ∀ x ∈ out, x.1 ≤ y.1) : Srt (out ++ [y]) := by
  unfold Srt
  rw [List.pairwise_append]
  exact ⟨h, List.pairwise_singleton .., fun a ha b hb => by simp at hb; subst hb; exact hy a ha⟩
theorem Mrg.right {a0 b0 out a b : List (Int × Int)} {x y : Int × Int} (m : Mrg a0 b0 out (x :: a) (y :: b)) (h : y.1 < x.1) : Mrg a0 b0 (out ++ [y]) (x :: a) b := by
  obtain ⟨s1, s2⟩ := srt_tail m.sa
  obtain ⟨s3, s4⟩ := srt_tail m.sb
  refine ⟨srt_snoc m.so (fun z hz => m.ob z hz y (by simp)), m.sa, s3, fun z hz w hw => ?_, fun z hz w hw => ?_, fun k => ?_, ?_⟩
  · rw [List.mem_append] at hz
    rcases hz with hz | hz
    · exact m.oa z hz w hw
    · simp at hz; subst hz
      cases hw with
      | head => omega
      | tail _ hw => have := s2 w hw; omega
  · rw [List.mem_append] at hz
    rcases hz with hz | hz
    · exact m.ob z hz w (by simp [hw])
    · simp at hz; subst hz; exact s4 w hw
  · rw [← m.at_ k, atK_app, atK_cons k y b, atK_cons k y []]
    by_cases q : y.1 = k
    · rw [if_pos q, if_pos q, atK_nil (xs := x :: a) (fun w hw => by
        cases hw with
        | head => omega
        | tail _ hw => have := s2 w hw; omega)]
      simp [atK]
    · rw [if_neg q, if_neg q]; simp [atK]
  · have := m.len; simp only [List.length_append, List.length_cons, List.length_nil] at *; omega
theorem Mrg.left {a0 b0 out a b : List (Int × Int)} {x y : Int × Int} (m : Mrg a0 b0 out (x :: a) (y :: b)) (h : ¬ y.1 < x.1) : Mrg a0 b0 (out ++ [x]) a (y :: b) := by
  obtain ⟨s1, s2⟩ := srt_tail m.sa
  obtain ⟨s3, s4⟩ := srt_tail m.sb
  refine ⟨srt_snoc m.so (fun z hz => m.oa z hz x (by simp)), s1, m.sb, fun z hz w hw => ?_, fun z hz w hw => ?_, fun k => ?_, ?_⟩
  · rw [List.mem_append] at hz
    rcases hz with hz | hz
    · exact m.oa z hz w (by simp [hw])
    · simp at hz; subst hz; exact s2 w hw
  · rw [List.mem_append] at hz
    rcases hz with hz | hz
    · exact m.ob z hz w hw
    · simp at hz; subst hz
      cases hw with
      | head => omega
      | tail _ hw => have := s4 w hw; omega
  · rw [← m.at_ k, atK_app, atK_cons k x a, atK_cons k x []]
    by_cases q : x.1 = k
    · rw [if_pos q, if_pos q]; simp [atK]
    · rw [if_neg q, if_neg q]; simp [atK]
  · have := m.len; simp only [List.length_append, List.length_cons, List.length_nil] at *; omega
theorem Mrg.done {a0 b0 out a b : List (Int × Int)} (m : Mrg a0 b0 out a b) (h : a = [] ∨ b = []) {xs ys : List (Int × Int)} (ha : SS xs a0) (hb : SS ys b0) : SS (xs ++ ys) (out ++ a ++ b) := by
  refine ⟨?_, fun k => ?_⟩
  · unfold Srt
    rw [List.pairwise_append, List.pairwise_append]
    refine ⟨⟨m.so, m.sa, m.oa⟩, m.sb, fun x hx y hy => ?_⟩
    rw [List.mem_append] at hx
    rcases hx with hx | hx
    · exact m.ob x hx y hy
    · rcases h with h | h
      · rw [h] at hx; cases hx
      · rw [h] at hy; cases hy
  · rw [atK_app, atK_app, atK_app, m.at_ k, ha.2, hb.2]
theorem SS_self {xs : List (Int × Int)} (h : xs.length < 2) : SS xs xs := by
  refine ⟨?_, fun _ => rfl⟩
  match xs, h with
  | [], _ => exact List.Pairwise.nil
  | [x], _ => exact List.pairwise_singleton ..
end Nl
end Go.Proofs.Ytejoecoenehooaa
