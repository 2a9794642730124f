/- What comes of a fold (no program in sight). -/
import Derived.Test.YtipnnogafanemaaFold2
namespace Go.Proofs.Ytipnnogafanemaa
open Go.RowKit
namespace Nl
theorem filter_ids {P Q : List (Int × Int)} {id v : Int} (hP : ∀ x ∈ P, x.1 < id) (hQ : ∀ x ∈ Q, id < x.1) : (P ++ ((if 0 < v then [(id, v)] else []) ++ Q)).filter (fun x => x.1 ≠ id) = P ++ Q := by
  rw [List.filter_append, List.filter_append]
  have f1 : P.filter (fun x => x.1 ≠ id) = P := List.filter_eq_self.2 (fun x hx => by have := hP x hx; simp; omega)
  have f2 : Q.filter (fun x => x.1 ≠ id) = Q := List.filter_eq_self.2 (fun x hx => by have := hQ x hx; simp; omega)
  rw [f1, f2]
  split <;> simp
theorem take_facts {zs : List (Int × Int)} (h : Strict zs) (id : Int) : sumL (stTake zs id).1 + findL id zs = sumL zs ∧ (stTake zs id).1.length + (if 0 < findL id zs then 1 else 0) = zs.length := by
  obtain ⟨P, Q, e1, e2, e3, e4⟩ := strict_split h id
  have ef : (stTake zs id).1 = zs.filter (fun x => x.1 ≠ id) := rfl
  generalize findL id zs = v at *
  rw [ef, e1, filter_ids e2 e3, sumL_append, sumL_append, sumL_append]
  simp only [List.length_append]
  split
  · simp [sumL]; omega
  · simp [sumL]; omega
theorem addS_len {zs : List (Int × Int)} (h : Strict zs) {id c : Int} (hc : 0 ≤ c) : (addS zs id c).length ≤ zs.length + (if 0 < c then 1 else 0) := by
  obtain ⟨P, Q, e1, e2, e3, e4⟩ := strict_split h id
  generalize findL id zs = v at *
  subst e1
  rw [addS_parts e2 e3 e4 hc]
  simp only [List.length_append]
  split <;> split <;> split <;> simp <;> omega
theorem addS_find {zs : List (Int × Int)} (h : Strict zs) {id c : Int} (hi : 1 ≤ id) (hc : 0 ≤ c) : findL id (addS zs id c) = findL id zs + c := by
  obtain ⟨s1, s2⟩ := addS_spec h hi hc
  obtain ⟨_, _, _, _, _, e4⟩ := strict_split h id
  by_cases hp : 0 < findL id zs + c
  · exact strict_at s1 ((s2 id (findL id zs + c)).2 (.inr ⟨rfl, rfl, hp⟩))
  · rw [findL_no (fun x hx => ?_)]
    · omega
    · intro e
      rcases (s2 x.1 x.2).1 hx with ⟨h1, _⟩ | ⟨_, h2, h3⟩
      · exact h1 e
      · omega
theorem addS_gone {zs : List (Int × Int)} (h : Strict zs) {id c k : Int} (hi : 1 ≤ id) (hc : 0 ≤ c) (hk : k ≠ id) (hn : ∀ x ∈ zs, x.1 ≠ k) : findL k (addS zs id c) = 0 := by
  obtain ⟨s1, s2⟩ := addS_spec h hi hc
  refine findL_no (fun x hx e => ?_)
  rcases (s2 x.1 x.2).1 hx with ⟨_, h1⟩ | ⟨h1, _⟩
  · exact hn _ h1 e
  · omega
theorem stAdd_ok {l : Int} {zs : List (Int × Int)} (r : Roll l zs) {id c : Int} (hr : rightB l id = true) (hc : 0 ≤ c) (hs : sumL zs + c ≤ 72057594037927935) : stAdd l zs id c = (addS zs id c, 0) := by
  unfold stAdd
  rw [if_neg (by rw [hr]; simp; omega), if_neg (by rw [r.tot]; omega), foldL_add r.strict (right_pos hr) hc hs]
  rfl
/-- What comes of a fold weighs as much; no more nodes; the pair is gone; the parent has all. -/
theorem fold_facts {l : Int} {zs : List (Int × Int)} (r : Roll l zs) (p : Int) :
    Roll l (foldDo l zs p).1 ∧ sumL (foldDo l zs p).1 = sumL zs ∧ (foldDo l zs p).1.length ≤ zs.length ∧ pairV l (foldDo l zs p).1 p = 0 ∧
    (kidsB l p = true → findL (2 * p) (foldDo l zs p).1 = 0 ∧ findL (2 * p + 1) (foldDo l zs p).1 = 0 ∧ findL p (foldDo l zs p).1 = allV l zs p) := by
  unfold pairV allV foldDo
  cases hk : kidsB l p
  · exact ⟨r, rfl, Nat.le_refl _, by simp, fun h => by cases h⟩
  · simp only [if_true]
    obtain ⟨k1, k2⟩ := kids_bound hk
    have hr : rightB l p = true := by
      simp only [kidsB, Bool.and_eq_true] at hk; exact hk.1
    have r1 := r.take (2 * p)
    have r2 := r1.take (2 * p + 1)
    obtain ⟨s1, n1⟩ := take_facts r.strict (2 * p)
    obtain ⟨s2, n2⟩ := take_facts r1.strict (2 * p + 1)
    have t1 : (stTake zs (2 * p)).2 = findL (2 * p) zs := rfl
    have t2 : (stTake (stTake zs (2 * p)).1 (2 * p + 1)).2 = findL (2 * p + 1) (stTake zs (2 * p)).1 := rfl
    have t3 : findL (2 * p + 1) (stTake zs (2 * p)).1 = findL (2 * p + 1) zs := findL_filter (by omega)
    have g0 : findL p (stTake (stTake zs (2 * p)).1 (2 * p + 1)).1 = findL p zs := (findL_filter (by omega)).trans (findL_filter (by omega))
    have f1 := r.find (2 * p)
    have f2 := r1.find (2 * p + 1)
    have m1 : ∀ x ∈ (stTake (stTake zs (2 * p)).1 (2 * p + 1)).1, x.1 ≠ 2 * p := fun x hx => by
      have := (List.mem_filter.1 (List.mem_filter.1 hx).1).2; simpa using this
    have m2 : ∀ x ∈ (stTake (stTake zs (2 * p)).1 (2 * p + 1)).1, x.1 ≠ 2 * p + 1 := fun x hx => by
      have := (List.mem_filter.1 hx).2; simpa using this
    have hs := r.most
    rw [t1, t2]
    rw [stAdd_ok r2 hr (by omega) (by omega)]
    dsimp only
    have hl := addS_len r2.strict (id := p) (c := findL (2 * p) zs + findL (2 * p + 1) (stTake zs (2 * p)).1) (by omega)
    have hsum := addS_sum r2.strict (id := p) (c := findL (2 * p) zs + findL (2 * p + 1) (stTake zs (2 * p)).1) (by omega)
    have hf := addS_find r2.strict (id := p) (c := findL (2 * p) zs + findL (2 * p + 1) (stTake zs (2 * p)).1) (by omega) (by omega)
    have hg1 := addS_gone r2.strict (id := p) (c := findL (2 * p) zs + findL (2 * p + 1) (stTake zs (2 * p)).1) (by omega) (by omega) (show 2 * p ≠ p by omega) m1
    have hg2 := addS_gone r2.strict (id := p) (c := findL (2 * p) zs + findL (2 * p + 1) (stTake zs (2 * p)).1) (by omega) (by omega) (show 2 * p + 1 ≠ p by omega) m2
    obtain ⟨a1, a2⟩ := addS_spec r2.strict (id := p) (c := findL (2 * p) zs + findL (2 * p + 1) (stTake zs (2 * p)).1) (by omega) (by omega)
    refine ⟨⟨r.l1, r.l2, a1, by omega, fun x hx => ?_⟩, by omega, ?_, by omega, fun _ => ⟨hg1, hg2, by omega⟩⟩
    · rcases (a2 x.1 x.2).1 hx with ⟨_, h⟩ | ⟨h, _⟩
      · exact r2.ids _ h
      · rw [h]; exact hr
    · split at hl <;> split at n1 <;> split at n2 <;> omega
theorem fold_ready {l : Int} {zs : List (Int × Int)} (r : Roll l zs) (p most : Int) : readyB l (foldDo l zs p).1 p most = false := by
  unfold readyB
  rw [(fold_facts r p).2.2.2.1]
  simp
end Nl
end Go.Proofs.Ytipnnogafanemaa
