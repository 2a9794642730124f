/- A table that is looked through (no program in sight): what putting and taking keep. -/
import Derived.Test.YtejoecoenehooaaPbMath
namespace Go.Proofs.Ytejoecoenehooaa
namespace Nl

/-- How many slots have nodes. -/
def occ : List (Int × Int) → Nat
  | [] => 0
  | x :: r => (if 0 < x.2 then 1 else 0) + occ r
theorem occ_le (xs : List (Int × Int)) : occ xs ≤ xs.length := by
  induction xs with
  | nil => exact Nat.le_refl _
  | cons x r ih => simp only [occ, List.length_cons]; split <;> omega
theorem occ_set (xs : List (Int × Int)) (i : Nat) (x : Int × Int) (hi : i < xs.length) : occ (xs.set i x) + (if 0 < cntA xs i then 1 else 0) = occ xs + (if 0 < x.2 then 1 else 0) := by
  induction xs generalizing i with
  | nil => simp at hi
  | cons y r ih =>
    cases i with
    | zero => simp [occ, cntA]; omega
    | succ i =>
      have := ih i (by simpa using hi)
      simp only [List.set_cons_succ, occ]
      have e : cntA (y :: r) (i + 1) = cntA r i := rfl
      rw [e]; omega
theorem sumL_set (xs : List (Int × Int)) (i : Nat) (x : Int × Int) (hi : i < xs.length) : sumL (xs.set i x) + cntA xs i = sumL xs + x.2 := by
  induction xs generalizing i with
  | nil => simp at hi
  | cons y r ih =>
    cases i with
    | zero => simp [sumL, cntA]; omega
    | succ i =>
      have := ih i (by simpa using hi)
      simp only [List.set_cons_succ, sumL]
      have e : cntA (y :: r) (i + 1) = cntA r i := rfl
      rw [e]; omega
theorem has_empty {xs : List (Int × Int)} (h : occ xs < xs.length) : ∃ e, e < xs.length ∧ cntA xs e ≤ 0 := by
  induction xs with
  | nil => simp at h
  | cons x r ih =>
    by_cases hx : 0 < x.2
    · simp only [occ, if_pos hx, List.length_cons] at h
      obtain ⟨e, he, hc⟩ := ih (by omega)
      exact ⟨e + 1, by simpa using he, hc⟩
    · exact ⟨0, by simp, by simp [cntA]; omega⟩

theorem Tab.empty (b : Nat) (hb : b ≤ 62) : Tab b (List.replicate (2 ^ b) (0, 0)) := by
  have hc : ∀ i, cntA (List.replicate (2 ^ b) ((0 : Int), (0 : Int))) i = 0 := fun i => by
    unfold cntA
    by_cases h : i < 2 ^ b <;> simp [List.getD, h]
  have hi : ∀ i, idA (List.replicate (2 ^ b) ((0 : Int), (0 : Int))) i = 0 := fun i => by
    unfold idA
    by_cases h : i < 2 ^ b <;> simp [List.getD, h]
  exact ⟨by simp, hb, fun i => by rw [hc]; exact Int.le_refl _, fun i _ => hi i, fun i h => by rw [hc] at h; omega, fun i _ h => by rw [hc] at h; omega, fun i j _ _ h => by rw [hc] at h; omega⟩

/-- A node into the empty slot at which looking for it ends. -/
theorem Tab.new {b : Nat} {xs : List (Int × Int)} (t : Tab b xs) {id c : Int} (h1 : 1 ≤ id) (hc : 0 < c) {e : Nat} (he : e < xs.length) (hs : stopB xs id e = true) (h0 : cntA xs (lookI xs b id) ≤ 0) : Tab b (xs.set (lookI xs b id) (id, c)) := by
  obtain ⟨s1, s2, s3, s4⟩ := look_spec t id he hs
  have hno := look_none t id h0
  have hh := t.home id
  have hw : way xs.length (homeA b id) (lookI xs b id) = lookD xs b id := (way_eq hh s1 rfl).symm
  generalize hi : lookI xs b id = i at *
  have C := fun j => cntA_set xs i j (id, c) s3
  have I := fun j => idA_set xs i j (id, c) s3
  have L : (xs.set i (id, c)).length = xs.length := by simp
  refine ⟨L.trans t.len, t.bits, fun j => ?_, fun j => ?_, fun j => ?_, fun j hj hcj k hk => ?_, fun j j' hj hj' hcj hcj' q => ?_⟩
  · rw [C]; split
    · show 0 ≤ c; omega
    · exact t.pos j
  · rw [C, I]; split
    · intro h; exact absurd h (show ¬ c = 0 by omega)
    · exact t.zero j
  · rw [C, I]; split
    · intro _; exact h1
    · exact t.one j
  · rw [L] at hj hk ⊢
    rw [C, I] at *
    by_cases hij : i = j
    · rw [if_pos hij] at hk ⊢
      subst hij
      rw [hw] at hk
      have := (s4 k hk).1
      split
      · exact hc
      · exact this
    · rw [if_neg hij] at hcj hk ⊢
      have := t.reach j hj hcj k hk
      split
      · exact hc
      · exact this
  · rw [L] at hj hj'
    rw [C, I] at *
    rw [I] at q
    by_cases hij : i = j <;> by_cases hij' : i = j'
    · omega
    · rw [if_pos hij] at q
      rw [if_neg hij'] at q hcj'
      exact absurd q.symm (hno j' hj' hcj')
    · rw [if_neg hij] at q hcj
      rw [if_pos hij'] at q
      exact absurd q (hno j hj hcj)
    · rw [if_neg hij] at q hcj
      rw [if_neg hij'] at q hcj'
      exact t.dist j j' hj hj' hcj hcj' q
/-- Another weight for a node. -/
theorem Tab.upd {b : Nat} {xs : List (Int × Int)} (t : Tab b xs) {i : Nat} {c : Int} (hi : i < xs.length) (h0 : 0 < cntA xs i) (hc : 0 < c) : Tab b (xs.set i (idA xs i, c)) := by
  have C := fun j => cntA_set xs i j (idA xs i, c) hi
  have I : ∀ j, idA (xs.set i (idA xs i, c)) j = idA xs j := fun j => by rw [idA_set xs i j _ hi]; split <;> simp_all
  have L : (xs.set i (idA xs i, c)).length = xs.length := by simp
  have P : ∀ j, 0 < cntA (xs.set i (idA xs i, c)) j ↔ 0 < cntA xs j := fun j => by
    rw [C]; split
    · rename_i h; subst h; exact ⟨fun _ => h0, fun _ => hc⟩
    · exact Iff.rfl
  refine ⟨L.trans t.len, t.bits, fun j => ?_, fun j h => ?_, fun j h => ?_, fun j hj hcj k hk => ?_, fun j j' hj hj' hcj hcj' q => ?_⟩
  · rw [C]; split
    · show 0 ≤ c; omega
    · exact t.pos j
  · rw [I]; rw [C] at h; split at h
    · exact absurd h (show ¬ c = 0 by omega)
    · exact t.zero j h
  · rw [I]; exact t.one j ((P j).1 h)
  · rw [I, L] at *
    rw [P]
    exact t.reach j hj ((P j).1 hcj) k hk
  · rw [L] at hj hj'
    rw [I, I] at q
    exact t.dist j j' hj hj' ((P j).1 hcj) ((P j').1 hcj') q

/-- Putting those behind a hole back to where they are found. -/
def takeF (b : Nat) : Nat → List (Int × Int) → Nat → Nat → List (Int × Int)
  | 0, xs, _, _ => xs
  | f + 1, xs, hole, i =>
    if cntA xs i ≤ 0 then xs
    else if way xs.length (homeA b (idA xs i)) hole ≤ way xs.length (homeA b (idA xs i)) i then takeF b f ((xs.set hole (idA xs i, cntA xs i)).set i (0, 0)) i ((i + 1) % xs.length)
    else takeF b f xs hole ((i + 1) % xs.length)
def takeP (b : Nat) (xs : List (Int × Int)) (id : Int) : List (Int × Int) :=
  takeF b xs.length (xs.set (lookI xs b id) (0, 0)) (lookI xs b id) ((lookI xs b id + 1) % xs.length)

/-- A table with a hole that is being filled: m slots are looked at. -/
structure TabH (b : Nat) (xs : List (Int × Int)) (hole m : Nat) : Prop where
  len : xs.length = 2 ^ b
  bits : b ≤ 62
  pos : ∀ i, 0 ≤ cntA xs i
  zero : ∀ i, cntA xs i = 0 → idA xs i = 0
  one : ∀ i, 0 < cntA xs i → 1 ≤ idA xs i
  dist : ∀ i j, i < xs.length → j < xs.length → 0 < cntA xs i → 0 < cntA xs j → idA xs i = idA xs j → i = j
  hl : hole < xs.length
  he : cntA xs hole ≤ 0
  m1 : 1 ≤ m
  m2 : m ≤ xs.length
  mid : ∀ k, 1 ≤ k → k < m → 0 < cntA xs ((hole + k) % xs.length)
  reach : ∀ j, j < xs.length → 0 < cntA xs j → ∀ k, k < way xs.length (homeA b (idA xs j)) j → 0 < cntA xs ((homeA b (idA xs j) + k) % xs.length) ∨ ((homeA b (idA xs j) + k) % xs.length = hole ∧ k + m ≤ way xs.length (homeA b (idA xs j)) j)
theorem TabH.home {b : Nat} {xs : List (Int × Int)} {hole m : Nat} (t : TabH b xs hole m) (id : Int) : homeA b id < xs.length := by rw [t.len]; exact homeN_lt t.bits _
/-- At an empty slot there is no hole left. -/
theorem TabH.done {b : Nat} {xs : List (Int × Int)} {hole m : Nat} (t : TabH b xs hole m) (h : cntA xs ((hole + m) % xs.length) ≤ 0) : Tab b xs := by
  refine ⟨t.len, t.bits, t.pos, t.zero, t.one, fun j hj hc k hk => ?_, t.dist⟩
  rcases t.reach j hj hc k hk with h1 | ⟨h1, h2⟩
  · exact h1
  · have hh := t.home (idA xs j)
    have hw := way_lt (homeA b (idA xs j)) j (show 0 < xs.length by omega)
    have ha := way_at hh hj
    have e : (homeA b (idA xs j) + (k + m)) % xs.length = (hole + m) % xs.length := by rw [← mod_mod_add, h1]
    by_cases hkm : k + m = way xs.length (homeA b (idA xs j)) j
    · rw [hkm, ha] at e
      rw [← e] at h; omega
    · rcases t.reach j hj hc (k + m) (by omega) with h3 | ⟨h3, h4⟩
      · rw [e] at h3; omega
      · -- back at the hole: too far
        have h5 := way_eq hh (k := k) (by omega) h1
        have h6 := way_eq hh (k := k + m) (by omega) h3
        have := t.m1
        omega
end Nl
end Go.Proofs.Ytejoecoenehooaa
