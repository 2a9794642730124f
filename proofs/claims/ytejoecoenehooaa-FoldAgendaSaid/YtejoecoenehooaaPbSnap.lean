/- The probe's nodes are the document's (no program in sight): what a call does to a roll. -/
import Derived.Test.YtejoecoenehooaaProbe8
import Derived.Test.YtejoecoenehooaaStore2
import Derived.Test.YtejoecoenehooaaDense4
namespace Go.Proofs.Ytejoecoenehooaa
open Go.RowKit
namespace Nl

theorem strict_ext {xs ys : List (Int × Int)} (hx : Strict xs) (hy : Strict ys) (h : ∀ z, z ∈ xs ↔ z ∈ ys) : xs = ys := by
  refine srt_one (hx.1.imp (fun q => Int.le_of_lt q)) (hy.1.imp (fun q => Int.le_of_lt q)) (fun k => ?_)
  have one : ∀ {zs : List (Int × Int)}, Strict zs → ∀ z ∈ zs, z.1 = k → atK k zs = [z] := by
    intro zs hz z hm hk
    induction zs with
    | nil => cases hm
    | cons a r ih =>
      rw [atK_cons]
      cases hm with
      | head => rw [if_pos hk, atK_nil (fun w hw => by have := hz.head w hw; omega)]
      | tail _ hm =>
        have := hz.head z hm
        rw [if_neg (by omega)]
        exact ih hz.tail hm
  by_cases hex : ∃ z ∈ xs, z.1 = k
  · obtain ⟨z, hm, hk⟩ := hex
    rw [one hx z hm hk, one hy z ((h z).1 hm) hk]
  · rw [atK_nil (fun z hz q => hex ⟨z, hz, q⟩), atK_nil (fun z hz q => hex ⟨z, (h z).2 hz, q⟩)]
theorem strict_at {zs : List (Int × Int)} (h : Strict zs) {id c : Int} (hm : (id, c) ∈ zs) : findL id zs = c := by
  induction zs with
  | nil => cases hm
  | cons a r ih =>
    rw [findL]
    cases hm with
    | head => rw [if_pos rfl]
    | tail _ hm =>
      have := h.head _ hm
      rw [if_neg (by simp only at this; omega)]
      exact ih h.tail hm
theorem strict_split {zs : List (Int × Int)} (h : Strict zs) (id : Int) : ∃ P Q, zs = P ++ ((if 0 < findL id zs then [(id, findL id zs)] else []) ++ Q) ∧ (∀ x ∈ P, x.1 < id) ∧ (∀ x ∈ Q, id < x.1) ∧ 0 ≤ findL id zs := by
  induction zs with
  | nil => exact ⟨[], [], by simp [findL], by simp, by simp, by simp [findL]⟩
  | cons a r ih =>
    have ha := h.2 a (by simp)
    by_cases h1 : a.1 = id
    · have e : findL id (a :: r) = a.2 := by rw [findL, if_pos h1]
      refine ⟨[], r, ?_, by simp, fun x hx => by have := h.head x hx; omega, by rw [e]; omega⟩
      rw [e, if_pos (by omega), ← h1]; rfl
    · have e : findL id (a :: r) = findL id r := by rw [findL, if_neg h1]
      obtain ⟨P, Q, e1, e2, e3, e4⟩ := ih h.tail
      rw [e]
      by_cases h2 : a.1 < id
      · refine ⟨a :: P, Q, by rw [List.cons_append, ← e1], fun x hx => ?_, e3, e4⟩
        cases hx with
        | head => exact h2
        | tail _ hx => exact e2 x hx
      · have hn : findL id r = 0 := findL_no (fun x hx => by have := h.head x hx; omega)
        refine ⟨[], a :: r, by rw [hn]; rfl, by simp, fun x hx => ?_, by omega⟩
        cases hx with
        | head => omega
        | tail _ hx => have := h.head x hx; omega
theorem strict_mid {P M Q : List (Int × Int)} {id c c' : Int} (h : Strict (P ++ (M ++ Q))) (hP : ∀ x ∈ P, x.1 < id) (hQ : ∀ x ∈ Q, id < x.1) (hi : 1 ≤ id) (hc : c = c') : Strict (P ++ ((if 0 < c then [(id, c')] else []) ++ Q)) := by
  subst hc
  have hp := List.pairwise_append.1 h.1
  have hq := List.pairwise_append.1 hp.2.1
  refine ⟨?_, fun x hx => ?_⟩
  · rw [List.pairwise_append, List.pairwise_append]
    refine ⟨hp.1, ⟨?_, hq.2.1, fun x hx y hy => ?_⟩, fun x hx y hy => ?_⟩
    · split
      · exact List.pairwise_singleton ..
      · exact List.Pairwise.nil
    · split at hx
      · simp at hx; subst hx; exact hQ y hy
      · cases hx
    · rw [List.mem_append] at hy
      rcases hy with hy | hy
      · split at hy
        · simp at hy; subst hy; exact hP x hx
        · cases hy
      · exact hp.2.2 x hx y (by simp [hy])
  · rw [List.mem_append, List.mem_append] at hx
    rcases hx with hx | hx | hx
    · exact h.2 x (by simp [hx])
    · split at hx
      · simp at hx; subst hx; exact ⟨hi, by assumption⟩
      · cases hx
    · exact h.2 x (by simp [hx])
/-- What adding makes of a roll: still a roll; which nodes. -/
theorem addS_spec {zs : List (Int × Int)} (h : Strict zs) {id c : Int} (hi : 1 ≤ id) (hc : 0 ≤ c) : Strict (addS zs id c) ∧ ∀ id' c', (id', c') ∈ addS zs id c ↔ ((id' ≠ id ∧ (id', c') ∈ zs) ∨ (id' = id ∧ c' = findL id zs + c ∧ 0 < c')) := by
  obtain ⟨P, Q, e1, e2, e3, e4⟩ := strict_split h id
  generalize findL id zs = v at *
  subst e1
  rw [addS_parts e2 e3 e4 hc]
  refine ⟨strict_mid h e2 e3 hi rfl, fun id' c' => ?_⟩
  simp only [List.mem_append]
  constructor
  · rintro (hx | hx | hx)
    · have := e2 _ hx; exact .inl ⟨by simp only at this; omega, .inl hx⟩
    · split at hx
      · simp at hx; exact .inr ⟨hx.1, hx.2, by omega⟩
      · cases hx
    · have := e3 _ hx; exact .inl ⟨by simp only at this; omega, .inr (.inr hx)⟩
  · rintro (⟨h1, hx | hx | hx⟩ | ⟨h1, h2, h3⟩)
    · exact .inl hx
    · split at hx
      · simp at hx; exact absurd hx.1 h1
      · cases hx
    · exact .inr (.inr hx)
    · right; left; rw [if_pos (by omega)]; simp [h1, h2]
theorem addS_sum {zs : List (Int × Int)} (h : Strict zs) {id c : Int} (hc : 0 ≤ c) : sumL (addS zs id c) = sumL zs + c := by
  obtain ⟨P, Q, e1, e2, e3, e4⟩ := strict_split h id
  generalize findL id zs = v at *
  subst e1
  rw [addS_parts e2 e3 e4 hc, sumL_append, sumL_append, sumL_append, sumL_append]
  have : sumL (if 0 < v + c then [(id, v + c)] else []) = v + c := by
    split
    · simp [sumL]
    · simp [sumL]; omega
  have : sumL (if 0 < v then [(id, v)] else []) = v := by
    split
    · simp [sumL]
    · simp [sumL]; omega
  omega

/-- A probe's nodes. -/
def snapP (xs : List (Int × Int)) : List (Int × Int) := sortL (full xs)
theorem srt_ne {zs : List (Int × Int)} (h : Srt zs) (hn : zs.Pairwise (fun x y => x.1 ≠ y.1)) : zs.Pairwise (fun x y => x.1 < y.1) := by
  induction zs with
  | nil => exact List.Pairwise.nil
  | cons a r ih =>
    rw [List.pairwise_cons] at *
    have h1 := List.pairwise_cons.1 h
    exact ⟨fun y hy => by have := h1.1 y hy; have := hn.1 y hy; omega, ih h1.2 hn.2⟩
theorem insL_perm (xs : List (Int × Int)) (y : Int × Int) : (insL xs y).Perm (y :: xs) := by
  unfold insL
  have h := List.perm_middle (a := y) (l₁ := xs.take (back xs y.1 xs.length)) (l₂ := xs.drop (back xs y.1 xs.length))
  rwa [List.take_append_drop] at h
theorem foldl_insL_perm (ys xs : List (Int × Int)) : (ys.foldl insL xs).Perm (ys ++ xs) := by
  induction ys generalizing xs with
  | nil => exact List.Perm.refl _
  | cons y r ih =>
    rw [List.foldl_cons]
    refine (ih _).trans ?_
    refine ((insL_perm xs y).append_left r).trans ?_
    exact List.perm_middle
theorem sortL_perm (xs : List (Int × Int)) : (sortL xs).Perm xs := by
  have := foldl_insL_perm xs []
  rwa [List.append_nil] at this
theorem snapP_strict {b : Nat} {xs : List (Int × Int)} (t : Tab b xs) : Strict (snapP xs) := by
  refine ⟨srt_ne (sortL_SS _).1 ?_, fun x hx => t.full_ok x ((sortL_mem _ _).1 hx)⟩
  exact (sortL_perm (full xs)).symm.pairwise t.full_pair (fun h => Ne.symm h)
theorem snapP_mem {xs : List (Int × Int)} {id c : Int} : (id, c) ∈ snapP xs ↔ Has xs id c := (sortL_mem _ _).trans full_mem
theorem snapP_length (xs : List (Int × Int)) : (snapP xs).length = occ xs := by unfold snapP; rw [sortL_length, full_length]
theorem snapP_sum {b : Nat} {xs : List (Int × Int)} (t : Tab b xs) : sumL (snapP xs) = sumL xs := by unfold snapP; rw [sortL_sum, full_sum t.pos]
theorem snapP_eq {b b' : Nat} {xs ys : List (Int × Int)} (t : Tab b xs) (t' : Tab b' ys) (h : ∀ id c, Has xs id c ↔ Has ys id c) : snapP xs = snapP ys :=
  strict_ext (snapP_strict t) (snapP_strict t') (fun ⟨a, c⟩ => by rw [snapP_mem, snapP_mem]; exact h a c)
theorem get_snapP {l : Int} {b : Nat} {xs : List (Int × Int)} (v : Pv l b xs) (id : Int) : pGet l b xs id = findL id (snapP xs) := by
  have hs := snapP_strict v.tab
  unfold pGet
  cases hr : rightB l id
  · refine (findL_no (fun x hx q => ?_)).symm
    obtain ⟨i, hi, h1, h2, h3⟩ := snapP_mem.1 (show (x.1, x.2) ∈ snapP xs from hx)
    have := v.ids i (by omega)
    rw [h1, q, hr] at this; cases this
  · simp only [if_true]
    obtain ⟨e, he, hst⟩ := v.empty
    obtain ⟨s1, s2, s3, s4⟩ := look_spec v.tab id he (hst id)
    by_cases hc : 0 < cntA xs (lookI xs b id)
    · have hid : idA xs (lookI xs b id) = id := by
        rcases stopB_iff.1 s2 with q | q
        · omega
        · exact q
      exact (strict_at hs (snapP_mem.2 ⟨_, s3, hid, rfl, hc⟩)).symm
    · have hz : cntA xs (lookI xs b id) = 0 := by have := v.tab.pos (lookI xs b id); omega
      rw [hz]
      refine (findL_no (fun x hx q => ?_)).symm
      obtain ⟨i, hi, h1, h2, h3⟩ := snapP_mem.1 (show (x.1, x.2) ∈ snapP xs from hx)
      exact look_none v.tab id (by omega) i hi (by omega) (by rw [h1, q])
theorem tot_snapP {l : Int} {b : Nat} {xs : List (Int × Int)} (v : Pv l b xs) : totV (snapP xs) = sumL xs := by
  rw [totV_sum (snapP_strict v.tab).pos (by rw [snapP_sum v.tab]; exact v.most), snapP_sum v.tab]
theorem add_snapP {l : Int} {b : Nat} {xs : List (Int × Int)} (v : Pv l b xs) (hb : b + 1 ≤ 62) (id c : Int) : stAdd l (snapP xs) id c = (snapP (pAdd l b xs id c).2, pAddCode l xs id c) := by
  unfold stAdd
  rw [tot_snapP v]
  unfold pAdd pAddCode
  by_cases h1 : rightB l id = false ∨ c < 0
  · rw [if_pos h1, if_pos h1, if_neg (by decide)]
  · rw [if_neg h1, if_neg h1]
    by_cases h2 : 72057594037927935 < sumL xs + c
    · rw [if_pos (show 72057594037927935 - sumL xs < c by omega), if_pos h2, if_neg (by decide)]
    · rw [if_neg (show ¬ 72057594037927935 - sumL xs < c by omega), if_neg h2, if_pos rfl]
      have hr : rightB l id = true := by
        cases h : rightB l id
        · exact absurd (.inl h) h1
        · rfl
      have hc : 0 ≤ c := by
        by_cases h : c < 0
        · exact absurd (.inr h) h1
        · omega
      have hi := right_pos hr
      have hs := snapP_strict v.tab
      rw [foldL_add hs hi hc (by rw [snapP_sum v.tab]; omega)]
      simp only [Option.getD_some, Prod.mk.injEq, and_true]
      obtain ⟨a1, a2⟩ := addS_spec hs hi hc
      obtain ⟨t1, t2, t3, t4, t5, t6⟩ := addT_spec v.tab hb v.half hi hc
      refine strict_ext a1 (snapP_strict t1) (fun ⟨id', c'⟩ => ?_)
      rw [a2, snapP_mem, snapP_mem, t6, ← get_snapP v]
      unfold pGet
      rw [hr]; rfl
theorem take_snapP {l : Int} {b : Nat} {xs : List (Int × Int)} (v : Pv l b xs) (id : Int) : stTake (snapP xs) id = (snapP (pTake l b xs id), pGet l b xs id) := by
  unfold stTake
  rw [get_snapP v]
  congr 1
  have hs := snapP_strict v.tab
  have hv := (v.take id).1
  refine strict_ext ⟨hs.1.filter _, fun x hx => hs.2 x (List.mem_filter.1 hx).1⟩ (snapP_strict hv.tab) (fun ⟨id', c'⟩ => ?_)
  rw [List.mem_filter, snapP_mem, snapP_mem]
  unfold pTake
  by_cases hg : pGet l b xs id = 0
  · rw [if_pos hg]
    refine ⟨fun h => h.1, fun h => ⟨h, ?_⟩⟩
    simp only [decide_eq_true_eq]
    intro q
    have hm := snapP_mem.2 h
    rw [q] at hm
    have := strict_at hs hm
    rw [← get_snapP v, hg] at this
    have := (hs.2 _ hm).2
    simp only at this; omega
  · rw [if_neg hg]
    have hr : rightB l id = true := by
      cases h3 : rightB l id
      · exact absurd (by unfold pGet; rw [h3]; rfl) hg
      · rfl
    have hgc : pGet l b xs id = cntA xs (lookI xs b id) := by unfold pGet; rw [hr]; rfl
    have hp := v.tab.pos (lookI xs b id)
    have h0 := v.tab.pos_len
    have hh := v.half
    obtain ⟨e, he, hce⟩ := has_empty (show occ xs < xs.length by omega)
    obtain ⟨t1, t2, t3, t4, t5⟩ := takeP_spec v.tab id he hce (by omega)
    rw [t5]
    simp only [decide_eq_true_eq]
/-- What a call does to a probe, and what it tells. -/
def pDo (l : Int) (b : Nat) (xs : List (Int × Int)) (kind id c : Int) : (Nat × List (Int × Int)) × Int :=
  if kind = 0 then (pAdd l b xs id c, pAddCode l xs id c) else if kind = 1 then ((b, pTake l b xs id), pGet l b xs id) else ((b, xs), pGet l b xs id)
theorem do_snapP {l : Int} {b : Nat} {xs : List (Int × Int)} (v : Pv l b xs) (hb : b + 1 ≤ 62) (kind id c : Int) : stDo l (snapP xs) kind id c = (snapP (pDo l b xs kind id c).1.2, (pDo l b xs kind id c).2) := by
  unfold stDo pDo
  split
  · exact add_snapP v hb id c
  · split
    · exact take_snapP v id
    · rw [get_snapP v]
/-- How far a table may have grown. -/
def Lim (m : Nat) (xs : List (Int × Int)) : Prop := occ xs ≤ m ∧ xs.length ≤ 8 + 4 * m
theorem Lim.mono {m m' : Nat} {xs : List (Int × Int)} (h : Lim m xs) (hm : m ≤ m') : Lim m' xs := ⟨by have := h.1; omega, by have := h.2; omega⟩
theorem Lim.new : Lim 0 (List.replicate 8 ((0 : Int), (0 : Int))) := ⟨by rw [occ_zeros]; omega, by simp⟩
theorem Lim.bits {l : Int} {b m : Nat} {xs : List (Int × Int)} (h : Lim m xs) (v : Pv l b xs) (hm : m ≤ 100000) : b ≤ 18 ∧ xs.length ≤ 400008 := by
  have h1 := h.2
  have h2 := v.tab.len
  refine ⟨?_, by omega⟩
  refine Nat.le_of_not_lt fun q => ?_
  have h3 : (2 : Nat) ^ 19 ≤ 2 ^ b := Nat.pow_le_pow_right (by omega) (by omega)
  have h4 : (2 : Nat) ^ 19 = 524288 := rfl
  omega
theorem Lim.add {l : Int} {b m : Nat} {xs : List (Int × Int)} (h : Lim m xs) (v : Pv l b xs) (hb : b + 1 ≤ 62) (id c : Int) : Lim (m + 1) (pAdd l b xs id c).2 ∧ b ≤ (pAdd l b xs id c).1 := by
  unfold pAdd
  split
  · rename_i hc
    unfold pAddCode at hc
    split at hc
    · omega
    · rename_i h1
      have hr : rightB l id = true := by
        cases h3 : rightB l id
        · exact absurd (.inl h3) h1
        · rfl
      obtain ⟨t1, t2, t3, t4, t5, t6⟩ := addT_spec v.tab hb v.half (right_pos hr) (show 0 ≤ c by by_cases hq : c < 0; exact absurd (.inr hq) h1; omega)
      have := h.1
      have := h.2
      rcases t5 with ⟨e1, e2⟩ | ⟨e1, e2, e3, e4⟩
      · exact ⟨⟨by omega, by omega⟩, by omega⟩
      · exact ⟨⟨by omega, by omega⟩, by omega⟩
  · exact ⟨h.mono (by omega), Nat.le_refl _⟩
theorem Lim.take {l : Int} {b m : Nat} {xs : List (Int × Int)} (h : Lim m xs) (v : Pv l b xs) (id : Int) : Lim m (pTake l b xs id) := by
  obtain ⟨t1, t2, t3⟩ := v.take id
  have h1 := h.1
  have h2 := h.2
  have e : (pTake l b xs id).length = xs.length := by rw [t1.tab.len, v.tab.len]
  refine ⟨?_, by omega⟩
  split at t2 <;> omega
theorem Lim.do {l : Int} {b m : Nat} {xs : List (Int × Int)} (h : Lim m xs) (v : Pv l b xs) (hb : b + 1 ≤ 62) (kind id c : Int) : Pv l (pDo l b xs kind id c).1.1 (pDo l b xs kind id c).1.2 ∧ Lim (m + 1) (pDo l b xs kind id c).1.2 ∧ b ≤ (pDo l b xs kind id c).1.1 := by
  unfold pDo
  split
  · exact ⟨v.add' hb id c, (h.add v hb id c).1, (h.add v hb id c).2⟩
  · split
    · exact ⟨(v.take id).1, (h.take v id).mono (by omega), Nat.le_refl _⟩
    · exact ⟨v, h.mono (by omega), Nat.le_refl _⟩
end Nl
end Go.Proofs.Ytejoecoenehooaa
