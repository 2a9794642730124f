/- The order of folding, lists in that order, and heaps (no program in sight). -/
import Derived.Test.YtejoecoenehooaaTwig
namespace Go.Proofs.Ytejoecoenehooaa
namespace Nl

theorem dep_nn (id : Int) : 0 ≤ depV id := by
  unfold depV depOk
  by_cases h : 1 ≤ id
  · have hb : 1 ≤ bitLen id.toNat := by
      unfold bitLen; rw [if_neg (by omega)]; omega
    rw [if_pos (by simpa using h)]; omega
  · rw [if_neg (by simpa using h)]; omega
/-- Does a node stand ahead of another one? -/
def aheadB (a b : Int) : Bool := decide (depV b < depV a ∨ (depV a = depV b ∧ a < b))
theorem ahead_irrefl (a : Int) : aheadB a a = false := by unfold aheadB; simp
theorem ahead_asymm {a b : Int} (h : aheadB a b = true) : aheadB b a = false := by
  unfold aheadB at *; simp only [decide_eq_true_eq, decide_eq_false_iff_not] at *; omega
theorem ahead_trans {a b c : Int} (h : aheadB a b = true) (k : aheadB b c = true) : aheadB a c = true := by
  unfold aheadB at *; simp only [decide_eq_true_eq] at *; omega
theorem ahead_total {a b : Int} (h : aheadB a b = false) (k : aheadB b a = false) : a = b := by
  unfold aheadB at *; simp only [decide_eq_false_iff_not] at *; omega
/-- Not ahead, one behind the other. -/
theorem nahead_trans {a b c : Int} (h : aheadB a b = false) (k : aheadB b c = false) : aheadB a c = false := by
  unfold aheadB at *; simp only [decide_eq_false_iff_not] at *; omega
theorem ahead_ne {a b : Int} (h : aheadB a b = true) : a ≠ b := fun e => by rw [e, ahead_irrefl] at h; cases h

/-- In the order of folding, each once. -/
def Ord (l : List Int) : Prop := l.Pairwise (fun a b => aheadB a b = true)
theorem Ord.nodup {l : List Int} (h : Ord l) : l.Nodup := List.Pairwise.imp (fun h => ahead_ne h) h
theorem Ord.tail {x : Int} {l : List Int} (h : Ord (x :: l)) : Ord l := (List.pairwise_cons.1 h).2
/-- One more, if it isn't there. -/
def withL (l : List Int) (id : Int) : List Int :=
  if (l.dropWhile (fun x => aheadB x id)).head? = some id then l else l.takeWhile (fun x => aheadB x id) ++ id :: l.dropWhile (fun x => aheadB x id)
theorem take_drop_while (l : List Int) (id : Int) : l.takeWhile (fun x => aheadB x id) ++ l.dropWhile (fun x => aheadB x id) = l := List.takeWhile_append_dropWhile
theorem takeWhile_ahead {l : List Int} {id x : Int} (h : x ∈ l.takeWhile (fun x => aheadB x id)) : aheadB x id = true := by
  induction l with
  | nil => simp at h
  | cons y r ih =>
    rw [List.takeWhile_cons] at h
    split at h
    · rename_i hy
      rcases List.mem_cons.1 h with rfl | h
      · exact hy
      · exact ih h
    · simp at h
theorem dropWhile_nahead {l : List Int} {id x : Int} (o : Ord l) (h : x ∈ l.dropWhile (fun x => aheadB x id)) : aheadB x id = false := by
  induction l with
  | nil => simp at h
  | cons y r ih =>
    obtain ⟨o1, o2⟩ := List.pairwise_cons.1 o
    rw [List.dropWhile_cons] at h
    split at h
    · exact ih o2 h
    · rename_i hy
      have hy' : aheadB y id = false := by simpa using hy
      rcases List.mem_cons.1 h with rfl | h
      · exact hy'
      · exact nahead_trans (ahead_asymm (o1 x h)) hy'
/-- If it is there, it is the first that isn't ahead of itself. -/
theorem dropWhile_head {l : List Int} {id : Int} (o : Ord l) (h : id ∈ l.dropWhile (fun x => aheadB x id)) : (l.dropWhile (fun x => aheadB x id)).head? = some id := by
  have hd : ∀ x ∈ l.dropWhile (fun x => aheadB x id), aheadB x id = false := fun x hx => dropWhile_nahead o hx
  have e := take_drop_while l id
  have o' := o
  rw [← e] at o'
  have o2 := (List.pairwise_append.1 o').2.1
  clear e o' o
  generalize l.dropWhile (fun x => aheadB x id) = d at *
  cases d with
  | nil => simp at h
  | cons z r =>
    rcases List.mem_cons.1 h with rfl | hr
    · rfl
    · have h2 := (List.pairwise_cons.1 o2).1 id hr
      rw [hd z (List.mem_cons_self ..)] at h2
      cases h2
theorem withL_old {l : List Int} {id : Int} (o : Ord l) (h : id ∈ l) : withL l id = l := by
  unfold withL
  rw [if_pos]
  refine dropWhile_head o ?_
  rw [← take_drop_while l id] at h
  rcases List.mem_append.1 h with h | h
  · have := takeWhile_ahead h; rw [ahead_irrefl] at this; cases this
  · exact h
theorem withL_new {l : List Int} {id : Int} (h : id ∉ l) : withL l id = l.takeWhile (fun x => aheadB x id) ++ id :: l.dropWhile (fun x => aheadB x id) := by
  unfold withL
  rw [if_neg]
  intro q
  refine h ?_
  rw [← take_drop_while l id]
  exact List.mem_append_right _ (List.mem_of_mem_head? q)
theorem withL_perm {l : List Int} {id : Int} (h : id ∉ l) : (withL l id).Perm (id :: l) := by
  rw [withL_new h]
  refine List.perm_middle.trans ?_
  rw [take_drop_while]
theorem withL_mem {l : List Int} (o : Ord l) {id x : Int} : x ∈ withL l id ↔ x = id ∨ x ∈ l := by
  by_cases h : id ∈ l
  · rw [withL_old o h]
    constructor
    · exact .inr
    · rintro (rfl | h')
      · exact h
      · exact h'
  · rw [(withL_perm h).mem_iff, List.mem_cons]
theorem withL_length {l : List Int} (o : Ord l) (id : Int) : (withL l id).length = if id ∈ l then l.length else l.length + 1 := by
  split
  · rename_i h; rw [withL_old o h]
  · rename_i h; rw [(withL_perm h).length_eq]; simp
theorem withL_ord {l : List Int} (o : Ord l) (id : Int) : Ord (withL l id) := by
  by_cases h : id ∈ l
  · rw [withL_old o h]; exact o
  · rw [withL_new h]
    have e := take_drop_while l id
    have o' := o
    rw [← e] at o'
    obtain ⟨o1, o2, o3⟩ := List.pairwise_append.1 o'
    refine List.pairwise_append.2 ⟨o1, List.pairwise_cons.2 ⟨fun y hy => ?_, o2⟩, fun a ha b hb => ?_⟩
    · have h1 := dropWhile_nahead o hy
      cases hq : aheadB id y
      · exfalso
        have hyi := ahead_total h1 hq
        subst hyi
        exact h (by rw [← e]; exact List.mem_append_right _ hy)
      · rfl
    · rcases List.mem_cons.1 hb with rfl | hb
      · exact takeWhile_ahead ha
      · exact o3 a ha b hb

/-- With one more, if it may be one. -/
def putL (l : List Int) (id : Int) : List Int := if 1 ≤ id then withL l id else l
theorem putL_ord {l : List Int} (o : Ord l) (id : Int) : Ord (putL l id) := by
  unfold putL; split
  · exact withL_ord o id
  · exact o
theorem putL_mem {l : List Int} (o : Ord l) {id x : Int} : x ∈ putL l id ↔ (x = id ∧ 1 ≤ id) ∨ x ∈ l := by
  unfold putL; split
  · rename_i h; rw [withL_mem o]; simp [h]
  · rename_i h; simp [h]
theorem putL_len {l : List Int} (o : Ord l) (id : Int) : (putL l id).length ≤ l.length + 1 := by
  unfold putL; split
  · rw [withL_length o]; split <;> omega
  · omega

/-! Heaps. -/
def HeapP (hs : List Int) : Prop := ∀ j, 0 < j → j < hs.length → aheadB (hs.getD j 0) (hs.getD ((j - 1) / 2) 0) = false
theorem HeapP.nil : HeapP [] := fun j _ h => by simp at h
theorem HeapP.first {hs : List Int} (h : HeapP hs) (j : Nat) (hj : j < hs.length) : aheadB (hs.getD j 0) (hs.getD 0 0) = false := by
  induction j using Nat.strongRecOn with
  | _ j ih =>
    by_cases h0 : j = 0
    · subst h0; exact ahead_irrefl _
    · exact nahead_trans (h j (by omega) hj) (ih ((j - 1) / 2) (by omega) (by omega))
def swapL (hs : List Int) (i j : Nat) : List Int := (hs.set i (hs.getD j 0)).set j (hs.getD i 0)
theorem swapL_length (hs : List Int) (i j : Nat) : (swapL hs i j).length = hs.length := by simp [swapL]
theorem swapL_getD {hs : List Int} {i j : Nat} (hi : i < hs.length) (hj : j < hs.length) (k : Nat) : (swapL hs i j).getD k 0 = if k = j then hs.getD i 0 else if k = i then hs.getD j 0 else hs.getD k 0 := by
  unfold swapL
  simp only [List.getD, List.getElem?_set, List.length_set]
  by_cases h1 : k = j
  · subst h1; simp [hj]
  · have h1' : ¬ j = k := fun e => h1 e.symm
    rw [if_neg h1', if_neg h1]
    by_cases h2 : k = i
    · subst h2; simp [hi]
    · have h2' : ¬ i = k := fun e => h2 e.symm
      rw [if_neg h2', if_neg h2]
theorem swapL_perm {hs : List Int} {i j : Nat} (hi : i < hs.length) (hj : j < hs.length) : (swapL hs i j).Perm hs := by
  have e : swapL hs i j = (hs.set i hs[j]).set j hs[i] := by
    unfold swapL; simp [List.getD, List.getElem?_eq_getElem hi, List.getElem?_eq_getElem hj]
  rw [e]
  exact List.set_set_perm hi hj
/-- A heap but for what stands at i, which may be ahead of its parent. -/
def HeapUp (hs : List Int) (i : Nat) : Prop :=
  (∀ j, 0 < j → j < hs.length → j ≠ i → aheadB (hs.getD j 0) (hs.getD ((j - 1) / 2) 0) = false) ∧
  ∀ j, 0 < j → j < hs.length → (j - 1) / 2 = i → 0 < i → aheadB (hs.getD j 0) (hs.getD ((i - 1) / 2) 0) = false
theorem HeapUp.start {hs : List Int} (h : HeapP hs) (x : Int) : HeapUp (hs ++ [x]) hs.length := by
  refine ⟨fun j h0 hj hne => ?_, fun j h0 hj e _ => ?_⟩
  · simp only [List.length_append, List.length_singleton] at hj
    have e1 : ∀ k, k < hs.length → (hs ++ [x]).getD k 0 = hs.getD k 0 := fun k hk => by simp [List.getD, List.getElem?_append_left hk]
    rw [e1 j (by omega), e1 _ (by omega)]
    exact h j h0 (by omega)
  · simp only [List.length_append, List.length_singleton] at hj; omega
theorem HeapUp.step {hs : List Int} {i : Nat} (h : HeapUp hs i) (h0 : 0 < i) (hi : i < hs.length) (ha : aheadB (hs.getD i 0) (hs.getD ((i - 1) / 2) 0) = true) : HeapUp (swapL hs i ((i - 1) / 2)) ((i - 1) / 2) := by
  obtain ⟨c1, c2⟩ := h
  have hp : (i - 1) / 2 < i := by omega
  generalize hpp : (i - 1) / 2 = p at *
  have hpl : p < hs.length := by omega
  refine ⟨fun j h1 hj hne => ?_, fun j h1 hj e hp0 => ?_⟩
  · rw [swapL_length] at hj
    rw [swapL_getD hi hpl, swapL_getD hi hpl, if_neg hne]
    by_cases e1 : j = i
    · subst e1
      rw [if_pos rfl, hpp, if_pos rfl]
      exact ahead_asymm ha
    · rw [if_neg e1]
      by_cases e2 : (j - 1) / 2 = i
      · rw [if_neg (by omega), if_pos e2]
        exact c2 j h1 hj e2 h0
      · by_cases e3 : (j - 1) / 2 = p
        · rw [if_pos e3]
          have := c1 j h1 hj e1
          rw [e3] at this
          exact nahead_trans this (ahead_asymm ha)
        · rw [if_neg e3, if_neg e2]
          exact c1 j h1 hj e1
  · rw [swapL_length] at hj
    rw [swapL_getD hi hpl, swapL_getD hi hpl, if_neg (show j ≠ p by omega), if_neg (show (p - 1) / 2 ≠ p by omega), if_neg (show (p - 1) / 2 ≠ i by omega)]
    have cp := c1 p hp0 hpl (by omega)
    by_cases e1 : j = i
    · rw [if_pos e1]; exact cp
    · rw [if_neg e1]
      have := c1 j h1 hj e1
      rw [e] at this
      exact nahead_trans this cp
theorem HeapUp.done {hs : List Int} {i : Nat} (h : HeapUp hs i) (ha : i = 0 ∨ aheadB (hs.getD i 0) (hs.getD ((i - 1) / 2) 0) = false) : HeapP hs := fun j h0 hj => by
  by_cases e : j = i
  · subst e
    rcases ha with ha | ha
    · omega
    · exact ha
  · exact h.1 j h0 hj e
/-- A heap but for what stands at i, which its children may be ahead of. -/
def HeapDown (hs : List Int) (i : Nat) : Prop :=
  (∀ j, 0 < j → j < hs.length → (j - 1) / 2 ≠ i → aheadB (hs.getD j 0) (hs.getD ((j - 1) / 2) 0) = false) ∧
  ∀ j, 0 < j → j < hs.length → (j - 1) / 2 = i → 0 < i → aheadB (hs.getD j 0) (hs.getD ((i - 1) / 2) 0) = false
theorem HeapDown.step {hs : List Int} {i f : Nat} (h : HeapDown hs i) (hf : f = 2 * i + 1 ∨ f = 2 * i + 2) (hfl : f < hs.length) (ha : aheadB (hs.getD f 0) (hs.getD i 0) = true)
    (hm : ∀ c, (c = 2 * i + 1 ∨ c = 2 * i + 2) → c < hs.length → aheadB (hs.getD c 0) (hs.getD f 0) = false) : HeapDown (swapL hs i f) f := by
  obtain ⟨c1, c2⟩ := h
  have hi : i < hs.length := by omega
  refine ⟨fun j h1 hj hne => ?_, fun j h1 hj e hp0 => ?_⟩
  · rw [swapL_length] at hj
    rw [swapL_getD hi hfl, swapL_getD hi hfl, if_neg hne]
    by_cases e2 : (j - 1) / 2 = i
    · rw [if_pos e2]
      by_cases e1 : j = f
      · rw [if_pos e1]; exact ahead_asymm ha
      · rw [if_neg e1, if_neg (by omega)]
        exact hm j (by omega) hj
    · rw [if_neg e2, if_neg (show j ≠ f by omega)]
      by_cases e1 : j = i
      · rw [if_pos e1]
        subst e1
        exact c2 f (by omega) hfl (by omega) h1
      · rw [if_neg e1]
        exact c1 j h1 hj e2
  · rw [swapL_length] at hj
    rw [swapL_getD hi hfl, swapL_getD hi hfl, if_neg (show j ≠ f by omega), if_neg (show j ≠ i by omega), if_neg (show (f - 1) / 2 ≠ f by omega), if_pos (show (f - 1) / 2 = i by omega)]
    have := c1 j h1 hj (by omega)
    rw [e] at this
    exact this
theorem HeapDown.done {hs : List Int} {i : Nat} (h : HeapDown hs i) (hm : ∀ c, (c = 2 * i + 1 ∨ c = 2 * i + 2) → c < hs.length → aheadB (hs.getD c 0) (hs.getD i 0) = false) : HeapP hs := fun j h0 hj => by
  by_cases e : (j - 1) / 2 = i
  · have := hm j (by omega) hj
    rw [e]; exact this
  · exact h.1 j h0 hj e
/-- What is left when the first is taken: the last stands in its place. -/
def popL (hs : List Int) : List Int := (hs.set 0 (hs.getD (hs.length - 1) 0)).take (hs.length - 1)
theorem popL_length (hs : List Int) : (popL hs).length = hs.length - 1 := by simp [popL]
theorem popL_perm {hs : List Int} (h : 0 < hs.length) : hs.Perm (hs.getD 0 0 :: popL hs) := by
  cases hs with
  | nil => simp at h
  | cons x r =>
    by_cases hr : r = []
    · subst hr; exact .refl _
    · have e := List.dropLast_concat_getLast hr
      have hl : 0 < r.length := by cases r with | nil => exact absurd rfl hr | cons => simp
      have e2 : popL (x :: r) = r.getLast hr :: r.dropLast := by
        unfold popL
        have e3 : (x :: r).length - 1 = (r.length - 1) + 1 := by simp; omega
        have e4 : (x :: r).getD ((x :: r).length - 1) 0 = r.getLast hr := by
          rw [e3, List.getD_cons_succ, List.getLast_eq_getElem, List.getD_eq_getElem?_getD, List.getElem?_eq_getElem (by omega)]; rfl
        rw [e4, e3, List.set_cons_zero, List.take_succ_cons, List.dropLast_eq_take]
      rw [e2]
      show (x :: r).Perm (x :: r.getLast hr :: r.dropLast)
      refine List.Perm.cons x ?_
      have := (List.perm_append_comm (l₁ := r.dropLast) (l₂ := [r.getLast hr]))
      rw [e] at this
      exact this
theorem HeapDown.start {hs : List Int} (h : HeapP hs) : HeapDown (popL hs) 0 := by
  refine ⟨fun j h0 hj hne => ?_, fun j _ _ _ h => by omega⟩
  rw [popL_length] at hj
  have e1 : ∀ k, 0 < k → k < hs.length - 1 → (popL hs).getD k 0 = hs.getD k 0 := fun k hk hk2 => by
    unfold popL; simp only [List.getD, List.getElem?_take, if_pos hk2, List.getElem?_set]
    rw [if_neg (by omega)]
  rw [e1 j h0 hj, e1 _ (by omega) (by omega)]
  exact h j h0 (by omega)
/-- The heap's first is the list's first. -/
theorem heap_head {hs l : List Int} {y : Int} (h : HeapP hs) (p : hs.Perm (y :: l)) (o : Ord (y :: l)) : hs.getD 0 0 = y := by
  have hl : 0 < hs.length := by rw [p.length_eq]; simp
  have h1 : hs.getD 0 0 ∈ y :: l := p.mem_iff.1 (by simp [List.getD, List.getElem?_eq_getElem hl])
  have h2 : y ∈ hs := p.mem_iff.2 (List.mem_cons_self ..)
  obtain ⟨k, hk, e⟩ := List.getElem_of_mem h2
  have h3 := h.first k hk
  rw [List.getD_eq_getElem?_getD, List.getElem?_eq_getElem hk, Option.getD_some, e] at h3
  rcases List.mem_cons.1 h1 with h1 | h1
  · exact h1
  · have := (List.pairwise_cons.1 o).1 _ h1
    rw [h3] at this; cases this
end Nl
end Go.Proofs.Ytejoecoenehooaa
