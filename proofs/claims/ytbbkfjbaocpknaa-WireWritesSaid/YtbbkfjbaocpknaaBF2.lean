/- Texts laid together: Ag4, Ag5, OpenInts, PressMath, PressMath2. -/
import Derived.Test.YtbbkfjbaocpknaaBF
import Derived.Test.YtbbkfjbaocpknaaBA
import Derived.Test.YtbbkfjbaocpknaaBE
/- The walks of an agenda: sink, Pop. -/
namespace Go.Proofs.Ytbbkfjbaocpknaa
open Go.RowKit Go.Maps Nl

end Go.Proofs.Ytbbkfjbaocpknaa

/- The walks of the reference's With, Agenda; of fold.New. -/
namespace Go.Proofs.Ytbbkfjbaocpknaa
open Go.RowKit Go.Maps Nl

namespace Nl
theorem while_split {α : Type} {p : α → Bool} (xs : List α) (d : α) : ∀ k, k ≤ xs.length → (∀ j, j < k → p (xs.getD j d) = true) → (k < xs.length → p (xs.getD k d) = false) → xs.takeWhile p = xs.take k ∧ xs.dropWhile p = xs.drop k := by
  induction xs with
  | nil => intro k hk _ _; simp at hk; subst hk; simp
  | cons x r ih =>
    intro k hk h1 h2
    cases k with
    | zero =>
      have := h2 (by simp)
      simp only [List.getD_cons_zero] at this
      simp [this]
    | succ k =>
      have h0 := h1 0 (by omega)
      simp only [List.getD_cons_zero] at h0
      obtain ⟨i1, i2⟩ := ih k (by simpa using hk) (fun j hj => by have := h1 (j + 1) (by omega); simpa using this) (fun hj => by have := h2 (by simpa using hj); simpa using this)
      rw [List.takeWhile_cons, List.dropWhile_cons, if_pos h0, if_pos h0, i1, i2]
      simp
theorem withL_at {xs : List Int} {id : Int} {k : Nat} (hk : k ≤ xs.length) (h1 : ∀ j, j < k → aheadB (xs.getD j 0) id = true) (h2 : k < xs.length → aheadB (xs.getD k 0) id = false) :
    withL xs id = if k < xs.length ∧ xs.getD k 0 = id then xs else xs.take k ++ id :: xs.drop k := by
  obtain ⟨e1, e2⟩ := while_split (p := fun x => aheadB x id) xs 0 k hk h1 h2
  unfold withL
  rw [e1, e2]
  by_cases h : k < xs.length
  · have e3 : (xs.drop k).head? = some (xs.getD k 0) := by rw [List.head?_drop]; simp [List.getD, List.getElem?_eq_getElem h]
    rw [e3]
    simp [h]
  · have e3 : (xs.drop k).head? = none := by rw [List.drop_eq_nil_of_le (by omega)]; rfl
    rw [e3, if_neg (by simp), if_neg (by omega)]
end Nl

theorem RdI.grownB {w w0 w' : World} {v : Value} {xs : List Int} {row : Option Nat} (h : RdI w0 v xs) (hv : xs = [] ∨ ∀ g, v.ownBlock = some g → g < w.heap.size) (hg : w0.grownBy w' row) (hr : ∀ k, row = some k → w.heap.size ≤ k) : RdI w' v xs := by
  rcases hv with rfl | hv
  · exact h.any
  · exact h.grown hg (fun g hgb => ne_row hr (hv g hgb))
/-- Where a list's slice lies: the same one, or a new one. -/
def WithPost (v : Value) (ys : List Int) (w : World) (e : Ending) (w' : World) : Prop :=
  ∃ v', e = .returned v' ∧ RdI w' v' ys ∧ (v' = v ∨ ∀ k, v'.ownBlock = some k → w.heap.size ≤ k) ∧ Below w.heap.size w w'
def WithRel (xs : List Int) (id : Int) (i : Value) : Prop := ∃ k : Nat, i = .int .i64 k ∧ k ≤ xs.length ∧ Hid (∀ j, j < k → aheadB (xs.getD j 0) id = true)

namespace Nl
/-- Put one behind the other. -/
def agendaL (ids : List Int) : List Int := ids.foldl putL []
theorem agendaL_snoc (ids : List Int) (x : Int) : agendaL (ids ++ [x]) = putL (agendaL ids) x := by simp [agendaL]
theorem agenda_aux (ids : List Int) : ∀ a : List Int, Ord a → (∀ x ∈ a, 1 ≤ x ∧ In64 x) → (∀ x ∈ ids, In64 x) → Ord (ids.foldl putL a) ∧ (∀ x ∈ ids.foldl putL a, 1 ≤ x ∧ In64 x) ∧ (ids.foldl putL a).length ≤ a.length + ids.length := by
  induction ids with
  | nil => intro a o h _; exact ⟨o, h, by simp⟩
  | cons y r ih =>
    intro a o h hi
    rw [List.foldl_cons]
    obtain ⟨i1, i2, i3⟩ := ih (putL a y) (putL_ord o y) (fun x hx => by
      rcases (putL_mem o).1 hx with ⟨rfl, h1⟩ | h1
      · exact ⟨h1, hi x (List.mem_cons_self ..)⟩
      · exact h x h1) (fun x hx => hi x (List.mem_cons_of_mem _ hx))
    have := putL_len o y
    exact ⟨i1, i2, by simp only [List.length_cons]; omega⟩
theorem agendaL_ok {ids : List Int} (h : ∀ x ∈ ids, In64 x) : Ord (agendaL ids) ∧ (∀ x ∈ agendaL ids, 1 ≤ x ∧ In64 x) ∧ (agendaL ids).length ≤ ids.length := by
  obtain ⟨a1, a2, a3⟩ := agenda_aux ids [] List.Pairwise.nil (by simp) h
  exact ⟨a1, a2, by simpa [agendaL] using a3⟩
theorem withL_last {l : List Int} {id : Int} (h : ∀ y ∈ l, aheadB y id = true) : withL l id = l ++ [id] := by
  rw [withL_at (k := l.length) (Nat.le_refl _) (fun j hj => h _ (getD_mem (d := 0) l j hj)) (fun h => by omega), if_neg (by omega)]
  simp
theorem agendaL_self {l : List Int} (o : Ord l) (h : ∀ x ∈ l, 1 ≤ x) : agendaL l = l := by
  have aux : ∀ (r d : List Int), Ord (d ++ r) → (∀ x ∈ r, 1 ≤ x) → r.foldl putL d = d ++ r := by
    intro r
    induction r with
    | nil => intro d _ _; simp
    | cons x r ih =>
      intro d o h
      rw [List.foldl_cons]
      obtain ⟨_, _, o3⟩ := List.pairwise_append.1 o
      have e : putL d x = d ++ [x] := by
        unfold putL; rw [if_pos (h x (List.mem_cons_self ..)), withL_last (fun y hy => o3 y hy x (List.mem_cons_self ..))]
      rw [e, ih (d ++ [x]) (by simpa using o) (fun y hy => h y (List.mem_cons_of_mem _ hy))]
      simp
  have := aux l [] (by simpa using o) h
  simpa [agendaL] using this
end Nl

/-- A list that lies from B on. -/
def RdIB (w : World) (B : Nat) (v : Value) (xs : List Int) : Prop := RdI w v xs ∧ ∀ k, v.ownBlock = some k → B ≤ k
theorem RdIB.nil (w : World) (B : Nat) : RdIB w B (.slice none 0 0) [] := ⟨RdI.nil w, none_lt⟩
theorem RdIB.below {w w' : World} {B B' : Nat} {v : Value} {xs : List Int} (h : RdIB w B v xs) (hb : Below B' w w') (hB : w.heap.size ≤ B') : RdIB w' B v xs := ⟨h.1.below hb hB, h.2⟩
def RAgRel (ids : List Int) (w : World) (out i : Value) (wr : World) : Prop := ∃ k : Nat, i = .int .i64 k ∧ k ≤ ids.length ∧ RdIB wr w.heap.size out (agendaL (ids.take k)) ∧ Below w.heap.size w wr
def IsInts (xs : List Int) (w : World) (e : Ending) (w' : World) : Prop := ∃ v, e = .returned v ∧ RdIB w' w.heap.size v xs ∧ Below w.heap.size w w'

end Go.Proofs.Ytbbkfjbaocpknaa

/- An argument that is a slice of ints. -/
namespace Go.Proofs.Ytbbkfjbaocpknaa
open Go.RowKit Go.ChangeShapes Go.WideShapes Go.ChangeAt

/-- A slice that reads as ints. -/
def RdIA (w : World) (v : Value) (xs : List Int) : Prop := RdI w v xs ∧ (∀ x ∈ xs, In64 x) ∧ xs.length ≤ 9223372036854775807
set_option maxRecDepth 100000 in
theorem open_ints {H : Type} {enc : TypeId × Value → H} {w : World} {base b0 : Nat} {spare : Nat → Bool} {held : Bool} {r : Reach} {v : Value} {d : DataW H} {ps : List MemPlace}
    (hv : Value.okWide Try.prog w r b0 72 v) (h : DataW.Trod enc Try.prog w base spare held 72 v d ps) : ∃ xs, RdIA w v xs := by
  obtain ⟨p, len, cap, rfl⟩ := okWide_slice Try.underlying72 hv
  obtain ⟨fuel, hf⟩ := h
  rcases Deep.open_slice1 Try.underlying72 (by kernel_rfl) hf with ⟨h0, _⟩ | ⟨a, len', cap', m, n', V, D, Pl, hcs, _, hl, hm, hmm, _, hi⟩
  · simp [Value.cells] at h0
    obtain ⟨rfl, rfl, rfl⟩ := h0
    exact ⟨[], RdI.nil w, by simp, by simp⟩
  · simp [Value.cells] at hcs
    obtain ⟨rfl, rfl, rfl⟩ := hcs
    have hlm : len ≤ m := by rw [hmm]; split <;> omega
    have key : ∀ k, k < len → w.cell? (a.add k) = some (.int .i64 (intAt w (a.add k))) ∧ In64 (intAt w (a.add k)) := by
      intro k hk
      obtain ⟨hc, ht'⟩ := hi k (by omega)
      obtain ⟨z, hz, _, hw⟩ := DataW.trod_int Try.underlying3 ht'
      simp only [List.cons.injEq, and_true] at hz
      rw [hz] at hc
      have h3 : intAt w (a.add k) = z := by unfold intAt; rw [hc]
      rw [h3]
      exact ⟨hc, bd_i64 _ hw⟩
    by_cases h0 : len = 0
    · subst h0; exact ⟨[], .inr (.inl ⟨a, cap, rfl, rfl⟩), by simp, by simp⟩
    · have hk0 := (key 0 (by omega)).1
      have hs := spot_none hk0
      obtain ⟨g, off, s⟩ := a
      have hs' : s = none := by simpa [Addr.add] using hs
      subst hs'
      have hadd : ∀ k, (⟨g, off, none⟩ : Addr).add k = ⟨g, off + k, none⟩ := fun k => by unfold Addr.add; split <;> simp_all
      have hlen : ((List.range len).map fun k => intAt w ⟨g, off + k, none⟩).length = len := by simp
      refine ⟨(List.range len).map fun k => intAt w ⟨g, off + k, none⟩, .inr (.inr ⟨g, off, cap, by rw [hlen], ?_, by rw [hlen]; exact hl, fun k hk => ?_⟩), fun x hx => ?_, by rw [hlen]; unfold maxLen at hm; omega⟩
      · exact World.block_lt_of_cell? w _ hk0
      · rw [hlen] at hk
        have e : ((List.range len).map fun k => intAt w ⟨g, off + k, none⟩).getD k 0 = intAt w ⟨g, off + k, none⟩ := by simp [List.getD, hk]
        rw [e, ← hadd]
        exact (key k hk).1
      · simp only [List.mem_map, List.mem_range] at hx
        obtain ⟨k, hk, rfl⟩ := hx
        rw [← hadd]; exact (key k hk).2
end Go.Proofs.Ytbbkfjbaocpknaa

/- Folding as far as it may be (no program in sight). -/
namespace Go.Proofs.Ytbbkfjbaocpknaa
open Go.RowKit
namespace Nl

/-! Sums over nodes. -/
def gsum (f : Int → Int → Int) : List (Int × Int) → Int
  | [] => 0
  | x :: r => f x.1 x.2 + gsum f r
theorem gsum_append (f : Int → Int → Int) (xs ys : List (Int × Int)) : gsum f (xs ++ ys) = gsum f xs + gsum f ys := by
  induction xs with
  | nil => simp [gsum]
  | cons x r ih => simp only [List.cons_append, gsum, ih]; omega
theorem gsum_one {f : Int → Int → Int} (hf : ∀ i, f i 0 = 0) (id v : Int) (hv : 0 ≤ v) : gsum f (if 0 < v then [(id, v)] else []) = f id v := by
  by_cases h : 0 < v
  · rw [if_pos h]; simp [gsum]
  · rw [if_neg h, show v = 0 by omega, hf]; rfl
theorem gsum_take {f : Int → Int → Int} (hf : ∀ i, f i 0 = 0) {zs : List (Int × Int)} (h : Strict zs) (id : Int) : gsum f (stTake zs id).1 + f id (findL id zs) = gsum f zs := by
  obtain ⟨P, Q, e1, e2, e3, e4⟩ := strict_split h id
  have ef : (stTake zs id).1 = zs.filter (fun x => x.1 ≠ id) := rfl
  generalize findL id zs = v at *
  rw [ef, e1, filter_ids e2 e3, gsum_append, gsum_append, gsum_append, gsum_one hf id v e4]
  omega
theorem gsum_addS {f : Int → Int → Int} (hf : ∀ i, f i 0 = 0) {zs : List (Int × Int)} (h : Strict zs) {id c : Int} (hc : 0 ≤ c) : gsum f (addS zs id c) + f id (findL id zs) = gsum f zs + f id (findL id zs + c) := by
  obtain ⟨P, Q, e1, e2, e3, e4⟩ := strict_split h id
  generalize findL id zs = v at *
  subst e1
  rw [addS_parts e2 e3 e4 hc, gsum_append, gsum_append, gsum_append, gsum_append, gsum_one hf id v e4, gsum_one hf id (v + c) (by omega)]
  omega
theorem gsum_sum (zs : List (Int × Int)) : gsum (fun _ c => c) zs = sumL zs := by
  induction zs with
  | nil => rfl
  | cons x r ih => simp only [gsum, sumL, ih]
theorem gsum_le {f g : Int → Int → Int} {zs : List (Int × Int)} (h : ∀ x ∈ zs, f x.1 x.2 ≤ g x.1 x.2) : gsum f zs ≤ gsum g zs := by
  induction zs with
  | nil => simp [gsum]
  | cons x r ih =>
    have h1 := h x (List.mem_cons_self ..)
    have h2 := ih (fun y hy => h y (List.mem_cons_of_mem _ hy))
    simp only [gsum]; omega
theorem gsum_const (k : Int) (zs : List (Int × Int)) : gsum (fun _ _ => k) zs = k * zs.length := by
  induction zs with
  | nil => simp [gsum]
  | cons x r ih => simp only [gsum, ih, List.length_cons]; rw [Int.natCast_add, Int.mul_add]; simp; omega
theorem gsum_zero {f : Int → Int → Int} {zs : List (Int × Int)} (h : ∀ x ∈ zs, 0 ≤ f x.1 x.2) : 0 ≤ gsum f zs := by
  induction zs with
  | nil => simp [gsum]
  | cons x r ih =>
    have h1 := h x (List.mem_cons_self ..)
    have h2 := ih (fun y hy => h y (List.mem_cons_of_mem _ hy))
    simp only [gsum]; omega
theorem kids_right {l p : Int} (hk : kidsB l p = true) : rightB l p = true := by
  simp only [kidsB, Bool.and_eq_true] at hk; exact hk.1
/-- What a fold does to any sum. -/
theorem gsum_fold {f : Int → Int → Int} (hf : ∀ i, f i 0 = 0) {l : Int} {zs : List (Int × Int)} (r : Roll l zs) {p : Int} (hk : kidsB l p = true) :
    gsum f (foldDo l zs p).1 + f (2 * p) (findL (2 * p) zs) + f (2 * p + 1) (findL (2 * p + 1) zs) + f p (findL p zs) = gsum f zs + f p (allV l zs p) := by
  unfold allV foldDo
  rw [hk]
  simp only [if_true]
  obtain ⟨k1, k2⟩ := kids_bound hk
  have r1 := r.take (2 * p)
  have r2 := r1.take (2 * p + 1)
  have s1 := gsum_take hf r.strict (2 * p)
  have s2 := gsum_take hf r1.strict (2 * p + 1)
  have t1 : (stTake zs (2 * p)).2 = findL (2 * p) zs := rfl
  have t2 : (stTake (stTake zs (2 * p)).1 (2 * p + 1)).2 = findL (2 * p + 1) (stTake zs (2 * p)).1 := rfl
  have t3 : findL (2 * p + 1) (stTake zs (2 * p)).1 = findL (2 * p + 1) zs := findL_filter (by omega)
  have g0 : findL p (stTake (stTake zs (2 * p)).1 (2 * p + 1)).1 = findL p zs := (findL_filter (by omega)).trans (findL_filter (by omega))
  have f1 := r.find (2 * p)
  have f2 := r1.find (2 * p + 1)
  obtain ⟨q1, _⟩ := take_facts r.strict (2 * p)
  obtain ⟨q2, _⟩ := take_facts r1.strict (2 * p + 1)
  have hs := r.most
  rw [t1, t2, stAdd_ok r2 (kids_right hk) (by omega) (by omega)]
  dsimp only
  have s3 := gsum_addS hf r2.strict (id := p) (c := findL (2 * p) zs + findL (2 * p + 1) (stTake zs (2 * p)).1) (by omega)
  rw [g0, t3] at s3
  rw [t3] at s2 ⊢
  rw [show findL p zs + (findL (2 * p) zs + findL (2 * p + 1) zs) = findL (2 * p) zs + findL (2 * p + 1) zs + findL p zs by omega] at s3
  omega
theorem find_mem {zs : List (Int × Int)} (h : Strict zs) {id : Int} (hv : 0 < findL id zs) : (id, findL id zs) ∈ zs := by
  obtain ⟨P, Q, e1, _, _, _⟩ := strict_split h id
  generalize findL id zs = v at *
  subst e1
  rw [if_pos hv]
  simp
/-- Another node's weight. -/
theorem fold_other {l : Int} {zs : List (Int × Int)} (r : Roll l zs) {p : Int} (hk : kidsB l p = true) {q : Int} (h1 : q ≠ 2 * p) (h2 : q ≠ 2 * p + 1) (h3 : q ≠ p) : findL q (foldDo l zs p).1 = findL q zs := by
  unfold foldDo
  rw [hk]
  simp only [if_true]
  obtain ⟨k1, k2⟩ := kids_bound hk
  have r1 := r.take (2 * p)
  have r2 := r1.take (2 * p + 1)
  have t1 : (stTake zs (2 * p)).2 = findL (2 * p) zs := rfl
  have t2 : (stTake (stTake zs (2 * p)).1 (2 * p + 1)).2 = findL (2 * p + 1) (stTake zs (2 * p)).1 := rfl
  have g0 : findL q (stTake (stTake zs (2 * p)).1 (2 * p + 1)).1 = findL q zs := (findL_filter h2).trans (findL_filter h1)
  have f1 := r.find (2 * p)
  have f2 := r1.find (2 * p + 1)
  obtain ⟨q1, _⟩ := take_facts r.strict (2 * p)
  obtain ⟨q2, _⟩ := take_facts r1.strict (2 * p + 1)
  have hs := r.most
  rw [t1, t2, stAdd_ok r2 (kids_right hk) (by omega) (by omega)]
  dsimp only
  have hc0 : 0 ≤ findL (2 * p) zs + findL (2 * p + 1) (stTake zs (2 * p)).1 := by omega
  generalize findL (2 * p) zs + findL (2 * p + 1) (stTake zs (2 * p)).1 = c at *
  rw [← g0]
  generalize (stTake (stTake zs (2 * p)).1 (2 * p + 1)).1 = ys at *
  obtain ⟨a1, a2⟩ := addS_spec r2.strict (id := p) (c := c) (by omega) (by omega)
  obtain ⟨_, _, _, _, _, e4⟩ := strict_split r2.strict q
  obtain ⟨_, _, _, _, _, e5⟩ := strict_split a1 q
  by_cases hv : 0 < findL q ys
  · exact strict_at a1 ((a2 q _).2 (.inl ⟨h3, find_mem r2.strict hv⟩))
  · by_cases hw : 0 < findL q (addS ys p c)
    · rcases (a2 q _).1 (find_mem a1 hw) with ⟨_, h⟩ | ⟨h, _⟩
      · have := strict_at r2.strict h; omega
      · exact absurd h h3
    · omega
end Nl
end Go.Proofs.Ytbbkfjbaocpknaa

/- Folding as far as it may be: the first that is ready, one by one, and by an agenda (no program in sight). -/
namespace Go.Proofs.Ytbbkfjbaocpknaa
open Go.RowKit
namespace Nl

/-- The parents of nodes, in the order of folding. -/
def parentsL (zs : List (Int × Int)) : List Int := zs.foldl (fun a x => if 1 < x.1 then withL a (x.1 / 2) else a) []
theorem parents_aux (zs : List (Int × Int)) : ∀ a : List Int, Ord a → Ord (zs.foldl (fun a x => if 1 < x.1 then withL a (x.1 / 2) else a) a) ∧ ∀ p, p ∈ zs.foldl (fun a x => if 1 < x.1 then withL a (x.1 / 2) else a) a ↔ p ∈ a ∨ ∃ x ∈ zs, 1 < x.1 ∧ x.1 / 2 = p := by
  induction zs with
  | nil => intro a o; simp [o]
  | cons x r ih =>
    intro a o
    rw [List.foldl_cons]
    by_cases h : 1 < x.1
    · rw [if_pos h]
      obtain ⟨i1, i2⟩ := ih _ (withL_ord o (x.1 / 2))
      refine ⟨i1, fun p => ?_⟩
      rw [i2, withL_mem o]
      constructor
      · rintro ((e | e) | ⟨y, hy, e⟩)
        · exact .inr ⟨x, List.mem_cons_self .., h, e.symm⟩
        · exact .inl e
        · exact .inr ⟨y, List.mem_cons_of_mem _ hy, e⟩
      · rintro (e | ⟨y, hy, e1, e2⟩)
        · exact .inl (.inr e)
        · rcases List.mem_cons.1 hy with rfl | hy
          · exact .inl (.inl e2.symm)
          · exact .inr ⟨y, hy, e1, e2⟩
    · rw [if_neg h]
      obtain ⟨i1, i2⟩ := ih _ o
      refine ⟨i1, fun p => ?_⟩
      rw [i2]
      constructor
      · rintro (e | ⟨y, hy, e⟩)
        · exact .inl e
        · exact .inr ⟨y, List.mem_cons_of_mem _ hy, e⟩
      · rintro (e | ⟨y, hy, e1, e2⟩)
        · exact .inl e
        · rcases List.mem_cons.1 hy with rfl | hy
          · exact absurd e1 h
          · exact .inr ⟨y, hy, e1, e2⟩
theorem parents_ord (zs : List (Int × Int)) : Ord (parentsL zs) := (parents_aux zs [] List.Pairwise.nil).1
theorem parents_mem {zs : List (Int × Int)} {p : Int} : p ∈ parentsL zs ↔ ∃ x ∈ zs, 1 < x.1 ∧ x.1 / 2 = p := by
  unfold parentsL
  rw [(parents_aux zs [] List.Pairwise.nil).2]; simp
theorem parents_snoc (zs : List (Int × Int)) (x : Int × Int) : parentsL (zs ++ [x]) = if 1 < x.1 then withL (parentsL zs) (x.1 / 2) else parentsL zs := by
  unfold parentsL; rw [List.foldl_append]; rfl
theorem parents_len (zs : List (Int × Int)) : (parentsL zs).length ≤ zs.length := by
  have aux : ∀ (zs : List (Int × Int)) (a : List Int), Ord a → (zs.foldl (fun a x => if 1 < x.1 then withL a (x.1 / 2) else a) a).length ≤ a.length + zs.length := by
    intro zs
    induction zs with
    | nil => intro a _; simp
    | cons x r ih =>
      intro a o
      rw [List.foldl_cons]
      by_cases h : 1 < x.1
      · rw [if_pos h]
        have h1 := ih _ (withL_ord o (x.1 / 2))
        rw [withL_length o] at h1
        simp only [List.length_cons]
        split at h1 <;> omega
      · rw [if_neg h]
        have h1 := ih _ o
        simp only [List.length_cons]; omega
  have := aux zs [] List.Pairwise.nil
  simpa [parentsL] using this

/-- The first parent that is ready. -/
def firstR (l : Int) (zs : List (Int × Int)) (most : Int) : Option Int := (parentsL zs).find? (fun p => readyB l zs p most)
theorem ready_kids {l : Int} {zs : List (Int × Int)} {p most : Int} (h : readyB l zs p most = true) : kidsB l p = true := by
  unfold readyB pairV at h
  cases hk : kidsB l p
  · rw [hk] at h; simp at h
  · rfl
theorem ready_pair {l : Int} {zs : List (Int × Int)} {p most : Int} (h : readyB l zs p most = true) : 0 < findL (2 * p) zs + findL (2 * p + 1) zs ∧ allV l zs p ≤ most ∧ allV l zs p = findL (2 * p) zs + findL (2 * p + 1) zs + findL p zs := by
  have hk := ready_kids h
  unfold readyB pairV at h
  rw [hk] at h
  simp only [if_true, decide_eq_true_eq] at h
  refine ⟨h.1, h.2, ?_⟩
  unfold allV; rw [hk]; rfl
theorem ready_mem {l : Int} {zs : List (Int × Int)} (r : Roll l zs) {p most : Int} (h : readyB l zs p most = true) : p ∈ parentsL zs := by
  obtain ⟨h1, _, _⟩ := ready_pair h
  obtain ⟨k1, k2⟩ := kids_bound (ready_kids h)
  have f1 := r.find (2 * p)
  have f2 := r.find (2 * p + 1)
  rw [parents_mem]
  by_cases hv : 0 < findL (2 * p) zs
  · exact ⟨_, find_mem r.strict hv, by simp; omega, by simp⟩
  · exact ⟨_, find_mem r.strict (id := 2 * p + 1) (by omega), by simp; omega, by simp; omega⟩
theorem find_ord {l : List Int} (o : Ord l) {f : Int → Bool} {p : Int} (hp : p ∈ l) (hf : f p = true) (hm : ∀ q ∈ l, f q = true → aheadB q p = false) : l.find? f = some p := by
  induction l with
  | nil => cases hp
  | cons x r ih =>
    rw [List.find?_cons]
    obtain ⟨o1, o2⟩ := List.pairwise_cons.1 o
    cases hx : f x
    · rcases List.mem_cons.1 hp with rfl | hp
      · rw [hf] at hx; cases hx
      · exact ih o2 hp (fun q hq => hm q (List.mem_cons_of_mem _ hq))
    · rcases List.mem_cons.1 hp with rfl | hp
      · rfl
      · have h1 := hm x (List.mem_cons_self ..) hx
        rw [o1 p hp] at h1; cases h1
theorem first_some {l : Int} {zs : List (Int × Int)} {most p : Int} (h : firstR l zs most = some p) : p ∈ parentsL zs ∧ readyB l zs p most = true :=
  ⟨List.mem_of_find?_eq_some h, by have := List.find?_some (p := fun p => readyB l zs p most) h; exact this⟩
theorem first_none {l : Int} {zs : List (Int × Int)} {most : Int} (r : Roll l zs) : firstR l zs most = none ↔ ∀ p, readyB l zs p most = false := by
  unfold firstR
  rw [List.find?_eq_none]
  constructor
  · intro h p
    cases hp : readyB l zs p most
    · rfl
    · exact absurd hp (h p (ready_mem r hp))
  · intro h p _
    rw [h p]; decide
theorem first_is {l : Int} {zs : List (Int × Int)} {most p : Int} (r : Roll l zs) (hp : readyB l zs p most = true) (hm : ∀ q, readyB l zs q most = true → aheadB q p = false) : firstR l zs most = some p :=
  find_ord (parents_ord zs) (ready_mem r hp) hp (fun q _ hq => hm q hq)

/-! How far down all nodes are. -/
theorem dep_kid {p : Int} (h : 1 ≤ p) : depV (2 * p) = depV p + 1 ∧ depV (2 * p + 1) = depV p + 1 := by
  obtain ⟨n, rfl⟩ := Int.eq_ofNat_of_zero_le (show 0 ≤ p by omega)
  have key : ∀ m : Nat, m / 2 = n → depV (m : Int) = depV (n : Int) + 1 := fun m hm => by
    have e := bitLen_shift m 1 (by rw [show (2 : Nat) ^ 1 = 2 from rfl]; omega)
    rw [show (2 : Nat) ^ 1 = 2 from rfl, hm] at e
    unfold depV depOk
    rw [if_pos (by simp; omega), if_pos (by simp; omega)]
    simp only [Int.toNat_natCast]
    omega
  exact ⟨by have := key (2 * n) (by omega); simpa using this, by have := key (2 * n + 1) (by omega); simpa using this⟩
def depF (i c : Int) : Int := if 0 < c then depV i else 0
def phi (zs : List (Int × Int)) : Int := gsum depF zs
theorem phi_nonneg (zs : List (Int × Int)) : 0 ≤ phi zs := gsum_zero (fun x _ => by have := dep_nn x.1; unfold depF; split <;> omega)
theorem phi_le {l : Int} {zs : List (Int × Int)} (r : Roll l zs) : phi zs ≤ l * zs.length := by
  rw [← gsum_const]
  refine gsum_le (fun x hx => ?_)
  have h1 := r.ids x hx
  have h2 := rightB_dep (l := l) (id := x.1) ⟨r.l1, r.l2⟩ (right_pos h1)
  rw [h1] at h2
  have h3 : depV x.1 ≤ l := by simpa using h2.symm
  have := r.l1
  unfold depF
  split <;> omega
theorem phi_fold {l : Int} {zs : List (Int × Int)} (r : Roll l zs) {p most : Int} (h : readyB l zs p most = true) : phi (foldDo l zs p).1 + 1 ≤ phi zs := by
  have hk := ready_kids h
  obtain ⟨h1, _, h3⟩ := ready_pair h
  obtain ⟨k1, _⟩ := kids_bound hk
  have e := gsum_fold (f := depF) (fun i => by simp [depF]) r hk
  obtain ⟨d1, d2⟩ := dep_kid k1
  have d0 := dep_nn p
  have f0 := r.find p
  have f1 := r.find (2 * p)
  have f2 := r.find (2 * p + 1)
  unfold phi
  rw [h3] at e
  generalize findL p zs = c0 at *
  generalize findL (2 * p) zs = c1 at *
  generalize findL (2 * p + 1) zs = c2 at *
  simp only [depF, d1, d2] at e ⊢
  split at e <;> split at e <;> split at e <;> split at e <;> omega

/-! The run. -/
def runF (l most : Int) : Nat → List (Int × Int) → List (Int × Int) × List Int
  | 0, zs => (zs, [])
  | f + 1, zs => match firstR l zs most with
    | none => (zs, [])
    | some p => ((runF l most f (foldDo l zs p).1).1, p :: (runF l most f (foldDo l zs p).1).2)
def runR (l most : Int) (zs : List (Int × Int)) : List (Int × Int) × List Int := runF l most (phi zs).toNat zs
theorem first_phi {l : Int} {zs : List (Int × Int)} (r : Roll l zs) {most p : Int} (h : firstR l zs most = some p) : Roll l (foldDo l zs p).1 ∧ (phi (foldDo l zs p).1).toNat < (phi zs).toNat := by
  have h1 := phi_fold r (first_some h).2
  have h2 := phi_nonneg (foldDo l zs p).1
  exact ⟨(fold_facts r p).1, by omega⟩
theorem runF_fuel (l most : Int) (f : Nat) : ∀ (g : Nat) (zs : List (Int × Int)), Roll l zs → (phi zs).toNat ≤ f → (phi zs).toNat ≤ g → runF l most f zs = runF l most g zs := by
  induction f with
  | zero =>
    intro g zs r h1 h2
    cases g with
    | zero => rfl
    | succ g =>
      cases hf : firstR l zs most with
      | none => simp only [runF, hf]
      | some p => have := first_phi r hf; omega
  | succ f ih =>
    intro g zs r h1 h2
    cases g with
    | zero =>
      cases hf : firstR l zs most with
      | none => simp only [runF, hf]
      | some p => have := first_phi r hf; omega
    | succ g =>
      cases hf : firstR l zs most with
      | none => simp only [runF, hf]
      | some p =>
        obtain ⟨r1, h3⟩ := first_phi r hf
        simp only [runF, hf]
        rw [ih g _ r1 (by omega) (by omega)]
theorem runR_none {l most : Int} {zs : List (Int × Int)} (h : firstR l zs most = none) : runR l most zs = (zs, []) := by
  unfold runR
  cases (phi zs).toNat with
  | zero => rfl
  | succ f => simp only [runF, h]
theorem runR_some {l most p : Int} {zs : List (Int × Int)} (r : Roll l zs) (h : firstR l zs most = some p) : runR l most zs = ((runR l most (foldDo l zs p).1).1, p :: (runR l most (foldDo l zs p).1).2) := by
  obtain ⟨r1, h3⟩ := first_phi r h
  obtain ⟨f, hf⟩ : ∃ f, (phi zs).toNat = f + 1 := ⟨(phi zs).toNat - 1, by omega⟩
  unfold runR
  rw [hf]
  simp only [runF, h]
  rw [runF_fuel l most f (phi (foldDo l zs p).1).toNat _ r1 (by omega) (Nat.le_refl _)]
/-- What a run keeps. -/
theorem run_keeps {l most : Int} (Q : List (Int × Int) → Prop) (hQ : ∀ zs p, Roll l zs → Q zs → readyB l zs p most = true → Q (foldDo l zs p).1) (n : Nat) : ∀ zs, Roll l zs → Q zs → (phi zs).toNat ≤ n →
    Roll l (runR l most zs).1 ∧ Q (runR l most zs).1 ∧ firstR l (runR l most zs).1 most = none ∧ ((runR l most zs).2.length : Int) + phi (runR l most zs).1 ≤ phi zs := by
  induction n with
  | zero =>
    intro zs r q h
    cases hf : firstR l zs most with
    | none => rw [runR_none hf]; exact ⟨r, q, hf, by simp⟩
    | some p => have := first_phi r hf; omega
  | succ n ih =>
    intro zs r q h
    cases hf : firstR l zs most with
    | none => rw [runR_none hf]; exact ⟨r, q, hf, by simp⟩
    | some p =>
      have hp := (first_some hf).2
      obtain ⟨r1, h3⟩ := first_phi r hf
      obtain ⟨i1, i2, i3, i4⟩ := ih _ r1 (hQ zs p r q hp) (by omega)
      have h5 := phi_fold r hp
      rw [runR_some r hf]
      refine ⟨i1, i2, i3, ?_⟩
      simp only [List.length_cons]
      omega
theorem run_facts {l most : Int} {zs : List (Int × Int)} (r : Roll l zs) :
    Roll l (runR l most zs).1 ∧ sumL (runR l most zs).1 = sumL zs ∧ (runR l most zs).1.length ≤ zs.length ∧ firstR l (runR l most zs).1 most = none ∧ ((runR l most zs).2.length : Int) ≤ l * zs.length := by
  obtain ⟨h1, ⟨h2, h3⟩, h4, h5⟩ := run_keeps (most := most) (fun ys => sumL ys = sumL zs ∧ ys.length ≤ zs.length) (fun ys p r' q hp => by
    obtain ⟨_, f2, f3, _⟩ := fold_facts r' p
    exact ⟨f2.trans q.1, Nat.le_trans f3 q.2⟩) _ zs r ⟨rfl, Nat.le_refl _⟩ (Nat.le_refl _)
  have h6 := phi_nonneg (runR l most zs).1
  have h7 := phi_le r
  exact ⟨h1, h2, h3, h4, by omega⟩

/-! By an agenda. -/
/-- Readiness changes near what is folded alone. -/
theorem ready_near {l : Int} {zs : List (Int × Int)} (r : Roll l zs) {p q most : Int} (hk : kidsB l p = true) (h : readyB l (foldDo l zs p).1 q most = true) : readyB l zs q most = true ∧ q ≠ p ∨ q = 2 * p ∨ q = 2 * p + 1 ∨ q = p / 2 := by
  have hqp : q ≠ p := fun e => by rw [e, fold_ready r] at h; cases h
  by_cases h1 : q = 2 * p
  · exact .inr (.inl h1)
  by_cases h2 : q = 2 * p + 1
  · exact .inr (.inr (.inl h2))
  by_cases h3 : q = p / 2
  · exact .inr (.inr (.inr h3))
  left
  refine ⟨?_, hqp⟩
  have hq := ready_kids h
  have e1 := fold_other r hk (q := q) h1 h2 hqp
  have e2 := fold_other r hk (q := 2 * q) (by omega) (by omega) (by omega)
  have e3 := fold_other r hk (q := 2 * q + 1) (by omega) (by omega) (by omega)
  unfold readyB pairV allV at h ⊢
  rw [hq] at h ⊢
  simp only [if_true, e1, e2, e3] at h ⊢
  exact h
/-- What stands between two rounds: whatever is ready waits. -/
def AgInv (l most : Int) (zs0 zs : List (Int × Int)) (ag done : List Int) : Prop :=
  Roll l zs ∧ Ord ag ∧ (∀ q ∈ ag, 1 ≤ q) ∧ (∀ q, readyB l zs q most = true → q ∈ ag) ∧ runR l most zs0 = ((runR l most zs).1, done ++ (runR l most zs).2)
theorem AgInv.start {l most : Int} {zs : List (Int × Int)} (r : Roll l zs) : AgInv l most zs zs (parentsL zs) [] :=
  ⟨r, parents_ord zs, fun q hq => by obtain ⟨x, _, h1, h2⟩ := parents_mem.1 hq; omega, fun _ h => ready_mem r h, by simp⟩
theorem AgInv.skip {l most p : Int} {zs0 zs : List (Int × Int)} {t done : List Int} (h : AgInv l most zs0 zs (p :: t) done) (hp : readyB l zs p most = false) : AgInv l most zs0 zs t done := by
  obtain ⟨h1, h2, h3, h4, h5⟩ := h
  refine ⟨h1, h2.tail, fun q hq => h3 q (List.mem_cons_of_mem _ hq), fun q hq => ?_, h5⟩
  rcases List.mem_cons.1 (h4 q hq) with rfl | h
  · rw [hp] at hq; cases hq
  · exact h
theorem AgInv.fold {l most p : Int} {zs0 zs : List (Int × Int)} {t done : List Int} (h : AgInv l most zs0 zs (p :: t) done) (hp : readyB l zs p most = true) :
    AgInv l most zs0 (foldDo l zs p).1 (putL (putL (putL t (2 * p)) (2 * p + 1)) (p / 2)) (done ++ [p]) := by
  obtain ⟨h1, h2, h3, h4, h5⟩ := h
  have hf : firstR l zs most = some p := first_is h1 hp (fun q hq => by
    rcases List.mem_cons.1 (h4 q hq) with rfl | h
    · exact ahead_irrefl _
    · exact ahead_asymm ((List.pairwise_cons.1 h2).1 q h))
  have o0 := h2.tail
  have o1 := putL_ord o0 (2 * p)
  have o2 := putL_ord o1 (2 * p + 1)
  refine ⟨(fold_facts h1 p).1, putL_ord o2 _, fun q hq => ?_, fun q hq => ?_, ?_⟩
  · rw [putL_mem o2, putL_mem o1, putL_mem o0] at hq
    rcases hq with ⟨rfl, h⟩ | ⟨rfl, h⟩ | ⟨rfl, h⟩ | h
    · exact h
    · exact h
    · exact h
    · exact h3 q (List.mem_cons_of_mem _ h)
  · have hq1 := (kids_bound (ready_kids hq)).1
    rw [putL_mem o2, putL_mem o1, putL_mem o0]
    rcases ready_near h1 (ready_kids hp) hq with ⟨h, hne⟩ | h | h | h
    · rcases List.mem_cons.1 (h4 q h) with e | h
      · exact absurd e hne
      · exact .inr (.inr (.inr h))
    · exact .inr (.inr (.inl ⟨h, by omega⟩))
    · exact .inr (.inl ⟨h, by omega⟩)
    · exact .inl ⟨h, by omega⟩
  · rw [h5, runR_some h1 hf]; simp
theorem AgInv.done {l most : Int} {zs0 zs : List (Int × Int)} {done : List Int} (h : AgInv l most zs0 zs [] done) : runR l most zs0 = (zs, done) := by
  obtain ⟨h1, h2, h3, h4, h5⟩ := h
  rw [h5, runR_none ((first_none h1).2 (fun q => by
    cases hq : readyB l zs q most
    · rfl
    · exact absurd (h4 q hq) (by simp)))]
  simp
end Nl
end Go.Proofs.Ytbbkfjbaocpknaa
