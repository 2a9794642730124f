/- The walks of the reference's With, Agenda; of fold.New. -/
import Derived.Test.YtejoecoenehooaaAg4
import Derived.Test.YtejoecoenehooaaNi2
import Derived.Test.YtejoecoenehooaaNdRef2
namespace Go.Proofs.Ytejoecoenehooaa
open Go.RowKit Go.Maps Nl

namespace Nl
theorem while_split {α : Type} {p : α → Bool} (xs : List α) (d : α) : ∀ k, k ≤ xs.length → (∀ j, j < k → p (xs.getD j d) = true) → (k < xs.length → p (xs.getD k d) = false) → xs.takeWhile p = xs.take k ∧ xs.dropWhile p = xs.drop k := by
  induction xs with
  | nil => intro k hk _ _; simp at hk; subst hk; simp
  | cons x r ih =>
    intro k hk h1 h2
    cases k with
    | zero =>
      have := h2 (by simp)
      simp only [List.getD_cons_zero] at this
      simp [this]
    | succ k =>
      have h0 := h1 0 (by omega)
      simp only [List.getD_cons_zero] at h0
      obtain ⟨i1, i2⟩ := ih k (by simpa using hk) (fun j hj => by have := h1 (j + 1) (by omega); simpa using this) (fun hj => by have := h2 (by simpa using hj); simpa using this)
      rw [List.takeWhile_cons, List.dropWhile_cons, if_pos h0, if_pos h0, i1, i2]
      simp
theorem withL_at {xs : List Int} {id : Int} {k : Nat} (hk : k ≤ xs.length) (h1 : ∀ j, j < k → aheadB (xs.getD j 0) id = true) (h2 : k < xs.length → aheadB (xs.getD k 0) id = false) :
    withL xs id = if k < xs.length ∧ xs.getD k 0 = id then xs else xs.take k ++ id :: xs.drop k := by
  obtain ⟨e1, e2⟩ := while_split (p := fun x => aheadB x id) xs 0 k hk h1 h2
  unfold withL
  rw [e1, e2]
  by_cases h : k < xs.length
  · have e3 : (xs.drop k).head? = some (xs.getD k 0) := by rw [List.head?_drop]; simp [List.getD, List.getElem?_eq_getElem h]
    rw [e3]
    simp [h]
  · have e3 : (xs.drop k).head? = none := by rw [List.drop_eq_nil_of_le (by omega)]; rfl
    rw [e3, if_neg (by simp), if_neg (by omega)]
end Nl

theorem RdI.grownB {w w0 w' : World} {v : Value} {xs : List Int} {row : Option Nat} (h : RdI w0 v xs) (hv : xs = [] ∨ ∀ g, v.ownBlock = some g → g < w.heap.size) (hg : w0.grownBy w' row) (hr : ∀ k, row = some k → w.heap.size ≤ k) : RdI w' v xs := by
  rcases hv with rfl | hv
  · exact h.any
  · exact h.grown hg (fun g hgb => ne_row hr (hv g hgb))
/-- Where a list's slice lies: the same one, or a new one. -/
def WithPost (v : Value) (ys : List Int) (w : World) (e : Ending) (w' : World) : Prop :=
  ∃ v', e = .returned v' ∧ RdI w' v' ys ∧ (v' = v ∨ ∀ k, v'.ownBlock = some k → w.heap.size ≤ k) ∧ Below w.heap.size w w'
def WithRel (xs : List Int) (id : Int) (i : Value) : Prop := ∃ k : Nat, i = .int .i64 k ∧ k ≤ xs.length ∧ Hid (∀ j, j < k → aheadB (xs.getD j 0) id = true)

set_option maxRecDepth 100000 in
set_option maxHeartbeats 2000000 in
theorem r_with {v : Value} {xs : List Int} (id : Int) (w : World) (hr : RdI w v xs) (hl : xs.length < 1000000) (hx : ∀ x ∈ xs, In64 x) (bi : In64 id) :
    Calls Try.prog 16 #[v, .int .i64 id] w (WithPost v (withL xs id) w) := by
  obtain ⟨p, cap, rfl⟩ := hr.val
  obtain ⟨N, eN⟩ : ∃ N, xs.length = N := ⟨_, rfl⟩
  rw [eN] at hr ⊢
  have EN := hid eN
  have HX := hid hx
  have hN : N < 1000000 := by omega
  clear eN hl hx
  go_enter Try.func16, Try.ntmps16
  go_wp2_with fail
  go_loop [5] (fun i => WithRel xs id i) (fun i => N - (intOf i).toNat)
  case atStart => exact ⟨0, rfl, Nat.zero_le _, fun j hj => by omega⟩
  case round =>
    obtain ⟨k, rfl, hk, hH⟩ := hrel
    have hkN : k ≤ N := by rw [EN.out] at hk; exact hk
    clear hk
    by_cases hlt : k < N
    · have hkx : k < xs.length := by rw [EN.out]; exact hlt
      obtain ⟨g, off, x, rfl, ex, hg, hc⟩ := hr.at hkx
      have bx : In64 x := by rw [← ex]; exact HX.out _ (getD_mem (d := 0) xs k hkx)
      have Ah := hid (fun W : World => r_ahead x id W bx bi)
      have Ex := hid ex
      obtain ⟨A, eA⟩ : ∃ A, aheadB x id = A := ⟨_, rfl⟩
      rw [eA] at Ah
      have EA := hid eA
      clear ex eA hkx
      cases A
      · by_cases hid1 : x = id
        · have HW : Hid (withL xs id = xs) := by
            show _ = _
            rw [withL_at (k := k) (by rw [EN.out]; omega) hH.out (fun _ => by rw [Ex.out]; exact EA.out), if_pos ⟨by rw [EN.out]; exact hlt, by rw [Ex.out]; exact hid1⟩]
          have hxi : (x == id) = true := by simpa using hid1
          clear hid1
          go_wp2_with fail
          refine (Ah.out w).mono ?_
          rintro e w' ⟨rfl, rfl⟩
          go_wp2_with fail
          go_ret
          exact ⟨_, rfl, by rw [HW.out]; exact hr, .inl rfl, Below.refl _ _⟩
        · have HW : Hid (withL xs id = xs.take k ++ id :: xs.drop k) := by
            show _ = _
            rw [withL_at (k := k) (by rw [EN.out]; omega) hH.out (fun _ => by rw [Ex.out]; exact EA.out), if_neg (fun h => hid1 (by rw [← Ex.out]; exact h.2))]
          have hxi : (x == id) = false := by simpa using hid1
          obtain ⟨p', sl2, rlo, _⟩ := sliceLoI hr hkN
          obtain ⟨sl1, rhi⟩ := sliceHiI hr hkN
          have hlo := rlo.ltE
          have RLO := hid rlo
          have HLO := hid hlo
          have hl1 : (xs.take k).length ≤ k := List.length_take_le _ _
          have hl2 : (xs.drop k).length ≤ N := by rw [List.length_drop, EN.out]; omega
          generalize xs.take k = la at *
          generalize xs.drop k = lb at *
          clear hid1 rlo hlo hr
          go_wp2_with fail
          refine (Ah.out w).mono ?_
          rintro e w' ⟨rfl, rfl⟩
          go_wp2_with (first
            | (at_builtin; refine appendsI (B := w.heap.size) _ _ (OwnI.nil _ _) rhi (by simp <;> omega) (Nat.le_refl _) rfl rfl rfl rfl ?_; intro v1 w1 o1 g1
               have s1 := g1.size
               have L1 := RLO.out.grownB HLO.out g1 (fun q hq => by simp [Value.ownBlock] at hq)
               have b1 := below_grown g1 (Nat.le_refl _) (fun q hq => by simp [Value.ownBlock] at hq))
            | (at_builtin; refine appendI _ _ o1 (by simp <;> omega) s1 rfl rfl rfl rfl rfl ?_; intro g2 cap2 w2 o2 gr2 at2 lt2
               have s2 := gr2.size
               have L2 := L1.grownB HLO.out gr2 o1.lt
               have b2 := b1.trans (below_grown gr2 s1 o1.lt))
            | (at_builtin; refine appendsI _ _ o2 L2 (by simp <;> omega) (by omega) rfl rfl rfl rfl ?_; intro v3 w3 o3 g3
               have b3 := b2.trans (below_grown g3 (by omega) o2.lt)))
          go_ret
          exact ⟨_, rfl, by rw [HW.out]; simpa using o3.rd, .inr o3.lt, b3⟩
      · go_wp2_with fail
        refine (Ah.out w).mono ?_
        rintro e w' ⟨rfl, rfl⟩
        go_wp2_with fail
        go_round
        case rel =>
          refine ⟨k + 1, by go_num, by rw [EN.out]; omega, fun j hj => ?_⟩
          by_cases q : j = k
          · rw [q, Ex.out]; exact EA.out
          · exact hH.out j (by omega)
        case measure => simp [intOf]; omega
    · obtain rfl : k = N := by omega
      have HW : Hid (withL xs id = xs.take k ++ id :: xs.drop k) := by
        show _ = _
        rw [withL_at (k := k) (by rw [EN.out]; omega) hH.out (fun h => by rw [EN.out] at h; omega), if_neg (fun h => by rw [EN.out] at h; omega)]
      obtain ⟨p', sl2, rlo, _⟩ := sliceLoI hr hkN
      rw [Nat.sub_self] at rlo
      simp only [Nat.sub_self] at sl2
      obtain ⟨sl1, rhi⟩ := sliceHiI hr hkN
      have hlo := rlo.ltE
      have RLO := hid rlo
      have HLO := hid hlo
      have hl1 : (xs.take k).length ≤ k := List.length_take_le _ _
      have hl2 : (xs.drop k).length ≤ k := by rw [List.length_drop, EN.out]; omega
      generalize xs.take k = la at *
      generalize xs.drop k = lb at *
      clear rlo hlo hr
      go_wp2_with (first
        | (at_builtin; refine appendsI (B := w.heap.size) _ _ (OwnI.nil _ _) rhi (by simp <;> omega) (Nat.le_refl _) rfl rfl rfl rfl ?_; intro v1 w1 o1 g1
           have s1 := g1.size
           have L1 := RLO.out.grownB HLO.out g1 (fun q hq => by simp [Value.ownBlock] at hq)
           have b1 := below_grown g1 (Nat.le_refl _) (fun q hq => by simp [Value.ownBlock] at hq))
        | (at_builtin; refine appendI _ _ o1 (by simp <;> omega) s1 rfl rfl rfl rfl rfl ?_; intro g2 cap2 w2 o2 gr2 at2 lt2
           have s2 := gr2.size
           have L2 := L1.grownB HLO.out gr2 o1.lt
           have b2 := b1.trans (below_grown gr2 s1 o1.lt))
        | (at_builtin; refine appendsI _ _ o2 L2 (by simp <;> omega) (by omega) rfl rfl rfl rfl ?_; intro v3 w3 o3 g3
           have b3 := b2.trans (below_grown g3 (by omega) o2.lt)))
      go_ret
      exact ⟨_, rfl, by rw [HW.out]; simpa using o3.rd, .inr o3.lt, b3⟩

namespace Nl
/-- Put one behind the other. -/
def agendaL (ids : List Int) : List Int := ids.foldl putL []
theorem agendaL_snoc (ids : List Int) (x : Int) : agendaL (ids ++ [x]) = putL (agendaL ids) x := by simp [agendaL]
theorem agenda_aux (ids : List Int) : ∀ a : List Int, Ord a → (∀ x ∈ a, 1 ≤ x ∧ In64 x) → (∀ x ∈ ids, In64 x) → Ord (ids.foldl putL a) ∧ (∀ x ∈ ids.foldl putL a, 1 ≤ x ∧ In64 x) ∧ (ids.foldl putL a).length ≤ a.length + ids.length := by
  induction ids with
  | nil => intro a o h _; exact ⟨o, h, by simp⟩
  | cons y r ih =>
    intro a o h hi
    rw [List.foldl_cons]
    obtain ⟨i1, i2, i3⟩ := ih (putL a y) (putL_ord o y) (fun x hx => by
      rcases (putL_mem o).1 hx with ⟨rfl, h1⟩ | h1
      · exact ⟨h1, hi x (List.mem_cons_self ..)⟩
      · exact h x h1) (fun x hx => hi x (List.mem_cons_of_mem _ hx))
    have := putL_len o y
    exact ⟨i1, i2, by simp only [List.length_cons]; omega⟩
theorem agendaL_ok {ids : List Int} (h : ∀ x ∈ ids, In64 x) : Ord (agendaL ids) ∧ (∀ x ∈ agendaL ids, 1 ≤ x ∧ In64 x) ∧ (agendaL ids).length ≤ ids.length := by
  obtain ⟨a1, a2, a3⟩ := agenda_aux ids [] List.Pairwise.nil (by simp) h
  exact ⟨a1, a2, by simpa [agendaL] using a3⟩
theorem withL_last {l : List Int} {id : Int} (h : ∀ y ∈ l, aheadB y id = true) : withL l id = l ++ [id] := by
  rw [withL_at (k := l.length) (Nat.le_refl _) (fun j hj => h _ (getD_mem (d := 0) l j hj)) (fun h => by omega), if_neg (by omega)]
  simp
theorem agendaL_self {l : List Int} (o : Ord l) (h : ∀ x ∈ l, 1 ≤ x) : agendaL l = l := by
  have aux : ∀ (r d : List Int), Ord (d ++ r) → (∀ x ∈ r, 1 ≤ x) → r.foldl putL d = d ++ r := by
    intro r
    induction r with
    | nil => intro d _ _; simp
    | cons x r ih =>
      intro d o h
      rw [List.foldl_cons]
      obtain ⟨_, _, o3⟩ := List.pairwise_append.1 o
      have e : putL d x = d ++ [x] := by
        unfold putL; rw [if_pos (h x (List.mem_cons_self ..)), withL_last (fun y hy => o3 y hy x (List.mem_cons_self ..))]
      rw [e, ih (d ++ [x]) (by simpa using o) (fun y hy => h y (List.mem_cons_of_mem _ hy))]
      simp
  have := aux l [] (by simpa using o) h
  simpa [agendaL] using this
end Nl

/-- A list that lies from B on. -/
def RdIB (w : World) (B : Nat) (v : Value) (xs : List Int) : Prop := RdI w v xs ∧ ∀ k, v.ownBlock = some k → B ≤ k
theorem RdIB.nil (w : World) (B : Nat) : RdIB w B (.slice none 0 0) [] := ⟨RdI.nil w, none_lt⟩
theorem RdIB.below {w w' : World} {B B' : Nat} {v : Value} {xs : List Int} (h : RdIB w B v xs) (hb : Below B' w w') (hB : w.heap.size ≤ B') : RdIB w' B v xs := ⟨h.1.below hb hB, h.2⟩
def RAgRel (ids : List Int) (w : World) (out i : Value) (wr : World) : Prop := ∃ k : Nat, i = .int .i64 k ∧ k ≤ ids.length ∧ RdIB wr w.heap.size out (agendaL (ids.take k)) ∧ Below w.heap.size w wr
def IsInts (xs : List Int) (w : World) (e : Ending) (w' : World) : Prop := ∃ v, e = .returned v ∧ RdIB w' w.heap.size v xs ∧ Below w.heap.size w w'

set_option maxRecDepth 100000 in
set_option maxHeartbeats 2000000 in
theorem r_agenda {v : Value} {ids : List Int} (w : World) (hr : RdI w v ids) (hl : ids.length < 100000) (hx : ∀ x ∈ ids, In64 x) :
    Calls Try.prog 15 #[v] w (IsInts (agendaL ids) w) := by
  obtain ⟨p, cap, rfl⟩ := hr.val
  obtain ⟨N, eN⟩ : ∃ N, ids.length = N := ⟨_, rfl⟩
  rw [eN] at hr ⊢
  have EN := hid eN
  have HX := hid hx
  have hN : N < 100000 := by omega
  clear eN hl hx
  go_enter Try.func15, Try.ntmps15
  go_wp2_with fail
  go_loopw [3, 4] (fun o i wr => RAgRel ids w o i wr) (fun _ i _ => N - (intOf i).toNat)
  case atStart => exact ⟨0, rfl, Nat.zero_le _, RdIB.nil _ _, Below.refl _ _⟩
  case round =>
    obtain ⟨k, rfl, hk, hO, hB⟩ := hrel
    have hkN : k ≤ N := by rw [EN.out] at hk; exact hk
    clear hk
    by_cases hlt : k < N
    · have hkx : k < ids.length := by rw [EN.out]; exact hlt
      have hrw := hr.below hB (Nat.le_refl _)
      obtain ⟨g, off, x, rfl, ex, hg, hc⟩ := hrw.at hkx
      have bx : In64 x := by rw [← ex]; exact HX.out _ (getD_mem (d := 0) ids k hkx)
      have Ets : Hid (agendaL (ids.take (k + 1)) = putL (agendaL (ids.take k)) x) := by
        show _ = _
        rw [take_at (d := 0) ids k hkx, ex, agendaL_snoc]
      have hok := agendaL_ok (ids := ids.take k) (fun y hy => HX.out y (List.mem_of_mem_take hy))
      have hlk : (ids.take k).length ≤ k := List.length_take_le _ _
      have RW := hid hrw
      generalize agendaL (ids.take k) = zs at *
      obtain ⟨o1, o2, o3⟩ := hok
      by_cases h1 : 1 ≤ x
      · have Wt := hid (r_with x wr hO.1 (by omega) (fun y hy => (o2 y hy).2) bx)
        have ep : Hid (putL zs x = withL zs x) := by show _ = _; unfold putL; rw [if_pos h1]
        clear o1 o2 ex hkx
        go_wp2_with fail
        refine Wt.out.mono ?_
        rintro e w2 ⟨v2, rfl, hr2, hv2, hb2⟩
        have hs := hB.size
        go_wp2_with fail
        go_roundw
        case rel =>
          have hq2 : ∀ q, v2.ownBlock = some q → w.heap.size ≤ q := fun q hq => by
            rcases hv2 with rfl | hv2
            · exact hO.2 q hq
            · have := hv2 q hq; omega
          exact ⟨k + 1, by go_num, by rw [EN.out]; omega, by rw [Ets.out, ep.out]; exact ⟨hr2, hq2⟩, hB.trans (hb2.mono hs)⟩
        case measure => simp [intOf]; omega
      · have ep : Hid (putL zs x = zs) := by show _ = _; unfold putL; rw [if_neg h1]
        clear o1 o2 ex hkx
        go_wp2_with fail
        go_roundw
        case rel => exact ⟨k + 1, by go_num, by rw [EN.out]; omega, by rw [Ets.out, ep.out]; exact hO, hB⟩
        case measure => simp [intOf]; omega
    · obtain rfl : k = N := by omega
      have Et : Hid (ids.take k = ids) := by show _ = _; rw [← EN.out, List.take_length]
      go_wp2_with fail
      go_ret
      exact ⟨_, rfl, by rw [← Et.out]; exact hO, hB⟩

def NewAg (l : List Int) (w : World) (e : Ending) (w' : World) : Prop :=
  ∃ a b v, e = .returned (.pointer (some ⟨a, 0, none⟩)) ∧ AgL w' a b v l ∧ w.heap.size ≤ a ∧ w.heap.size ≤ b ∧ (∀ k, v.ownBlock = some k → w.heap.size ≤ k) ∧ Below w.heap.size w w'
def NewRel (ids : List Int) (w : World) (a b : Nat) (i : Value) (wr : World) : Prop :=
  ∃ (k : Nat) (v : Value), i = .int .i64 k ∧ k ≤ ids.length ∧ AgL wr a b v (agendaL (ids.take k)) ∧ (∀ k, v.ownBlock = some k → w.heap.size ≤ k) ∧ Below w.heap.size w wr
set_option maxRecDepth 100000 in
set_option maxHeartbeats 2000000 in
theorem f_new {v : Value} {ids : List Int} (w : World) (hr : RdI w v ids) (hl : ids.length < 100000) (hx : ∀ x ∈ ids, In64 x) :
    Calls Try.prog 14 #[v] w (NewAg (agendaL ids) w) := by
  obtain ⟨p, cap, rfl⟩ := hr.val
  obtain ⟨N, eN⟩ : ∃ N, ids.length = N := ⟨_, rfl⟩
  rw [eN] at hr ⊢
  have EN := hid eN
  have HX := hid hx
  have hN : N < 100000 := by omega
  have hmm := @run_makeMap Try.prog
  have d0 : Ag ((w.alloc (.map #[] 0)).alloc (.cells #[.slice none 0 0, .map (some w.heap.size)] 106)) (w.heap.size + 1) w.heap.size (.slice none 0 0) [] := by
    have h1 := Blk.new (w.alloc (.map #[] 0)) #[.slice none 0 0, .map (some w.heap.size)] 106
    rw [World.size_alloc] at h1
    exact ⟨h1, OwnI.nil _ _, (SetM.made w).keep (Below.heap_alloc _ _ _ (by simp)), by simp [Value.ownBlock]⟩
  have hb0 : Below w.heap.size w ((w.alloc (.map #[] 0)).alloc (.cells #[.slice none 0 0, .map (some w.heap.size)] 106)) := ((Below.refl _ _).alloc (Nat.le_refl _) _).alloc (by simp) _
  have D0 := hid d0
  clear eN hl hx d0
  go_enter Try.func14, Try.ntmps14
  go_wp2_with fail
  generalize ((w.alloc (.map #[] 0)).alloc (.cells #[.slice none 0 0, .map (some w.heap.size)] 106)) = w1 at *
  go_loopw [11] (fun i wr => NewRel ids w (w.heap.size + 1) w.heap.size i wr) (fun i _ => N - (intOf i).toNat)
  case atStart => exact ⟨0, _, rfl, Nat.zero_le _, ⟨[], D0.out, HeapP.nil, .refl _, List.Pairwise.nil, by simp [agendaL]⟩, none_lt, hb0⟩
  case round =>
    obtain ⟨k, v, rfl, hk, hA, hv, hB⟩ := hrel
    have hkN : k ≤ N := by rw [EN.out] at hk; exact hk
    have HV := hid hv
    clear hk hmm hv
    by_cases hlt : k < N
    · have hkx : k < ids.length := by rw [EN.out]; exact hlt
      have hrw := hr.below hB (Nat.le_refl _)
      obtain ⟨g, off, x, rfl, ex, hg, hc⟩ := hrw.at hkx
      have bx : In64 x := by rw [← ex]; exact HX.out _ (getD_mem (d := 0) ids k hkx)
      have Ets : Hid (agendaL (ids.take (k + 1)) = putL (agendaL (ids.take k)) x) := by
        show _ = _
        rw [take_at (d := 0) ids k hkx, ex, agendaL_snoc]
      have hok := agendaL_ok (ids := ids.take k) (fun y hy => HX.out y (List.mem_of_mem_take hy))
      have hlk : (ids.take k).length ≤ k := List.length_take_le _ _
      generalize agendaL (ids.take k) = zs at *
      have P := hid (ag_put x hA bx (by omega))
      have hs := hB.size
      clear hok ex hkx hA
      go_wp2_with fail
      refine P.out.mono ?_
      rintro e w2 ⟨rfl, v2, d2, f2, t2⟩
      go_wp2_with fail
      go_roundw
      case rel =>
        refine ⟨k + 1, v2, by go_num, by rw [EN.out]; omega, by rw [Ets.out]; exact d2, fun q hq => ?_, hB.trans (t2.below (by omega) (by omega) HV.out hs)⟩
        rcases f2 with h | ⟨j, h, hj⟩
        · exact HV.out q (by rw [← h]; exact hq)
        · rw [h] at hq; cases hq; omega
      case measure => simp [intOf]; omega
    · obtain rfl : k = N := by omega
      have Et : Hid (ids.take k = ids) := by show _ = _; rw [← EN.out, List.take_length]
      go_wp2_with fail
      go_ret
      exact ⟨_, _, v, rfl, by rw [← Et.out]; exact hA, by omega, by omega, HV.out, hB⟩
end Go.Proofs.Ytejoecoenehooaa
