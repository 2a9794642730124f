/- The walks of the probe: New, L, Len, Total, Size, Slot, Get, Walk. -/
import Derived.Test.YtejoecoenehooaaProbe3
namespace Go.Proofs.Ytejoecoenehooaa
open Go.RowKit Nl

namespace Nl
/-- What holds of a probe. -/
structure Pv (l : Int) (b : Nat) (xs : List (Int × Int)) : Prop where
  l1 : 1 ≤ l
  l2 : l ≤ 48
  tab : Tab b xs
  half : 2 * occ xs ≤ xs.length
  most : sumL xs ≤ 72057594037927935
  ids : ∀ i, 0 < cntA xs i → rightB l (idA xs i) = true
def pGet (l : Int) (b : Nat) (xs : List (Int × Int)) (id : Int) : Int := if rightB l id then cntA xs (lookI xs b id) else 0
def pWalk (l : Int) (b : Nat) (xs : List (Int × Int)) (id : Int) : Int := if rightB l id then (lookD xs b id : Int) + 1 else 0
def pSlot (xs : List (Int × Int)) (i : Int) : Int × Int := if i < 0 then (0, 0) else xs.getD i.toNat (0, 0)
theorem Pv.empty {l : Int} {b : Nat} {xs : List (Int × Int)} (v : Pv l b xs) : ∃ e, e < xs.length ∧ ∀ id, stopB xs id e = true := by
  have h0 := v.tab.pos_len
  have hh := v.half
  obtain ⟨e, he, hc⟩ := has_empty (show occ xs < xs.length by omega)
  exact ⟨e, he, fun id => stopB_iff.2 (.inl hc)⟩
theorem right_pos {l id : Int} (h : rightB l id = true) : 1 ≤ id := by
  simp only [rightB, decide_eq_true_eq] at h; omega
theorem pos_of_tab {b : Nat} {xs : List (Int × Int)} (t : Tab b xs) : Pos xs := fun x hx => by
  obtain ⟨i, hi, e⟩ := List.mem_iff_getElem.1 hx
  have := t.pos i
  unfold cntA at this
  rw [show xs.getD i (0, 0) = x by simp [List.getD, List.getElem?_eq_getElem hi, e]] at this
  exact this
theorem cnt_le {b : Nat} {xs : List (Int × Int)} (t : Tab b xs) (i : Nat) : cntA xs i ≤ sumL xs := by
  by_cases h : i < xs.length
  · exact (pos_of_tab t).le_sum _ (getD_mem xs i h)
  · have : cntA xs i = 0 := by unfold cntA; simp [List.getD, List.getElem?_eq_none (show xs.length ≤ i by omega)]
    rw [this]; exact sumL_nonneg (pos_of_tab t)
theorem Pv.new {l : Int} (h1 : 1 ≤ l) (h2 : l ≤ 48) : Pv l 3 (List.replicate 8 (0, 0)) where
  l1 := h1
  l2 := h2
  tab := Tab.empty 3 (by decide)
  half := by rw [occ_zeros]; simp
  most := by rw [sum_zeros]; decide
  ids := fun i h => by rw [cnt_zeros] at h; omega
end Nl

/-- A probe that is as it should be. -/
def PnV (w : World) (g h : Nat) (l : Int) (b : Nat) (xs : List Nd) : Prop := Pn w g h l b (occ xs) (sumL xs) xs ∧ Pv l b xs
theorem PnV.tch {w w' : World} {g h g' h' : Nat} {l : Int} {b : Nat} {xs : List Nd} (d : PnV w g h l b xs) (tc : Tch g' h' w w') (e1 : g ≠ g') (e2 : g ≠ h') (e3 : h ≠ g') (e4 : h ≠ h') : PnV w' g h l b xs := ⟨d.1.tch tc e1 e2 e3 e4, d.2⟩
theorem PnV.below {w w' : World} {g h B : Nat} {l : Int} {b : Nat} {xs : List Nd} (d : PnV w g h l b xs) (bl : Below B w w') (hB : w.heap.size ≤ B) : PnV w' g h l b xs := ⟨d.1.below bl hB, d.2⟩
theorem PnV.lt {w : World} {g h : Nat} {l : Int} {b : Nat} {xs : List Nd} (d : PnV w g h l b xs) : g < w.heap.size ∧ h < w.heap.size ∧ g ≠ h := ⟨d.1.lg, d.1.lh, d.1.ne⟩

theorem ncells_made (n : Nat) : madeCells #[.int .i64 0, .int .i64 0] (n * 2) = (ncells (List.replicate n (0, 0))).toArray := by
  apply Array.ext
  · simp [madeCells, ncells_length]
  · intro i h1 h2
    have h3 : i < n * 2 := by simpa [madeCells] using h1
    have hk : i / 2 < (List.replicate n ((0 : Int), (0 : Int))).length := by simp; omega
    obtain ⟨g1, g2⟩ := ncells_get (List.replicate n (0, 0)) (i / 2) hk
    have e0 : (List.replicate n ((0 : Int), (0 : Int))).getD (i / 2) (0, 0) = (0, 0) := by simp [List.getD, show i / 2 < n by omega]
    rw [e0] at g1 g2
    have e : (ncells (List.replicate n (0, 0)))[i]? = some (.int .i64 0) := by
      rcases Nat.mod_two_eq_zero_or_one i with h | h
      · rw [show i = i / 2 * 2 by omega]; exact g1
      · rw [show i = i / 2 * 2 + 1 by omega]; exact g2
    have e2 : (ncells (List.replicate n (0, 0))).toArray[i] = .int .i64 0 := by
      have := List.getElem?_eq_some_iff.1 e
      obtain ⟨q1, q2⟩ := this
      simpa using q2
    rw [e2]
    rcases Nat.mod_two_eq_zero_or_one i with h | h <;> simp [madeCells, h]

theorem make_nodes (n : Nat) (hn : n ≤ 17592186044416) (w : World) : (Instr.makeSlice 33 (.int .i64 n) (.int .i64 n)).run Try.prog w = .ok (.slice (some ⟨w.heap.size, 0, none⟩) n n) (w.alloc (.cells (ncells (List.replicate n (0, 0))).toArray 100)) := by
  obtain ⟨i0, hi, hz0, hz1, hz2⟩ := info_parts Try.infoNode
  have h := run_make (P := Try.prog) w 33 100 i0 (.agg #[.int .i64 0, .int .i64 0]) Try.underlying33 hi hz0 .i64 .i64 n n (by omega) (by omega) (by rw [hz2]; omega) (by omega)
  rw [h, hz1]
  simp [Value.cells, ncells_made]

set_option maxRecDepth 100000 in
set_option maxHeartbeats 400000 in
theorem p_l {w : World} {g h : Nat} {l u t : Int} {b : Nat} {xs : List Nd} (d : Pn w g h l b u t xs) :
    Calls Try.prog 125 #[.pointer (some ⟨g, 0, none⟩)] w fun e w' => e = .returned (.int .i64 l) ∧ w = w' := by
  have c0 : w.cell? ⟨g, 0, none⟩ = some (.int .i64 l) := d.c0
  go_enter Try.func125, Try.ntmps125
  go_wp2
  go_ret
  exact ⟨rfl, rfl⟩
set_option maxRecDepth 100000 in
set_option maxHeartbeats 400000 in
theorem p_len {w : World} {g h : Nat} {l u t : Int} {b : Nat} {xs : List Nd} (d : Pn w g h l b u t xs) :
    Calls Try.prog 106 #[.pointer (some ⟨g, 0, none⟩)] w fun e w' => e = .returned (.int .i64 u) ∧ w = w' := by
  have c0 : w.cell? ⟨g, 2, none⟩ = some (.int .i64 u) := d.c2
  go_enter Try.func106, Try.ntmps106
  go_wp2
  go_ret
  exact ⟨rfl, rfl⟩
set_option maxRecDepth 100000 in
set_option maxHeartbeats 400000 in
theorem p_total {w : World} {g h : Nat} {l u t : Int} {b : Nat} {xs : List Nd} (d : Pn w g h l b u t xs) :
    Calls Try.prog 104 #[.pointer (some ⟨g, 0, none⟩)] w fun e w' => e = .returned (.int .i64 t) ∧ w = w' := by
  have c0 : w.cell? ⟨g, 3, none⟩ = some (.int .i64 t) := d.c3
  go_enter Try.func104, Try.ntmps104
  go_wp2
  go_ret
  exact ⟨rfl, rfl⟩
set_option maxRecDepth 100000 in
set_option maxHeartbeats 1000000 in
theorem p_get {w : World} {g h : Nat} {l : Int} {b : Nat} {xs : List Nd} (id : Int) (d : PnV w g h l b xs) (hb : b ≤ 40) (hb1 : 1 ≤ b) (bi : -9223372036854775808 ≤ id ∧ id ≤ 9223372036854775807) :
    Calls Try.prog 132 #[.pointer (some ⟨g, 0, none⟩), .int .i64 id] w fun e w' => e = .returned (.int .i64 (pGet l b xs id)) ∧ Below w.heap.size w w' := by
  obtain ⟨d, v⟩ := d
  obtain ⟨r, er⟩ : ∃ r, rightB l id = r := ⟨_, rfl⟩
  have Er := hid er
  cases r
  · have e : pGet l b xs id = 0 := by unfold pGet; rw [er]; rfl
    rw [e]
    clear er e
    go_enter Try.func132, Try.ntmps132
    go_wp2_with fail
    refine (p_right id d ⟨v.l1, v.l2⟩ bi).mono ?_
    rintro e w' ⟨rfl, rfl⟩
    rw [Er.out]
    go_wp2_with fail
    go_ret
    exact ⟨rfl, Below.refl _ _⟩
  · have e : pGet l b xs id = cntA xs (lookI xs b id) := by unfold pGet; rw [er]; rfl
    rw [e]
    obtain ⟨em, he, hs⟩ := v.empty
    have h1 := right_pos er
    have L := hid (p_look id d v.tab hb1 hb he (hs id) ⟨h1, bi.2⟩)
    have hi := (look_spec v.tab id he (hs id)).2.2.1
    generalize lookI xs b id = i at *
    generalize ex : cntA xs i = x at *
    have Ex := hid ex
    clear er e hs ex
    go_enter Try.func132, Try.ntmps132
    go_wp2_with fail
    refine (p_right id d ⟨v.l1, v.l2⟩ bi).mono ?_
    rintro e w' ⟨rfl, rfl⟩
    rw [Er.out]
    go_wp2_with fail
    refine L.out.mono ?_
    rintro e w' ⟨rfl, hb⟩
    have d2 := d.below hb (Nat.le_refl _)
    obtain ⟨capc4, c4⟩ := d2.c4
    obtain ⟨q1, q2⟩ := d2.at hi
    rw [Ex.out] at q2
    as_aux_lemma =>
      go_wp2_with fail
      go_ret
      exact ⟨rfl, hb⟩

set_option maxRecDepth 100000 in
set_option maxHeartbeats 400000 in
theorem p_new_no (l : Int) (w : World) (h : l < 1 ∨ 48 < l) :
    Calls Try.prog 118 #[.int .i64 l] w fun e w' => e = .returned (.tuple #[.pointer none, .int .i64 2]) ∧ w = w' := by
  by_cases h1 : l < 1
  · go_enter Try.func118, Try.ntmps118
    go_wp2
    go_ret2
    exact ⟨rfl, rfl⟩
  · have h2 : 48 < l := by omega
    go_enter Try.func118, Try.ntmps118
    go_wp2
    go_ret2
    exact ⟨rfl, rfl⟩
def PNewPost (l : Int) (b : Nat) (xs : List Nd) (w : World) (e : Ending) (w' : World) : Prop :=
  ∃ g h, e = .returned (.tuple #[.pointer (some ⟨g, 0, none⟩), .int .i64 0]) ∧ PnV w' g h l b xs ∧ w.heap.size ≤ g ∧ w.heap.size ≤ h ∧ Below w.heap.size w w'
set_option maxRecDepth 100000 in
set_option maxHeartbeats 1000000 in
theorem p_new (l : Int) (w : World) (h1 : 1 ≤ l) (h2 : l ≤ 48) :
    Calls Try.prog 118 #[.int .i64 l] w (PNewPost l 3 (List.replicate 8 (0, 0)) w) := by
  have V := hid (Pv.new h1 h2)
  have hmk : ∀ w : World, (Instr.makeSlice 33 (.int .i64 8) (.int .i64 8)).run Try.prog w = .ok (.slice (some ⟨w.heap.size, 0, none⟩) 8 8) (w.alloc (.cells (ncells (List.replicate 8 (0, 0))).toArray 100)) := make_nodes 8 (by omega)
  have hlen : (List.replicate 8 ((0 : Int), (0 : Int))).length = 8 := by simp
  have ho := occ_zeros 8
  have hs := sum_zeros 8
  generalize List.replicate 8 ((0 : Int), (0 : Int)) = zs at *
  have Hlen := hid hlen
  have Ho := hid ho
  have Hs := hid hs
  clear hlen ho hs
  go_enter Try.func118, Try.ntmps118
  go_wp2
  refine bodyPost_ret (v := .tuple #[.pointer (some ⟨w.heap.size + 1, 0, none⟩), .int .i64 0]) (by simp [results, Try.results118, go_sem]) rfl ⟨w.heap.size + 1, w.heap.size, rfl, ⟨Pn.mk ?_ ((Blk.new _ _ _).alloc _) (by omega), V.out⟩, by omega, Nat.le_refl _, ((Below.refl _ _).alloc (Nat.le_refl _) _).alloc (by simp) _⟩
  rw [Hlen.out, Ho.out, Hs.out]
  have h := Blk.new (w.alloc (Obj.cells (ncells zs).toArray 100)) #[.int .i64 l, .int .i64 3, .int .i64 0, .int .i64 0, .slice (some ⟨w.heap.size, 0, none⟩) 8 8] 151
  simpa using h
end Go.Proofs.Ytejoecoenehooaa
