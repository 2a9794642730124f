/- The walks of recast.moved, and of the functions that move a node. -/
import Derived.Test.YtnakieopnobjmaaGreatRc1
import Derived.Test.YtnakieopnobjmaaGreatBL
namespace Go.Proofs.YtnakieopnobjmaaGreat
open Go.RowKit Nl

theorem ncells_setId (xs : List Nd) (k : Nat) (c : Int) : ncells (xs.set k (c, (xs.getD k (0, 0)).2)) = (ncells xs).set (k * 2) (.int .i64 c) := by
  induction xs generalizing k with
  | nil => simp [ncells]
  | cons x r ih =>
    cases k with
    | zero => simp [ncells]
    | succ k =>
      have := ih k
      simp only [List.set_cons_succ, ncells, List.getD_cons_succ, show (k + 1) * 2 = k * 2 + 1 + 1 by omega]
      rw [this]
/-- A number is stored. -/
theorem OwnN.storeId {w : World} {B g n cap : Nat} {xs : List Nd} (h : OwnN w B (.slice (some ⟨g, 0, none⟩) n cap) xs) (k : Nat) (c : Int) : OwnN (w.setCell ⟨g, k * 2, none⟩ (.int .i64 c)) B (.slice (some ⟨g, 0, none⟩) n cap) (xs.set k (c, (xs.getD k (0, 0)).2)) := by
  unfold OwnN
  rw [ncells_setId, List.length_set]
  have hn : xs.length = n := h.rd.len.1
  subst hn
  exact (World.ownsRow.stored h (k * 2) (.int .i64 c)).1
namespace Nl
/-- So many of the nodes have moved. -/
def partL (f : Int → Int) (zs : List (Int × Int)) (j : Nat) : List (Int × Int) := moveL f (zs.take j) ++ zs.drop j
theorem part_len (f : Int → Int) (zs : List (Int × Int)) (j : Nat) : (partL f zs j).length = zs.length := by
  unfold partL; rw [List.length_append, move_len, List.length_take, List.length_drop]; omega
theorem part_zero (f : Int → Int) (zs : List (Int × Int)) : partL f zs 0 = zs := by simp [partL, moveL]
theorem part_all (f : Int → Int) (zs : List (Int × Int)) : partL f zs zs.length = moveL f zs := by simp [partL]
theorem part_at (f : Int → Int) (zs : List (Int × Int)) {j : Nat} (h : j < zs.length) : (partL f zs j).getD j (0, 0) = zs.getD j (0, 0) := by
  have hl : (moveL f (zs.take j)).length = j := by rw [move_len, List.length_take]; omega
  unfold partL
  rw [List.getD_eq_getElem?_getD, List.getElem?_append_right (by omega), hl, Nat.sub_self, List.getElem?_drop, Nat.add_zero, ← List.getD_eq_getElem?_getD]
theorem part_step (f : Int → Int) (zs : List (Int × Int)) {j : Nat} (h : j < zs.length) : (partL f zs j).set j (f (zs.getD j (0, 0)).1, (zs.getD j (0, 0)).2) = partL f zs (j + 1) := by
  have hl : (moveL f (zs.take j)).length = j := by rw [move_len, List.length_take]; omega
  have e1 : zs.drop j = zs.getD j (0, 0) :: zs.drop (j + 1) := drop_at zs j h
  have e2 : zs.take (j + 1) = zs.take j ++ [zs.getD j (0, 0)] := take_at zs j h
  unfold partL
  rw [List.set_append_right _ _ (by omega), hl, Nat.sub_self, e1, List.set_cons_zero, e2]
  simp [moveL]
end Nl

/-- A function that moves nodes, with what it holds in the box c. -/
structure Moves (F c : Nat) (l : Int) (f : Int → Int) (I : World → Prop) : Prop where
  keep : ∀ {w w' : World}, I w → w'.heap[c]? = w.heap[c]? → I w'
  lt : ∀ {w : World}, I w → c < w.heap.size
  ent : ∀ (args : Array Value) (w : World), (callFunc F args).run Tryz.prog w = .ok (.enter F args) w
  call : ∀ (w : World) (id : Int), I w → rightB l id = true → Calls Tryz.prog F #[.int .i64 id, .pointer (some ⟨c, 0, none⟩)] w fun e w' => e = .returned (.int .i64 (f id)) ∧ Below w.heap.size w w'

def MvRel (f : Int → Int) (zs : List Nd) (v : Value) (cf : Array Value) (I : World → Prop) (B0 B : Nat) (w : World) (i : Value) (wr : World) : Prop :=
  ∃ (j : Nat) (xs : List Nd), i = .int .i64 j ∧ j ≤ zs.length ∧ Hid (xs = partL f zs j) ∧ OwnN wr B v xs ∧ I wr ∧ Blk wr B0 cf 23 ∧ Below w.heap.size w wr

set_option maxRecDepth 100000 in
set_option maxHeartbeats 4000000 in
theorem rc_moved {w : World} {dg q g h m F c : Nat} {kind l k : Int} {zs : List Nd} {f : Int → Int} {I : World → Prop} (kind' l' : Int) (d : DgV w dg q g h kind l k m zs) (hm : m ≤ 100000) (hz : zs.length ≤ 1999) (M : Moves F c l f I) (hI : I w)
    (hp : poolIs kind' l' = true) (_hf : foldL (moveL f zs) = some (movedL f zs)) (hd : Dg l' k (movedL f zs)) (hlen : (movedL f zs).length ≤ zs.length) (hr : ∀ id, rightB l id = true → rightB l' (f id) = true) :
    Calls Tryz.prog 48 #[.pointer (some ⟨dg, 0, none⟩), .agg #[.int .i64 l', .int .i64 k, .int .i64 kind'], .func (.func F) #[] #[.pointer (some ⟨c, 0, none⟩)]] w (DgNew kind' l' k 2000 (movedL f zs) w) := by
  have hroll := d.inv.roll
  have X1 := Blk.new w #[.int .i64 l', .int .i64 k, .int .i64 kind'] 23
  have hb1 : Below w.heap.size w (w.alloc (.cells #[.int .i64 l', .int .i64 k, .int .i64 kind'] 23)) := (Below.refl _ _).alloc (Nat.le_refl _) _
  have hs1 : (w.alloc (.cells #[.int .i64 l', .int .i64 k, .int .i64 kind'] 23)).heap.size = w.heap.size + 1 := by simp
  have d1 := d.below hb1 (Nat.le_refl _)
  have hcl := M.lt hI
  have I1 : I (w.alloc (.cells #[.int .i64 l', .int .i64 k, .int .i64 kind'] 23)) := M.keep hI (hb1.block c hcl)
  have hNB : NB (moveL f zs) := fun y hy => by
    obtain ⟨x, hx, rfl⟩ := move_mem hy
    have a := hr _ (hroll.ids x hx)
    have b := hroll.nb x hx
    refine ⟨?_, b.2⟩
    have r1 := right_pos1 a
    have e := a
    simp only [rightB, decide_eq_true_eq] at e
    obtain ⟨n, rfl⟩ := Int.eq_ofNat_of_zero_le (show 0 ≤ l' by omega)
    have := (pow48 (n := n) (by omega)).2
    simp only [Int.toNat_natCast] at e
    exact ⟨by omega, by omega⟩
  have hpos : ∀ x ∈ moveL f zs, 1 ≤ x.1 ∧ 0 < x.2 := fun y hy => by
    obtain ⟨x, hx, rfl⟩ := move_mem hy
    exact ⟨(right_pos1 (hr _ (hroll.ids x hx))).1, (hroll.strict.2 x hx).2⟩
  have FO := hid (fun W v (y : RdN W v (moveL f zs)) => o_fold W y (by rw [move_len]; omega) hpos (by rw [move_sum]; exact hroll.most) hNB)
  have hZ : Hid (foldZ (moveL f zs) = movedL f zs) := rfl
  have h0 : loadE kind' l' k (movedL f zs) = 0 := by
    have hk : isK k = true := decide_eq_true ⟨hd.k1, hd.k2⟩
    unfold loadE
    rw [if_neg (by rw [hp, hk]; decide), if_neg (by rw [rollB_iff.2 hd.roll]; decide), if_neg (fun q => q.elim (fun q => by have := hd.room; omega) (fun q => by rw [hd.light] at q; cases q))]
  have DL := hid (fun W v (y : RdN W v (movedL f zs)) => dg_load kind' l' k y hd.roll.nb (by omega) h0)
  have ND := hid (fun W (y : DgV W dg q g h kind l k m zs) => dg_nodes y hm)
  have HR : Hid (∀ j, j < zs.length → rightB l (zs.getD j (0, 0)).1 = true ∧ In64 (zs.getD j (0, 0)).1) := fun j hj => by
    have e : zs.getD j (0, 0) ∈ zs := getD_mem zs j hj
    exact ⟨hroll.ids _ e, (hroll.nb _ e).1⟩
  have CL := hid M.call
  have EN := hid M.ent
  have KP := hid (fun (w w' : World) (h1 : I w) (h2 : w'.heap[c]? = w.heap[c]?) => M.keep h1 h2)
  have hent := M.ent
  have LT := hid (fun (w : World) (h : I w) => M.lt h)
  clear hNB hpos h0 hr hp hd hroll d hI M
  go_enter Tryz.func48, Tryz.ntmps48
  go_wp2_with fail
  refine (ND.out _ d1).mono ?_
  rintro e w2 ⟨v2, rfl, o2, hb2⟩
  generalize (w.alloc (.cells #[.int .i64 l', .int .i64 k, .int .i64 kind'] 23)) = w1 at *
  have hs2 := hb2.size
  have I2 : I w2 := KP.out _ _ I1 (hb2.block c (by omega))
  have X2 := X1.below hb2 (Nat.le_refl _)
  have hbw2 := hb1.trans (hb2.mono (by omega))
  obtain ⟨p2, c2, rfl⟩ := o2.val
  have R0 : Hid (MvRel f zs (.slice p2 zs.length c2) #[.int .i64 l', .int .i64 k, .int .i64 kind'] I w.heap.size w1.heap.size w (.int .i64 (0 : Nat)) w2) := ⟨0, zs, rfl, Nat.zero_le _, (part_zero f zs).symm, o2, I2, X2, hbw2⟩
  clear d1 ND o2 I2 X2 hbw2 X1 I1 hb2
  go_wp2_with fail
  go_loopw [14] (fun i wr => MvRel f zs (.slice p2 zs.length c2) #[.int .i64 l', .int .i64 k, .int .i64 kind'] I w.heap.size w1.heap.size w i wr) (fun i _ => zs.length - (intOf i).toNat)
  case atStart => exact R0.out
  case round =>
    obtain ⟨j, xs, rfl, hj, ex, own, iw, X, hbw⟩ := hrel
    have hxl : xs.length = zs.length := by rw [ex.out]; exact part_len f zs j
    by_cases hlt : j < zs.length
    · rcases own.shape with ⟨hv, hxs⟩ | ⟨gs, cap, hv, hBg, hgw, hcap, hat⟩
      · rw [hxs] at hxl; simp at hxl; omega
      · simp only [Value.slice.injEq] at hv
        obtain ⟨rfl, -, rfl⟩ := hv
        obtain ⟨hrid, hin⟩ := HR.out j hlt
        have eat : xs.getD j (0, 0) = zs.getD j (0, 0) := by rw [ex.out]; exact part_at f zs hlt
        have est : xs.set j (f (zs.getD j (0, 0)).1, (zs.getD j (0, 0)).2) = partL f zs (j + 1) := by rw [ex.out]; exact part_step f zs hlt
        have q0 := (hat j (by omega)).1
        have u0 := fun a => own.storeId j a
        simp only [eat] at q0 u0
        generalize zs.getD j (0, 0) = z at *
        obtain ⟨a, b⟩ := z
        simp only at q0 u0 est hrid hin
        have EST := hid est
        have U0 := hid (fun a' => own.storeId j a')
        have CA := hid (CL.out wr a iw hrid)
        have EAT := hid eat
        clear hat est u0 eat
        go_wp2_with fail
        refine CA.out.mono ?_
        rintro e w5 ⟨rfl, hb5⟩
        have hs5 := hb5.size
        have own5 := own.below hb5 (Nat.le_refl _)
        have I5 : I w5 := KP.out _ _ iw (hb5.block c (LT.out _ iw))
        have X5 := X.below hb5 (Nat.le_refl _)
        have hbw5 := hbw.trans (hb5.mono hbw.size)
        have fz : w5.frozen? ⟨gs, j * 2, none⟩ = false := by
          have h := own5
          unfold OwnN at h
          rw [hxl] at h
          exact World.ownsRow.frozenAt h _
        have q5 : w5.cell? ⟨gs, j * 2, none⟩ = some (.int .i64 a) := by
          rcases own5.shape with ⟨hv, -⟩ | ⟨gs', cap', hv, -, -, -, hat5⟩
          · cases hv
          · simp only [Value.slice.injEq, Option.some.injEq, Addr.mk.injEq] at hv
            have := (hat5 j (by omega)).1
            rw [EAT.out] at this
            rw [hv.1.1]; exact this
        have own6 : OwnN (w5.setCell ⟨gs, j * 2, none⟩ (.int .i64 (f a))) w1.heap.size (.slice (some ⟨gs, 0, none⟩) zs.length c2) (partL f zs (j + 1)) := by
          have := own5.storeId j (f a)
          rw [EAT.out] at this
          simp only at this
          rw [EST.out] at this
          exact this
        have hcw := LT.out _ iw
        have I6 : I (w5.setCell ⟨gs, j * 2, none⟩ (.int .i64 (f a))) := KP.out _ _ I5 (Below.heap_setCell _ _ _ _ (by show c ≠ gs; omega))
        have X6 := X5.set_other (j * 2) (.int .i64 (f a)) (show w.heap.size ≠ gs by omega)
        have hbw6 := hbw5.setCell (p := ⟨gs, j * 2, none⟩) (by show w.heap.size ≤ gs; omega) (.int .i64 (f a))
        have hgl : gs < w5.heap.size := by omega
        clear own own5 I5 X5 hbw5 iw X hbw CA q0 hb5
        go_wp2_with fail
        go_roundw
        case rel => exact ⟨j + 1, partL f zs (j + 1), by go_num, by omega, rfl, own6, I6, X6, hbw6⟩
        case measure => simp [intOf]; omega
    · have ej : j = zs.length := by omega
      have exx : xs = moveL f zs := by rw [ex.out, ej, part_all]
      have r1 := own.rd
      rw [exx] at r1
      have x0 : wr.cell? ⟨w.heap.size, 0, none⟩ = some (.int .i64 l') := X.cell 0
      have hbwr := hbw
      clear exx own hxl ex
      go_wp2_with fail
      refine (FO.out _ _ r1).mono ?_
      rintro e w5 ⟨v5, rfl, o5, hb5⟩
      rw [hZ.out] at o5
      have hs5 := hb5.size
      have X5 := X.below hb5 (Nat.le_refl _)
      have x0 : w5.cell? ⟨w.heap.size, 0, none⟩ = some (.int .i64 l') := X5.cell 0
      have x1 : w5.cell? ⟨w.heap.size, 1, none⟩ = some (.int .i64 k) := X5.cell 1
      have x2 : w5.cell? ⟨w.heap.size, 2, none⟩ = some (.int .i64 kind') := X5.cell 2
      have hbw5 := hbwr.trans (hb5.mono hbwr.size)
      go_wp2_with fail
      refine (DL.out _ _ o5.rd).mono ?_
      rintro e w6 ⟨dg', q', g', h', rfl, d6, e1, e2, e3, e4, hb6⟩
      have hs6 := hbw5.size
      go_wp2_with fail
      go_ret2
      exact ⟨dg', q', g', h', rfl, d6, by omega, by omega, by omega, by omega, hbw5.trans (hb6.mono hbw5.size)⟩
end Go.Proofs.YtnakieopnobjmaaGreat
