/- The walks of recast.Turn, and of the reference's Grow and Coarsen. -/
import Derived.Test.YtnakieopnobjmaaGreatRc3
import Derived.Test.YtnakieopnobjmaaGreatBl12
namespace Go.Proofs.YtnakieopnobjmaaGreat
open Go.RowKit Nl

set_option maxRecDepth 100000 in
set_option maxHeartbeats 2000000 in
theorem rc_turn {w : World} {dg q g h m : Nat} {kind l k : Int} {zs : List Nd} (kind' : Int) (d : DgV w dg q g h kind l k m zs) (hm : m ≤ 100000) (hz : zs.length ≤ 1999) (hp : poolIs kind' l = true) :
    Calls Tryz.prog 43 #[.pointer (some ⟨dg, 0, none⟩), .int .i64 kind'] w (DgNew kind' l k 2000 zs w) := by
  have CF := hid (dg_conf d)
  have MY0 := fun W : World => rc_may l k kind' W
  rw [hp] at MY0
  have MY := hid MY0
  have hd := d.inv
  have h0 : loadE kind' l k zs = 0 := by
    have hk : isK k = true := decide_eq_true ⟨hd.k1, hd.k2⟩
    unfold loadE
    rw [if_neg (by rw [hp, hk]; decide), if_neg (by rw [rollB_iff.2 hd.roll]; decide), if_neg (fun q => q.elim (fun q => by have := hd.room; omega) (fun q => by rw [hd.light] at q; cases q))]
  have DL := hid (fun W v (y : RdN W v zs) => dg_load kind' l k y hd.roll.nb (by omega) h0)
  have NO := hid (fun W (y : DgV W dg q g h kind l k m zs) => dg_nodes y hm)
  clear hd h0 MY0 hp
  go_enter Tryz.func43, Tryz.ntmps43
  go_wp2_with fail
  refine CF.out.mono ?_
  rintro e w1 ⟨rfl, hb1⟩
  have hs1 := hb1.size
  have hba : Below w1.heap.size w1 (w1.alloc (.cells #[.int .i64 l, .int .i64 k, .int .i64 kind'] 23)) := (Below.refl _ _).alloc (Nat.le_refl _) _
  have X := Blk.new w1 #[.int .i64 l, .int .i64 k, .int .i64 kind'] 23
  have d2 := (d.below hb1 (Nat.le_refl _)).below hba (Nat.le_refl _)
  have hbw2 := hb1.trans (hba.mono hs1)
  have hs2 : (w1.alloc (.cells #[.int .i64 l, .int .i64 k, .int .i64 kind'] 23)).heap.size = w1.heap.size + 1 := by simp
  clear d hb1 hba
  go_wp2_with fail
  generalize (w1.alloc (.cells #[.int .i64 l, .int .i64 k, .int .i64 kind'] 23)) = w2 at *
  refine (MY.out _).mono ?_
  rintro e w3 ⟨rfl, hb3⟩
  have hs3 := hb3.size
  have X3 := X.below hb3 (Nat.le_refl _)
  have d3 := d2.below hb3 (Nat.le_refl _)
  have hbw3 := hbw2.trans (hb3.mono hbw2.size)
  have x0 : w3.cell? ⟨w1.heap.size, 0, none⟩ = some (.int .i64 l) := X3.cell 0
  have x1 : w3.cell? ⟨w1.heap.size, 1, none⟩ = some (.int .i64 k) := X3.cell 1
  have x2 : w3.cell? ⟨w1.heap.size, 2, none⟩ = some (.int .i64 kind') := X3.cell 2
  have hl0 : w1.heap.size < w3.heap.size := by omega
  have hB0 := Below.refl w3.heap.size w3
  clear X d2 hb3 MY hbw2
  go_wp2_with fail
  go_region_held3 (fun w' => w'.cell? ⟨w1.heap.size, 0, none⟩ = some (.int .i64 l) ∧ w'.cell? ⟨w1.heap.size, 1, none⟩ = some (.int .i64 k) ∧ w'.cell? ⟨w1.heap.size, 2, none⟩ = some (.int .i64 kind') ∧ Below w3.heap.size w3 w')
    (first
      | exact ⟨x0, x1, x2, below_drewN hB0 1⟩
      | exact ⟨(X3.below' hB5 hl0).cell 0, (X3.below' hB5 hl0).cell 1, (X3.below' hB5 hl0).cell 2, hB5⟩
      | exact ⟨(X3.below' hB6 hl0).cell 0, (X3.below' hB6 hl0).cell 1, (X3.below' hB6 hl0).cell 2, hB6⟩)
    (first
      | (go_at_call 31; have hB4 := (‹_ ∧ _ ∧ _ ∧ Below w3.heap.size w3 _›).2.2.2; refine (NO.out _ (d3.below hB4 (Nat.le_refl _))).mono ?_; rintro e w5 ⟨v5, rfl, o5, hb5⟩
         have hB5 := hB4.trans (hb5.mono hB4.size))
      | (go_at_call 69; have hB4 := (‹_ ∧ _ ∧ _ ∧ Below w3.heap.size w3 _›).2.2.2; have hsB := hB4.size; refine (DL.out _ _ o5.rd).mono ?_; rintro e w6 ⟨dg6, q6, g6, h6, rfl, d6, e1, e2, e3, e4, hb6⟩
         have hB6 := hB4.trans (hb6.mono hB4.size)))
  go_wp2_with fail
  go_ret2
  exact ⟨dg6, q6, g6, h6, rfl, d6, by omega, by omega, by omega, by omega, hbw3.trans (hB6.mono hbw3.size)⟩

set_option maxRecDepth 100000 in
set_option maxHeartbeats 2000000 in
theorem rc_turn_no {w : World} {dg q g h m : Nat} {kind l k : Int} {zs : List Nd} (kind' : Int) (d : DgV w dg q g h kind l k m zs) (hp : poolIs kind' l = false) :
    Calls Tryz.prog 43 #[.pointer (some ⟨dg, 0, none⟩), .int .i64 kind'] w fun e w' => e = .returned (.tuple #[.pointer none, .int .i64 2]) ∧ Below w.heap.size w w' := by
  have CF := hid (dg_conf d)
  have MY0 := fun W : World => rc_may l k kind' W
  rw [hp] at MY0
  have MY := hid MY0
  clear MY0 hp d
  go_enter Tryz.func43, Tryz.ntmps43
  go_wp2_with fail
  refine CF.out.mono ?_
  rintro e w1 ⟨rfl, hb1⟩
  have hs1 := hb1.size
  have hba : Below w1.heap.size w1 (w1.alloc (.cells #[.int .i64 l, .int .i64 k, .int .i64 kind'] 23)) := (Below.refl _ _).alloc (Nat.le_refl _) _
  have hbw2 := hb1.trans (hba.mono hs1)
  go_wp2_with fail
  generalize (w1.alloc (.cells #[.int .i64 l, .int .i64 k, .int .i64 kind'] 23)) = w2 at *
  refine (MY.out _).mono ?_
  rintro e w3 ⟨rfl, hb3⟩
  go_wp2_with fail
  go_ret2
  exact ⟨rfl, hbw2.trans (hb3.mono hbw2.size)⟩

theorem Nl.move_take (f : Int → Int) (zs : List (Int × Int)) {j : Nat} (h : j < zs.length) : moveL f (zs.take (j + 1)) = moveL f (zs.take j) ++ [(f (zs.getD j (0, 0)).1, (zs.getD j (0, 0)).2)] := by
  rw [take_at (d := (0, 0)) zs j h]; simp [moveL]
/-- On the way: how many nodes have moved, into a list of one's own. -/
def RfRel (f : Int → Int) (zs : List Nd) (w1 : World) (o i : Value) (wr : World) : Prop :=
  ∃ (j : Nat), i = .int .i64 j ∧ j ≤ zs.length ∧ OwnN wr w1.heap.size o (moveL f (zs.take j)) ∧ Below w1.heap.size w1 wr

set_option maxRecDepth 100000 in
set_option maxHeartbeats 4000000 in
theorem r_rgrow {w : World} {l k : Int} {zs : List Nd} {v : Value} (kind l' : Int) (hd : Dg l k zs) (hr : RdN w v zs) (hl : zs.length ≤ 1999) (hg : growB kind l l' = true) :
    Calls Tryz.prog 16 #[.agg #[.int .i64 k, .int .i64 l, v], .int .i64 kind, .int .i64 l'] w (RMgPost l' k (growL (l' - l) zs) w) := by
  have l1 := hd.roll.l1
  have l2 := hd.roll.l2
  simp only [growB, Bool.and_eq_true, decide_eq_true_eq] at hg
  obtain ⟨hll, hp⟩ := hg
  obtain ⟨lb1, lb2⟩ := pool_bd hp
  have IS := hid (fun W : World => r_poolIs kind l' W)
  rw [hp] at IS
  obtain ⟨s1, s2, s3, s4, s5⟩ := grow_spec hd (show 0 ≤ l' - l by omega) (show l + (l' - l) ≤ 48 by omega)
  have TF := hid (fun (W : World) id (h : rightB l id = true) => r_graft (by_ := l' - l) W h (by omega) (by omega))
  have hw : IntKind.i64.wrap (l' - l) = l' - l := IntWalk.i64_in _ ⟨by omega, by omega⟩
  have HI := hid hd.roll.ids
  have HN := hid hd.roll.nb
  have S1 := hid s1
  obtain ⟨p, cap, rfl⟩ := hr.val
  have FO := hid (fun W v (y : RdN W v (moveL (graftV (l' - l)) zs)) => r_fold W y (by rw [move_len]; omega))
  have X1 := (Blk.new w #[.int .i64 k, .int .i64 l, .slice p zs.length cap] 37).alloc (.cells #[.int .i64 0, .int .i64 0, .slice none 0 0] 37)
  have Z1 := Blk.new (w.alloc (.cells #[.int .i64 k, .int .i64 l, .slice p zs.length cap] 37)) #[.int .i64 0, .int .i64 0, .slice none 0 0] 37
  rw [World.size_alloc] at Z1
  have hb1 : Below w.heap.size w ((w.alloc (.cells #[.int .i64 k, .int .i64 l, .slice p zs.length cap] 37)).alloc (.cells #[.int .i64 0, .int .i64 0, .slice none 0 0] 37)) := ((Below.refl _ _).alloc (Nat.le_refl _) _).alloc (by simp) _
  have hs1 : ((w.alloc (.cells #[.int .i64 k, .int .i64 l, .slice p zs.length cap] 37)).alloc (.cells #[.int .i64 0, .int .i64 0, .slice none 0 0] 37)).heap.size = w.heap.size + 2 := by simp
  have r1 := hr.below hb1 (Nat.le_refl _)
  clear s1 s2 s3 s4 s5 hr hp hd
  go_enter Tryz.func16, Tryz.ntmps16
  go_wp2_with fail
  refine (IS.out _).mono ?_
  rintro e w' ⟨rfl, rfl⟩
  go_wp2_with fail
  generalize ((w.alloc (.cells #[.int .i64 k, .int .i64 l, .slice p zs.length cap] 37)).alloc (.cells #[.int .i64 0, .int .i64 0, .slice none 0 0] 37)) = w1 at *
  go_loopw [8, 9] (fun o i wr => RfRel (graftV (l' - l)) zs w1 o i wr) (fun _ i _ => zs.length - (intOf i).toNat)
  case atStart => exact ⟨0, rfl, Nat.zero_le _, OwnN.nil _ _, Below.refl _ _⟩
  case round =>
    obtain ⟨j, rfl, hj, own, hbl⟩ := hrel
    have X := X1.below hbl (Nat.le_refl _)
    have x0 : wr.cell? ⟨w.heap.size, 0, none⟩ = some (.int .i64 k) := X.cell 0
    have x1 : wr.cell? ⟨w.heap.size, 1, none⟩ = some (.int .i64 l) := X.cell 1
    have x2 : wr.cell? ⟨w.heap.size, 2, none⟩ = some (.slice p zs.length cap) := X.cell 2
    have hxl := X.lt
    have hml : (moveL (graftV (l' - l)) (zs.take j)).length = j := by rw [move_len, List.length_take]; omega
    have hwr := hbl.size
    by_cases hlt : j < zs.length
    · have hat := (r1.below hbl (Nat.le_refl _)).at hlt
      have hin : (zs.getD j (0, 0)) ∈ zs := getD_mem zs j hlt
      have hid0 := HI.out _ hin
      have hnb := HN.out _ hin
      have est := move_take (graftV (l' - l)) zs hlt
      obtain ⟨⟨a, c⟩, ez⟩ : ∃ z, zs.getD j (0, 0) = z := ⟨_, rfl⟩
      rw [ez] at hat hid0 hnb est
      simp only at est hid0
      obtain ⟨gs, off, a', c', rfl, e, hgs, q0, q1⟩ := hat
      simp only [Prod.mk.injEq] at e
      obtain ⟨rfl, rfl⟩ := e
      have TFF := hid (fun W : World => TF.out W a hid0)
      obtain ⟨V, eV⟩ : ∃ V, (graftV (l' - l)) a = V := ⟨_, rfl⟩
      rw [eV] at TFF est
      obtain ⟨M, eM⟩ : ∃ M, moveL (graftV (l' - l)) (zs.take j) = M := ⟨_, rfl⟩
      rw [eM] at own est hml
      have EST := hid est
      have HML := hid hml
      obtain ⟨po, co, rfl⟩ := own.val
      have y1 : (wr.alloc (.cells #[.int .i64 a, .int .i64 c] 93)).cell? ⟨w.heap.size, 1, none⟩ = some (.int .i64 l) := (X.alloc _).cell 1
      have own2 := own.alloc (.cells #[.int .i64 V, .int .i64 c] 93)
      have hbl2 : Below w1.heap.size w1 (wr.alloc (.cells #[.int .i64 V, .int .i64 c] 93)) := hbl.alloc hwr _
      have hs2 : (wr.alloc (.cells #[.int .i64 V, .int .i64 c] 93)).heap.size = wr.heap.size + 1 := by simp
      clear est ez hin hid0 eV eM hnb X hml
      go_wp2_with fail
      refine (TFF.out _).mono ?_
      rintro e w' ⟨rfl, rfl⟩
      go_wp2_with (at_builtin; refine appendN (wr := wr.alloc (.cells #[.int .i64 V, .int .i64 c] 93)) (b := V) (c := c) _ _ own2 (by have := HML.out; omega) (by omega) rfl rfl rfl (by simp [go_sem]) (by simp [go_sem]) ?_; intro v3 w3 ho3 hg3 hnn; have hbl3 := hbl2.trans (below_grown hg3 (by omega) own2.lt); have HO := hid ho3; clear hg3 own2 hbl2 y1 q0 q1 own hbl hs2 ho3 x0 x1 x2 hxl hnn)
      go_roundw
      case rel => exact ⟨j + 1, by go_num, by omega, by rw [EST.out]; exact HO.out, hbl3⟩
      case measure => simp [intOf]; omega
    · have ej : j = zs.length := by omega
      have em : moveL (graftV (l' - l)) (zs.take j) = moveL (graftV (l' - l)) zs := by rw [ej, List.take_length]
      rw [em] at own
      obtain ⟨po, co, rfl⟩ := own.val
      have r2 := own.rd
      have hb3 : Below wr.heap.size wr (wr.alloc (.cells #[.int .i64 k, .int .i64 l', .slice none 0 0] 37)) := (Below.refl _ _).alloc (Nat.le_refl _) _
      have T3 := Blk.new wr #[.int .i64 k, .int .i64 l', .slice none 0 0] 37
      have Z3 := (Z1.below hbl (Nat.le_refl _)).below hb3 (Nat.le_refl _)
      have r3 := r2.below hb3 (Nat.le_refl _)
      have hs3 : (wr.alloc (.cells #[.int .i64 k, .int .i64 l', .slice none 0 0] 37)).heap.size = wr.heap.size + 1 := by simp
      have hbw3 := (hb1.trans (hbl.mono (by omega))).trans (hb3.mono (by omega))
      have y1 : (wr.alloc (.cells #[.int .i64 k, .int .i64 0, .slice none 0 0] 37)).cell? ⟨w.heap.size, 1, none⟩ = some (.int .i64 l) := (X.alloc _).cell 1
      have hZ : Hid (foldL (moveL (graftV (l' - l)) zs) = some (growL (l' - l) zs)) := S1
      generalize moveL (graftV (l' - l)) zs = Q at *
      generalize (growL (l' - l) zs) = R at *
      clear X em own hb3 r2 hml hbl
      go_wp2_with fail
      generalize (wr.alloc (.cells #[.int .i64 k, .int .i64 l', .slice none 0 0] 37)) = w3 at *
      refine (FO.out _ _ r3).mono ?_
      rintro e w4 (⟨v4, zs', hz, rfl, o4, hb4⟩ | ⟨hz, -⟩)
      · rw [hZ.out] at hz
        have hz := Option.some.inj hz
        subst hz
        obtain ⟨p4, c4, rfl⟩ := o4.val
        have hs4 := hb4.size
        have T4 := T3.below hb4 (Nat.le_refl _)
        have Z4 := Z3.below hb4 (Nat.le_refl _)
        have hbw4 := hbw3.trans (hb4.mono hbw3.size)
        have t0 : w4.cell? ⟨wr.heap.size, 0, none⟩ = some (.int .i64 k) := T4.cell 0
        have t1 : w4.cell? ⟨wr.heap.size, 1, none⟩ = some (.int .i64 l') := T4.cell 1
        have t2 : w4.cell? ⟨wr.heap.size, 2, none⟩ = some (.slice none 0 0) := T4.cell 2
        have tf2 := T4.free 2
        have htl := T4.lt
        have T5 := T4.set 2 (.slice p4 R.length c4)
        have hne : w.heap.size + 1 ≠ wr.heap.size := by omega
        have Z5 := Z4.set_other 2 (.slice p4 R.length c4) hne
        have u0 : World.cell? _ ⟨wr.heap.size, 0, none⟩ = some (.int .i64 k) := T5.cell 0
        have u1 : World.cell? _ ⟨wr.heap.size, 1, none⟩ = some (.int .i64 l') := T5.cell 1
        have u2 : World.cell? _ ⟨wr.heap.size, 2, none⟩ = some (.slice p4 R.length c4) := T5.cell 2
        have zz0 : World.cell? _ ⟨w.heap.size + 1, 0, none⟩ = some (.int .i64 0) := Z5.cell 0
        have zz1 : World.cell? _ ⟨w.heap.size + 1, 1, none⟩ = some (.int .i64 0) := Z5.cell 1
        have zz2 : World.cell? _ ⟨w.heap.size + 1, 2, none⟩ = some (.slice none 0 0) := Z5.cell 2
        have f0 := Z5.free 0
        have f1 := Z5.free 1
        have f2 := Z5.free 2
        have hlz := Z5.lt
        have Z9 := ((Z5.set 0 (.int .i64 k)).set 1 (.int .i64 l')).set 2 (.slice p4 R.length c4)
        have z0 : World.cell? _ ⟨w.heap.size + 1, 0, none⟩ = some (.int .i64 k) := Z9.cell 0
        have z1 : World.cell? _ ⟨w.heap.size + 1, 1, none⟩ = some (.int .i64 l') := Z9.cell 1
        have z2 : World.cell? _ ⟨w.heap.size + 1, 2, none⟩ = some (.slice p4 R.length c4) := Z9.cell 2
        have o1 : NotIn (.slice p4 R.length c4) R wr.heap.size := .inr (fun i hi e => by have := o4.lt i hi; omega)
        have o2 : NotIn (.slice p4 R.length c4) R (w.heap.size + 1) := .inr (fun i hi e => by have := o4.lt i hi; omega)
        have r9 := (((o4.rd.set_off o1 2 (.slice p4 R.length c4)).set_off o2 0 (.int .i64 k)).set_off o2 1 (.int .i64 l')).set_off o2 2 (.slice p4 R.length c4)
        have hbw9 := (((hbw4.setCell (p := ⟨wr.heap.size, 2, none⟩) (by show w.heap.size ≤ wr.heap.size; omega) (.slice p4 R.length c4)).setCell (p := ⟨w.heap.size + 1, 0, none⟩) (by show w.heap.size ≤ w.heap.size + 1; omega) (.int .i64 k)).setCell (p := ⟨w.heap.size + 1, 1, none⟩) (by show w.heap.size ≤ w.heap.size + 1; omega) (.int .i64 l')).setCell (p := ⟨w.heap.size + 1, 2, none⟩) (by show w.heap.size ≤ w.heap.size + 1; omega) (.slice p4 R.length c4)
        clear T4 Z4 hbw4 hb4 o4 T5 Z5 Z9
        go_wp2_with fail
        exact bodyPost_ret (v := .tuple #[.agg #[.int .i64 k, .int .i64 l', .slice p4 R.length c4], .int .i64 0]) (by simp [results, Tryz.results16, go_sem, z0, z1, z2]) rfl ⟨_, rfl, r9, hbw9⟩
      · rw [hZ.out] at hz; cases hz

set_option maxRecDepth 100000 in
set_option maxHeartbeats 4000000 in
theorem r_rcoar {w : World} {l k : Int} {zs : List Nd} {v : Value} (b : Int) (hd : Dg l k zs) (hr : RdN w v zs) (hl : zs.length ≤ 1999) (hb : 0 ≤ b) (hbl : b < l) :
    Calls Tryz.prog 20 #[.agg #[.int .i64 k, .int .i64 l, v], .int .i64 b] w (RMgPost (l - b) k (coarL (l - b) zs) w) := by
  have l1 := hd.roll.l1
  have l2 := hd.roll.l2
  obtain ⟨s1, s2, s3, s4, s5⟩ := coar_spec hd (show 1 ≤ l - b by omega) (show l - b ≤ l by omega)
  have TF := hid (fun (W : World) id (h : rightB l id = true) => r_prune (t := l - b) W h (by omega) (by omega))
  have hw : IntKind.i64.wrap (l - b) = l - b := IntWalk.i64_in _ ⟨by omega, by omega⟩
  have HI := hid hd.roll.ids
  have HN := hid hd.roll.nb
  have S1 := hid s1
  obtain ⟨p, cap, rfl⟩ := hr.val
  have FO := hid (fun W v (y : RdN W v (moveL (pruneV (l - b)) zs)) => r_fold W y (by rw [move_len]; omega))
  have X1 := (Blk.new w #[.int .i64 k, .int .i64 l, .slice p zs.length cap] 37).alloc (.cells #[.int .i64 0, .int .i64 0, .slice none 0 0] 37)
  have Z1 := Blk.new (w.alloc (.cells #[.int .i64 k, .int .i64 l, .slice p zs.length cap] 37)) #[.int .i64 0, .int .i64 0, .slice none 0 0] 37
  rw [World.size_alloc] at Z1
  have hb1 : Below w.heap.size w ((w.alloc (.cells #[.int .i64 k, .int .i64 l, .slice p zs.length cap] 37)).alloc (.cells #[.int .i64 0, .int .i64 0, .slice none 0 0] 37)) := ((Below.refl _ _).alloc (Nat.le_refl _) _).alloc (by simp) _
  have hs1 : ((w.alloc (.cells #[.int .i64 k, .int .i64 l, .slice p zs.length cap] 37)).alloc (.cells #[.int .i64 0, .int .i64 0, .slice none 0 0] 37)).heap.size = w.heap.size + 2 := by simp
  have r1 := hr.below hb1 (Nat.le_refl _)
  clear s1 s2 s3 s4 s5 hr hd
  go_enter Tryz.func20, Tryz.ntmps20
  go_wp2_with fail
  generalize ((w.alloc (.cells #[.int .i64 k, .int .i64 l, .slice p zs.length cap] 37)).alloc (.cells #[.int .i64 0, .int .i64 0, .slice none 0 0] 37)) = w1 at *
  go_loopw [6, 7] (fun o i wr => RfRel (pruneV (l - b)) zs w1 o i wr) (fun _ i _ => zs.length - (intOf i).toNat)
  case atStart => exact ⟨0, rfl, Nat.zero_le _, OwnN.nil _ _, Below.refl _ _⟩
  case round =>
    obtain ⟨j, rfl, hj, own, hbl⟩ := hrel
    have X := X1.below hbl (Nat.le_refl _)
    have x0 : wr.cell? ⟨w.heap.size, 0, none⟩ = some (.int .i64 k) := X.cell 0
    have x1 : wr.cell? ⟨w.heap.size, 1, none⟩ = some (.int .i64 l) := X.cell 1
    have x2 : wr.cell? ⟨w.heap.size, 2, none⟩ = some (.slice p zs.length cap) := X.cell 2
    have hxl := X.lt
    have hml : (moveL (pruneV (l - b)) (zs.take j)).length = j := by rw [move_len, List.length_take]; omega
    have hwr := hbl.size
    by_cases hlt : j < zs.length
    · have hat := (r1.below hbl (Nat.le_refl _)).at hlt
      have hin : (zs.getD j (0, 0)) ∈ zs := getD_mem zs j hlt
      have hid0 := HI.out _ hin
      have hnb := HN.out _ hin
      have est := move_take (pruneV (l - b)) zs hlt
      obtain ⟨⟨a, c⟩, ez⟩ : ∃ z, zs.getD j (0, 0) = z := ⟨_, rfl⟩
      rw [ez] at hat hid0 hnb est
      simp only at est hid0
      obtain ⟨gs, off, a', c', rfl, e, hgs, q0, q1⟩ := hat
      simp only [Prod.mk.injEq] at e
      obtain ⟨rfl, rfl⟩ := e
      have TFF := hid (fun W : World => TF.out W a hid0)
      obtain ⟨V, eV⟩ : ∃ V, (pruneV (l - b)) a = V := ⟨_, rfl⟩
      rw [eV] at TFF est
      obtain ⟨M, eM⟩ : ∃ M, moveL (pruneV (l - b)) (zs.take j) = M := ⟨_, rfl⟩
      rw [eM] at own est hml
      have EST := hid est
      have HML := hid hml
      obtain ⟨po, co, rfl⟩ := own.val
      have y1 : (wr.alloc (.cells #[.int .i64 a, .int .i64 c] 93)).cell? ⟨w.heap.size, 1, none⟩ = some (.int .i64 l) := (X.alloc _).cell 1
      have own2 := own.alloc (.cells #[.int .i64 V, .int .i64 c] 93)
      have hbl2 : Below w1.heap.size w1 (wr.alloc (.cells #[.int .i64 V, .int .i64 c] 93)) := hbl.alloc hwr _
      have hs2 : (wr.alloc (.cells #[.int .i64 V, .int .i64 c] 93)).heap.size = wr.heap.size + 1 := by simp
      clear est ez hin hid0 eV eM hnb X hml
      go_wp2_with fail
      refine (TFF.out _).mono ?_
      rintro e w' ⟨rfl, rfl⟩
      go_wp2_with (at_builtin; refine appendN (wr := wr.alloc (.cells #[.int .i64 V, .int .i64 c] 93)) (b := V) (c := c) _ _ own2 (by have := HML.out; omega) (by omega) rfl rfl rfl (by simp [go_sem]) (by simp [go_sem]) ?_; intro v3 w3 ho3 hg3 hnn; have hbl3 := hbl2.trans (below_grown hg3 (by omega) own2.lt); have HO := hid ho3; clear hg3 own2 hbl2 y1 q0 q1 own hbl hs2 ho3 x0 x1 x2 hxl hnn)
      go_roundw
      case rel => exact ⟨j + 1, by go_num, by omega, by rw [EST.out]; exact HO.out, hbl3⟩
      case measure => simp [intOf]; omega
    · have ej : j = zs.length := by omega
      have em : moveL (pruneV (l - b)) (zs.take j) = moveL (pruneV (l - b)) zs := by rw [ej, List.take_length]
      rw [em] at own
      obtain ⟨po, co, rfl⟩ := own.val
      have r2 := own.rd
      have hb3 : Below wr.heap.size wr (wr.alloc (.cells #[.int .i64 k, .int .i64 (l - b), .slice none 0 0] 37)) := (Below.refl _ _).alloc (Nat.le_refl _) _
      have T3 := Blk.new wr #[.int .i64 k, .int .i64 (l - b), .slice none 0 0] 37
      have Z3 := (Z1.below hbl (Nat.le_refl _)).below hb3 (Nat.le_refl _)
      have r3 := r2.below hb3 (Nat.le_refl _)
      have hs3 : (wr.alloc (.cells #[.int .i64 k, .int .i64 (l - b), .slice none 0 0] 37)).heap.size = wr.heap.size + 1 := by simp
      have hbw3 := (hb1.trans (hbl.mono (by omega))).trans (hb3.mono (by omega))
      have y1 : (wr.alloc (.cells #[.int .i64 k, .int .i64 0, .slice none 0 0] 37)).cell? ⟨w.heap.size, 1, none⟩ = some (.int .i64 l) := (X.alloc _).cell 1
      have hZ : Hid (foldL (moveL (pruneV (l - b)) zs) = some (coarL (l - b) zs)) := S1
      generalize moveL (pruneV (l - b)) zs = Q at *
      generalize (coarL (l - b) zs) = R at *
      clear X em own hb3 r2 hml hbl
      go_wp2_with fail
      generalize (wr.alloc (.cells #[.int .i64 k, .int .i64 (l - b), .slice none 0 0] 37)) = w3 at *
      refine (FO.out _ _ r3).mono ?_
      rintro e w4 (⟨v4, zs', hz, rfl, o4, hb4⟩ | ⟨hz, -⟩)
      · rw [hZ.out] at hz
        have hz := Option.some.inj hz
        subst hz
        obtain ⟨p4, c4, rfl⟩ := o4.val
        have hs4 := hb4.size
        have T4 := T3.below hb4 (Nat.le_refl _)
        have Z4 := Z3.below hb4 (Nat.le_refl _)
        have hbw4 := hbw3.trans (hb4.mono hbw3.size)
        have t0 : w4.cell? ⟨wr.heap.size, 0, none⟩ = some (.int .i64 k) := T4.cell 0
        have t1 : w4.cell? ⟨wr.heap.size, 1, none⟩ = some (.int .i64 (l - b)) := T4.cell 1
        have t2 : w4.cell? ⟨wr.heap.size, 2, none⟩ = some (.slice none 0 0) := T4.cell 2
        have tf2 := T4.free 2
        have htl := T4.lt
        have T5 := T4.set 2 (.slice p4 R.length c4)
        have hne : w.heap.size + 1 ≠ wr.heap.size := by omega
        have Z5 := Z4.set_other 2 (.slice p4 R.length c4) hne
        have u0 : World.cell? _ ⟨wr.heap.size, 0, none⟩ = some (.int .i64 k) := T5.cell 0
        have u1 : World.cell? _ ⟨wr.heap.size, 1, none⟩ = some (.int .i64 (l - b)) := T5.cell 1
        have u2 : World.cell? _ ⟨wr.heap.size, 2, none⟩ = some (.slice p4 R.length c4) := T5.cell 2
        have zz0 : World.cell? _ ⟨w.heap.size + 1, 0, none⟩ = some (.int .i64 0) := Z5.cell 0
        have zz1 : World.cell? _ ⟨w.heap.size + 1, 1, none⟩ = some (.int .i64 0) := Z5.cell 1
        have zz2 : World.cell? _ ⟨w.heap.size + 1, 2, none⟩ = some (.slice none 0 0) := Z5.cell 2
        have f0 := Z5.free 0
        have f1 := Z5.free 1
        have f2 := Z5.free 2
        have hlz := Z5.lt
        have Z9 := ((Z5.set 0 (.int .i64 k)).set 1 (.int .i64 (l - b))).set 2 (.slice p4 R.length c4)
        have z0 : World.cell? _ ⟨w.heap.size + 1, 0, none⟩ = some (.int .i64 k) := Z9.cell 0
        have z1 : World.cell? _ ⟨w.heap.size + 1, 1, none⟩ = some (.int .i64 (l - b)) := Z9.cell 1
        have z2 : World.cell? _ ⟨w.heap.size + 1, 2, none⟩ = some (.slice p4 R.length c4) := Z9.cell 2
        have o1 : NotIn (.slice p4 R.length c4) R wr.heap.size := .inr (fun i hi e => by have := o4.lt i hi; omega)
        have o2 : NotIn (.slice p4 R.length c4) R (w.heap.size + 1) := .inr (fun i hi e => by have := o4.lt i hi; omega)
        have r9 := (((o4.rd.set_off o1 2 (.slice p4 R.length c4)).set_off o2 0 (.int .i64 k)).set_off o2 1 (.int .i64 (l - b))).set_off o2 2 (.slice p4 R.length c4)
        have hbw9 := (((hbw4.setCell (p := ⟨wr.heap.size, 2, none⟩) (by show w.heap.size ≤ wr.heap.size; omega) (.slice p4 R.length c4)).setCell (p := ⟨w.heap.size + 1, 0, none⟩) (by show w.heap.size ≤ w.heap.size + 1; omega) (.int .i64 k)).setCell (p := ⟨w.heap.size + 1, 1, none⟩) (by show w.heap.size ≤ w.heap.size + 1; omega) (.int .i64 (l - b))).setCell (p := ⟨w.heap.size + 1, 2, none⟩) (by show w.heap.size ≤ w.heap.size + 1; omega) (.slice p4 R.length c4)
        clear T4 Z4 hbw4 hb4 o4 T5 Z5 Z9
        go_wp2_with fail
        exact bodyPost_ret (v := .tuple #[.agg #[.int .i64 k, .int .i64 (l - b), .slice p4 R.length c4], .int .i64 0]) (by simp [results, Tryz.results20, go_sem, z0, z1, z2]) rfl ⟨_, rfl, r9, hbw9⟩
      · rw [hZ.out] at hz; cases hz

end Go.Proofs.YtnakieopnobjmaaGreat
