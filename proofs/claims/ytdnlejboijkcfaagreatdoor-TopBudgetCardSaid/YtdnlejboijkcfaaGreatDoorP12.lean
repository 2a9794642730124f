/- Texts laid together. -/
import Derived.Test.YtdnlejboijkcfaaGreatDoorP11
import Derived.Test.YtdnlejboijkcfaaGreatDoorP10
/- Texts laid together: Dg1, Dg2, Pr9, Dg3, Dg4, Pr11, Dr1, Dr2. -/
/- The walks of package digest: what a digest is; New, N, Len, Cap, Room, Nodes, Conf, Compress. -/
namespace Go.Proofs.YtdnlejboijkcfaaGreatDoor
set_option maxHeartbeats 8000000
set_option maxRecDepth 100000
open Go.RowKit Nl
def DgV (w : World) (dg q g h : Nat) (kind l k : Int) (m : Nat) (zs : List Nd) : Prop :=
  Blk w dg #[.int .i64 k, .pointer (some ⟨q, 0, none⟩)] 99 ∧ PoolV w q g h kind l m zs ∧ dg ≠ q ∧ dg ≠ g ∧ dg ≠ h ∧ Dg l k zs
def DB (dg q g h k : Nat) : Prop := k = dg ∨ PB q g h k
section
variable {w w' : World} {dg q g h m B : Nat} {kind l k : Int} {zs : List Nd}
theorem DgV.ltB (d : DgV w dg q g h kind l k m zs) : ∀ j, DB dg q g h j → j < w.heap.size := fun j hj => by
  rcases hj with e | e
  · rw [e]; exact d.1.lt
  · exact d.2.1.ltB j e
theorem DgV.keepB (d : DgV w dg q g h kind l k m zs) (hk : ∀ j, j < w.heap.size → DB dg q g h j → w'.heap[j]? = w.heap[j]?) : DgV w' dg q g h kind l k m zs :=
  ⟨d.1.keep (hk dg d.1.lt (.inl rfl)), d.2.1.keepB (fun j h1 h2 => hk j h1 (.inr h2)), d.2.2⟩
theorem DgV.below (d : DgV w dg q g h kind l k m zs) (hb : Below B w w') (hB : w.heap.size ≤ B) : DgV w' dg q g h kind l k m zs := d.keepB (fun j h1 _ => hb.block j (by omega))
theorem DgV.inv (d : DgV w dg q g h kind l k m zs) : Dg l k zs := d.2.2.2.2.2
theorem DgV.apart (d : DgV w dg q g h kind l k m zs) (hp : PB q g h dg) : False := by
  obtain ⟨_, _, n1, n2, n3, _⟩ := d
  rcases hp with e | e | e
  · exact n1 e
  · exact n2 e
  · exact n3 e
theorem DgV.pool (d : DgV w dg q g h kind l k m zs) : PoolV w q g h kind l m zs := d.2.1
end
def DgPost (dg q g h0 : Nat) (kind l k : Int) (m : Nat) (R : List Nd × Int) (w : World) (e : Ending) (w' : World) : Prop :=
  e = .returned (.int .i64 R.2) ∧ ∃ h, DgV w' dg q g h kind l k m R.1 ∧ (h = h0 ∨ w.heap.size ≤ h) ∧ ChB (DB dg q g h0) w w'
def DgNew (kind l k : Int) (m : Nat) (zs : List Nd) (w : World) (e : Ending) (w' : World) : Prop :=
  ∃ dg q g h, e = .returned (.tuple #[.pointer (some ⟨dg, 0, none⟩), .int .i64 0]) ∧ DgV w' dg q g h kind l k m zs ∧ w.heap.size ≤ dg ∧ w.heap.size ≤ q ∧ w.heap.size ≤ g ∧ w.heap.size ≤ h ∧ Below w.heap.size w w'
theorem DgV.turned {w w2 : World} {dg q g h m h' : Nat} {kind l k n : Int} {zs Z : List Nd} (d : DgV w dg q g h kind l k m zs) (c : ChB (PB q g h) w w2) (dp : PoolV w2 q g h' kind l m Z) (hh : h' = h ∨ w.heap.size ≤ h') (i : Dg l k Z) :
    DgPost dg q g h kind l k m (Z, n) w (.returned (.int .i64 n)) w2 := by
  obtain ⟨b, _, n1, n2, n3, _⟩ := d
  refine ⟨rfl, h', ⟨b.keep (c.block dg b.lt (fun hp => ?_)), dp, n1, n2, ?_, i⟩, hh, c.mono (fun _ _ hp => .inr hp)⟩
  · rcases hp with e | e | e
    · exact n1 e
    · exact n2 e
    · exact n3 e
  · have := b.lt
    rcases hh with e | e
    · rw [e]; exact n3
    · omega
section
variable {w : World} {dg q g h m : Nat} {kind l k : Int} {zs : List Nd}
theorem dg_n (d : DgV w dg q g h kind l k m zs) :
    Calls Tryz.prog 16 #[.pointer (some ⟨dg, 0, none⟩)] w fun e w' => e = .returned (.int .i64 (sumL zs)) ∧ w = w' := by
  have T := hid (pl_total d.pool)
  have c0 : w.cell? ⟨dg, 0, none⟩ = some (.int .i64 k) := d.1.cell 0
  have c1 : w.cell? ⟨dg, 1, none⟩ = some (.pointer (some ⟨q, 0, none⟩)) := d.1.cell 1
  clear d
  go_enter Tryz.func16, Tryz.ntmps16
  go_wp2_with fail
  refine T.out.mono ?_
  rintro e w' ⟨rfl, rfl⟩
  go_wp2_with fail
  go_ret
  exact ⟨rfl, rfl⟩
theorem dg_len (d : DgV w dg q g h kind l k m zs) :
    Calls Tryz.prog 61 #[.pointer (some ⟨dg, 0, none⟩)] w fun e w' => e = .returned (.int .i64 zs.length) ∧ w = w' := by
  have T := hid (pl_len d.pool)
  have c0 : w.cell? ⟨dg, 0, none⟩ = some (.int .i64 k) := d.1.cell 0
  have c1 : w.cell? ⟨dg, 1, none⟩ = some (.pointer (some ⟨q, 0, none⟩)) := d.1.cell 1
  clear d
  go_enter Tryz.func61, Tryz.ntmps61
  go_wp2_with fail
  refine T.out.mono ?_
  rintro e w' ⟨rfl, rfl⟩
  go_wp2_with fail
  go_ret
  exact ⟨rfl, rfl⟩
theorem dg_nodes (d : DgV w dg q g h kind l k m zs) (hm : m ≤ 100000) :
    Calls Tryz.prog 66 #[.pointer (some ⟨dg, 0, none⟩)] w (IsNodes zs w) := by
  have T := hid (pl_snap d.pool hm)
  have c0 : w.cell? ⟨dg, 0, none⟩ = some (.int .i64 k) := d.1.cell 0
  have c1 : w.cell? ⟨dg, 1, none⟩ = some (.pointer (some ⟨q, 0, none⟩)) := d.1.cell 1
  clear d
  go_enter Tryz.func66, Tryz.ntmps66
  go_wp2_with fail
  refine T.out.mono ?_
  rintro e w' hN
  obtain ⟨v, rfl, hr, hb⟩ := hN
  go_wp2_with fail
  go_ret
  exact ⟨v, rfl, hr, hb⟩
theorem dg_made_room (k1 : 1 ≤ k) (k2 : k ≤ 1048576) (w : World) :
    Calls Tryz.prog 62 #[.agg #[.int .i64 k]] w fun e w' => e = .returned (.int .i64 (8 * k)) ∧ Below w.heap.size w w' := by
  go_enter Tryz.func62, Tryz.ntmps62
  go_wp2_with fail
  go_ret
  exact ⟨rfl, (Below.refl _ _).alloc nlr _⟩
theorem dg_compress (d : DgV w dg q g h kind l k m zs) (hm : m ≤ 100000) (hz : zs.length + 1 ≤ m) (hz2 : zs.length ≤ 20000) :
    Calls Tryz.prog 63 #[.pointer (some ⟨dg, 0, none⟩)] w (DgPost dg q g h kind l k m ((comL l k zs).1, ((comL l k zs).2.length : Int)) w) := by
  have k1 := d.inv.k1
  have k2 := d.inv.k2
  have eK : isK k = true := by simp [isK]; omega
  have U := hid (fun n => p_Run k eK (d.keepB (w' := w.drewN n) (fun _ _ _ => rfl)).pool hm hz hz2)
  have dc := d.inv.com.1
  unfold comL at dc
  have c0 : w.cell? ⟨dg, 0, none⟩ = some (.int .i64 k) := d.1.cell 0
  have c1 : w.cell? ⟨dg, 1, none⟩ = some (.pointer (some ⟨q, 0, none⟩)) := d.1.cell 1
  unfold comL
  generalize runR l (capV (sumL zs) k) zs = R at *
  obtain ⟨Z, st⟩ := R
  simp only at dc
  have hst : Hid (((Z, st) : List Nd × List Int).2.length = st.length) := rfl
  clear eK
  go_enter Tryz.func63, Tryz.ntmps63
  go_wp2_with fail
  go_region_held3 (fun w' => w'.cell? ⟨dg, 0, none⟩ = some (.int .i64 k) ∧ w'.cell? ⟨dg, 1, none⟩ = some (.pointer (some ⟨q, 0, none⟩)))
    (first | exact ⟨c0, c1⟩ | exact ⟨z0, z1⟩)
    ((go_at_call 118; refine (U.out _).mono ?_; rintro e w2 ⟨rfl, h', dp, hh, ch⟩
      have D2 := hid (d.turned (n := (st.length : Int)) ⟨ch.os, ch.tape, ch.output, ch.size, ch.block⟩ dp hh dc)
      have b2 := d.1.keep (ch.block dg d.1.lt (fun hp => d.apart hp))
      have z0 : w2.cell? ⟨dg, 0, none⟩ = some (.int .i64 k) := b2.cell 0
      have z1 : w2.cell? ⟨dg, 1, none⟩ = some (.pointer (some ⟨q, 0, none⟩)) := b2.cell 1
      clear dp hh ch b2))
  go_wp2_with fail
  go_ret
  exact D2.out
end
end Go.Proofs.YtdnlejboijkcfaaGreatDoor
/- The walks of package digest: New, Insert, Reset, Conf. -/
namespace Go.Proofs.YtdnlejboijkcfaaGreatDoor
set_option maxHeartbeats 8000000
set_option maxRecDepth 100000
open Go.RowKit Nl
theorem PoolV.inv0 {w : World} {q g h m : Nat} {kind l k : Int} (d : PoolV w q g h kind l m []) (hk : isK k = true) : Dg l k [] := by
  simp only [isK, decide_eq_true_eq] at hk
  have r := d.roll
  exact Dg.nil r.l1 r.l2 hk.1 hk.2
theorem dg_new (kind l k : Int) (w : World) (hp : poolIs kind l = true) (hk : isK k = true) :
    Calls Tryz.prog 23 #[.agg #[.int .i64 l, .int .i64 k, .int .i64 kind]] w (DgNew kind l k 20000 [] w) := by
  have N := hid (fun W : World => pl_new kind l W hp)
  have hba : Below w.heap.size w (w.alloc (.cells #[.int .i64 l, .int .i64 k, .int .i64 kind] 24)) := (Below.refl _ _).alloc nlr _
  have X := Blk.new w #[.int .i64 l, .int .i64 k, .int .i64 kind] 24
  have hsx : (w.alloc (.cells #[.int .i64 l, .int .i64 k, .int .i64 kind] 24)).heap.size = w.heap.size + 1 := by simp
  have hk' := hk
  simp only [isK, decide_eq_true_eq] at hk'
  obtain ⟨k1, k2⟩ := hk'
  have HK := hid hk
  clear hk hp
  go_enter Tryz.func23, Tryz.ntmps23
  go_wp2_with fail
  refine (N.out _).mono ?_
  rintro e w2 ⟨q, g, h, rfl, d, hq, hg, hh, hb⟩
  have X2 := X.below hb nlr
  have x1 : w2.cell? ⟨w.heap.size, 1, none⟩ = some (.int .i64 k) := X2.cell 1
  have hs2 := hb.size
  have lt := d.lt
  have d2 := (d.mono (m' := 20000) (by omega)).below ((Below.refl w2.heap.size w2).alloc nlr (.cells #[.int .i64 k, .pointer (some ⟨q, 0, none⟩)] 99)) nlr
  have Y := Blk.new w2 #[.int .i64 k, .pointer (some ⟨q, 0, none⟩)] 99
  have hB := (hba.trans (hb.mono (by omega))).alloc (by omega) (.cells #[.int .i64 k, .pointer (some ⟨q, 0, none⟩)] 99)
  clear X2 X N
  go_wp2_with fail
  go_ret2
  exact ⟨w2.heap.size, q, g, h, rfl, ⟨Y, d2, by omega, by omega, by omega, d.inv0 HK.out⟩, by omega, by omega, by omega, by omega, hB⟩
theorem dg_new_no (kind l k : Int) (w : World) (bk : In64 k) (hp : (poolIs kind l && isK k) = false) :
    Calls Tryz.prog 23 #[.agg #[.int .i64 l, .int .i64 k, .int .i64 kind]] w fun e w' => e = .returned (.tuple #[.pointer none, .int .i64 2]) ∧ Below w.heap.size w w' := by
  have hba : Below w.heap.size w (w.alloc (.cells #[.int .i64 l, .int .i64 k, .int .i64 kind] 24)) := (Below.refl _ _).alloc nlr _
  have X := Blk.new w #[.int .i64 l, .int .i64 k, .int .i64 kind] 24
  have hsx : (w.alloc (.cells #[.int .i64 l, .int .i64 k, .int .i64 kind] 24)).heap.size = w.heap.size + 1 := by simp
  obtain ⟨bk1, bk2⟩ := bk
  cases hP : poolIs kind l
  · have N := hid (fun W : World => pl_new_no kind l W hP)
    clear hp hP
    go_enter Tryz.func23, Tryz.ntmps23
    go_wp2_with fail
    refine (N.out _).mono ?_
    rintro e w2 ⟨rfl, hb⟩
    go_wp2_with fail
    go_ret2
    exact ⟨rfl, hba.trans (hb.mono (by omega))⟩
  · have N := hid (fun W : World => pl_new kind l W hP)
    have hK : isK k = false := by rw [hP] at hp; simpa using hp
    simp only [isK, decide_eq_false_iff_not] at hK
    rcases (show k < 1 ∨ 1 ≤ k ∧ 1048576 < k by omega) with h1 | ⟨h1, h2⟩
    all_goals
      clear hp hP hK
      go_enter Tryz.func23, Tryz.ntmps23
      go_wp2_with fail
      refine (N.out _).mono ?_
      rintro e w2 ⟨q, g, h, rfl, d, hq, hg, hh, hb⟩
      have X2 := X.below hb nlr
      have x1 : w2.cell? ⟨w.heap.size, 1, none⟩ = some (.int .i64 k) := X2.cell 1
      go_wp2_with fail
      go_ret2
      exact ⟨rfl, hba.trans (hb.mono (by omega))⟩
section
variable {w : World} {dg q g h m : Nat} {kind l k : Int} {zs : List Nd}
theorem dg_conf (d : DgV w dg q g h kind l k m zs) :
    Calls Tryz.prog 65 #[.pointer (some ⟨dg, 0, none⟩)] w fun e w' => e = .returned (.agg #[.int .i64 l, .int .i64 k, .int .i64 kind]) ∧ Below w.heap.size w w' := by
  have dp := d.pool
  have L := hid (fun W (x : PoolV W q g h kind l m zs) => pl_l x)
  have Ki := hid (fun W (x : PoolV W q g h kind l m zs) => pl_kind x)
  have bd := d.1
  have hdl := bd.lt
  have hba : Below w.heap.size w (w.alloc (.cells #[.int .i64 0, .int .i64 0, .int .i64 0] 24)) := (Below.refl _ _).alloc nlr _
  have Z := Blk.new w #[.int .i64 0, .int .i64 0, .int .i64 0] 24
  have bd1 := bd.below hba nlr
  have dp1 := dp.below hba nlr
  have hs1 : (w.alloc (.cells #[.int .i64 0, .int .i64 0, .int .i64 0] 24)).heap.size = w.heap.size + 1 := by simp
  clear d dp bd
  go_enter Tryz.func65, Tryz.ntmps65
  go_wp2_with fail
  generalize (w.alloc (.cells #[.int .i64 0, .int .i64 0, .int .i64 0] 24)) = w1 at *
  have c0 : w1.cell? ⟨dg, 0, none⟩ = some (.int .i64 k) := bd1.cell 0
  have c1 : w1.cell? ⟨dg, 1, none⟩ = some (.pointer (some ⟨q, 0, none⟩)) := bd1.cell 1
  have z0 : w1.cell? ⟨w.heap.size, 0, none⟩ = some (.int .i64 0) := Z.cell 0
  have z1 : w1.cell? ⟨w.heap.size, 1, none⟩ = some (.int .i64 0) := Z.cell 1
  have z2 : w1.cell? ⟨w.heap.size, 2, none⟩ = some (.int .i64 0) := Z.cell 2
  have f0 := Z.free 0
  have f1 := Z.free 1
  have f2 := Z.free 2
  have hB0 := Below.refl w1.heap.size w1
  have hne : dg ≠ w.heap.size := by omega
  have Bd3 := ((bd1.set_other 0 (.int .i64 l) hne).set_other 1 (.int .i64 k) hne).set_other 2 (.int .i64 kind) hne
  have Z3 := ((Z.set 0 (.int .i64 l)).set 1 (.int .i64 k)).set 2 (.int .i64 kind)
  have hB3 := ((hba.setCell (p := ⟨w.heap.size, 0, none⟩) nlr (.int .i64 l)).setCell (p := ⟨w.heap.size, 1, none⟩) nlr (.int .i64 k)).setCell (p := ⟨w.heap.size, 2, none⟩) nlr (.int .i64 kind)
  have HX : Hid (∀ W, W.heap = w1.heap → PoolV W q g h kind l m zs) := fun W e => dp1.keepB (fun j _ _ => by rw [e])
  go_region_held3 (fun w' => w'.cell? ⟨dg, 0, none⟩ = some (.int .i64 k) ∧ w'.cell? ⟨dg, 1, none⟩ = some (.pointer (some ⟨q, 0, none⟩)))
    (first | exact ⟨c0, c1⟩ | exact ⟨(Bd3.drewN 1).cell 0, (Bd3.drewN 1).cell 1⟩)
    (first
      | (go_at_call 59; refine (L.out _ (HX.out _ (by rfl))).mono ?_; rintro e w5 ⟨rfl, rfl⟩)
      | (go_at_call 121; refine (Ki.out _ (HX.out _ (by rfl))).mono ?_; rintro e w5 ⟨rfl, rfl⟩))
  go_wp2_with fail
  have z30 : World.cell? _ ⟨w.heap.size, 0, none⟩ = some (.int .i64 l) := Z3.cell 0
  have z31 : World.cell? _ ⟨w.heap.size, 1, none⟩ = some (.int .i64 k) := Z3.cell 1
  have z32 : World.cell? _ ⟨w.heap.size, 2, none⟩ = some (.int .i64 kind) := Z3.cell 2
  exact bodyPost_ret (v := .agg #[.int .i64 l, .int .i64 k, .int .i64 kind]) (by simp [results, Tryz.results65, go_sem, z30, z31, z32]) rfl ⟨rfl, below_drewN hB3 1⟩
theorem DgPost.after {w1 w2 : World} {h0 h1 : Nat} {R : List Nd × Int} {e : Ending} (hh1 : h1 = h0 ∨ w.heap.size ≤ h1) (c1 : ChB (DB dg q g h0) w w1) (p : DgPost dg q g h1 kind l k m R w1 e w2) : DgPost dg q g h0 kind l k m R w e w2 := by
  obtain ⟨he, h2, d2, hh2, c2⟩ := p
  have := c1.size
  refine ⟨he, h2, d2, ?_, c1.trans c2 (fun j hj hS => ?_)⟩
  · rcases hh2 with e | e
    · rw [e]; exact hh1
    · exact .inr (by omega)
  · rcases hS with e | e | e | e
    · exact .inl e
    · exact .inr (.inl e)
    · exact .inr (.inr (.inl e))
    · rcases hh1 with f | f
      · exact .inr (.inr (.inr (e.trans f)))
      · omega
theorem dg_add (d : DgV w dg q g h kind l k m zs) (id c : Int) (hm : m ≤ 100000) (hz : zs.length + 1 ≤ m) (bi : In64 id) (bc : In64 c) (hr : rightB l id = true) (hc : 0 ≤ c) (hs : sumL zs + c ≤ 72057594037927935) (hi : Dg l k (addS zs id c)) :
    Calls Tryz.prog 64 #[.pointer (some ⟨q, 0, none⟩), .int .i64 id, .int .i64 c] w (DgPost dg q g h kind l k m (addS zs id c, 0) w) := by
  refine (pl_add m id c d.pool nlr hz hm bi bc).mono ?_
  rw [stAdd_ok d.pool.roll hr hc hs]
  rintro e w2 ⟨rfl, h', dp, hh, t⟩
  exact d.turned (n := 0) (ChB.of_tch t) dp hh hi
theorem dg_insert (d : DgV w dg q g h kind l k m zs) (x wt : Int) (hm : m ≤ 100000) (hz : zs.length + 1 ≤ m) (hz2 : zs.length ≤ 20000) (bx : In64 x) (bw : In64 wt) :
    Calls Tryz.prog 24 #[.pointer (some ⟨dg, 0, none⟩), .int .i64 x, .int .i64 wt] w (DgPost dg q g h kind l k m (dgIns l k zs x wt) w) := by
  have dp := d.pool
  have bl : In64 l := ⟨by have := dp.roll.l1; omega, by have := dp.roll.l2; omega⟩
  have L := hid (pl_l dp)
  have T := hid (pl_total dp)
  have TL := hid (t_leaf l x w bl bx)
  have hs := dp.roll.sum
  have k1 := d.inv.k1
  have k2 := d.inv.k2
  have bd := d.1
  have hdl := bd.lt
  have c0 : w.cell? ⟨dg, 0, none⟩ = some (.int .i64 k) := bd.cell 0
  have c1 : w.cell? ⟨dg, 1, none⟩ = some (.pointer (some ⟨q, 0, none⟩)) := bd.cell 1
  have SAME : ∀ n, DgPost dg q g h kind l k m (zs, n) w (.returned (.int .i64 n)) w := fun n => ⟨rfl, h, d, .inl rfl, ChB.of_below (Below.refl _ _)⟩
  obtain ⟨b1, b2⟩ := bw
  cases hx : leafB l x
  · have e : dgIns l k zs x wt = (zs, 3) := by unfold dgIns; rw [if_pos hx]
    rw [hx] at TL
    have P := hid (SAME 3)
    rw [e]
    clear e hx SAME d dp bd
    go_enter Tryz.func24, Tryz.ntmps24
    go_wp2_with fail
    refine L.out.mono ?_
    rintro e w' ⟨rfl, rfl⟩
    go_wp2_with fail
    refine TL.out.mono ?_
    rintro e w' ⟨rfl, rfl⟩
    go_wp2_with fail
    go_ret
    exact P.out
  rw [hx] at TL
  obtain ⟨lf1, lf2, lf3, lf4, -⟩ := leaf_bd hx
  by_cases h1 : wt < 1
  · have e : dgIns l k zs x wt = (zs, 4) := by unfold dgIns; rw [if_neg (by simp [hx]), if_pos h1]
    have P := hid (SAME 4)
    rw [e]
    clear e hx SAME d dp bd
    go_enter Tryz.func24, Tryz.ntmps24
    go_wp2_with fail
    refine L.out.mono ?_
    rintro e w' ⟨rfl, rfl⟩
    go_wp2_with fail
    refine TL.out.mono ?_
    rintro e w' ⟨rfl, rfl⟩
    go_wp2_with fail
    go_ret
    exact P.out
  by_cases h2 : 72057594037927935 - sumL zs < wt
  · have e : dgIns l k zs x wt = (zs, 5) := by unfold dgIns; rw [if_neg (by simp [hx]), if_neg h1, if_pos h2]
    have P := hid (SAME 5)
    rw [e]
    clear e hx SAME d dp bd
    generalize sumL zs = S at *
    go_enter Tryz.func24, Tryz.ntmps24
    go_wp2_with fail
    refine L.out.mono ?_
    rintro e w' ⟨rfl, rfl⟩
    go_wp2_with fail
    refine TL.out.mono ?_
    rintro e w' ⟨rfl, rfl⟩
    go_wp2_with fail
    refine T.out.mono ?_
    rintro e w' ⟨rfl, rfl⟩
    go_wp2_with fail
    go_ret
    exact P.out
  have e : dgIns l k zs x wt = (addS (if fullB k zs (leafV l x) then (comL l k zs).1 else zs) (leafV l x) wt, 0) := by unfold dgIns; rw [if_neg (by simp [hx]), if_neg h1, if_neg h2]
  have di := (d.inv.ins x wt).1
  rw [e] at di ⊢
  simp only at di
  have G := hid (fun W (y : PoolV W q g h kind l m zs) => pl_get (leafV l x) y hm ⟨by omega, by omega⟩)
  have LN := hid (fun W (y : DgV W dg q g h kind l k m zs) => dg_len y)
  obtain ⟨f1, f2, f3, f4, -⟩ := d.inv.com
  have RM := hid (fun W : World => dg_made_room k1 k2 W)
  have hB0 := Below.refl w.heap.size w
  have bl2 : In64 (leafV l x) := ⟨by omega, by omega⟩
  clear e SAME
  by_cases hf0 : findL (leafV l x) zs = 0
  · by_cases hfull : 8 * k ≤ (zs.length : Int)
    · have hF : fullB k zs (leafV l x) = true := by simp [fullB, hf0, hfull]
      rw [hF] at di ⊢
      simp only [if_true] at di ⊢
      rw [hf0] at G
      have CM := hid (fun W (y : DgV W dg q g h kind l k m zs) => dg_compress y hm hz hz2)
      have AD := hid (fun W h' (y : DgV W dg q g h' kind l k m (comL l k zs).1) => dg_add y (leafV l x) wt hm (by omega) bl2 ⟨b1, b2⟩ lf1 (by omega) (by rw [f2]; omega) di)
      generalize comL l k zs = C at *
      generalize leafV l x = lf at *
      generalize sumL zs = S at *
      clear hF hf0 f1 f2 f3 f4 di hx
      go_enter Tryz.func24, Tryz.ntmps24
      go_wp2_with fail
      refine L.out.mono ?_
      rintro e w' ⟨rfl, rfl⟩
      go_wp2_with fail
      refine TL.out.mono ?_
      rintro e w' ⟨rfl, rfl⟩
      go_wp2_with fail
      refine T.out.mono ?_
      rintro e w' ⟨rfl, rfl⟩
      go_wp2_with fail
      go_region_held3 (fun w' => w'.cell? ⟨dg, 0, none⟩ = some (.int .i64 k) ∧ w'.cell? ⟨dg, 1, none⟩ = some (.pointer (some ⟨q, 0, none⟩)) ∧ Below w.heap.size w w')
        (first | exact ⟨c0, c1, below_drewN hB0 1⟩ | exact ⟨(bd.below' hBn hdl).cell 0, (bd.below' hBn hdl).cell 1, hBn⟩)
        (first
          | (go_at_call 60; have hBa := (‹_ ∧ _ ∧ Below w.heap.size w _›).2.2; refine (G.out _ (dp.below hBa nlr)).mono ?_; rintro e w5 ⟨rfl, hb5⟩
             have hBn := hBa.trans (hb5.mono hBa.size))
          | (go_at_call 61; have hBn := (‹_ ∧ _ ∧ Below w.heap.size w _›).2.2; refine (LN.out _ (d.below hBn nlr)).mono ?_; rintro e w5 ⟨rfl, rfl⟩)
          | (go_at_call 62; have hBa := (‹_ ∧ _ ∧ Below w.heap.size w _›).2.2; refine (RM.out _).mono ?_; rintro e w5 ⟨rfl, hb5⟩
             have hBn := hBa.trans (hb5.mono hBa.size)))
      have d5 := d.below hBn nlr
      have CM5 := hid (CM.out _ d5)
      go_wp2_with fail
      refine CM5.out.mono ?_
      rintro e w6 ⟨rfl, h6, d6, hh6, ch6⟩
      have AD6 := hid (AD.out w6 h6 d6)
      have c06 : w6.cell? ⟨dg, 0, none⟩ = some (.int .i64 k) := d6.1.cell 0
      have c16 : w6.cell? ⟨dg, 1, none⟩ = some (.pointer (some ⟨q, 0, none⟩)) := d6.1.cell 1
      clear CM CM5 AD d5 d6 c0 c1
      go_wp2_with fail
      refine AD6.out.mono ?_
      rintro e w7 hP
      have hP2 := hP.after hh6 ch6
      have hP3 := hid (hP2.after (.inl rfl) (ChB.of_below hBn))
      obtain ⟨rfl, _⟩ := hP
      clear hP2
      go_wp2_with fail
      go_ret
      exact hP3.out
    · have hF : fullB k zs (leafV l x) = false := by simp [fullB]; omega
      rw [hF] at di ⊢
      simp only [Bool.false_eq_true, if_false] at di ⊢
      rw [hf0] at G
      have hnf : decide (8 * k ≤ (zs.length : Int)) = false := by simpa using hfull
      have AD := hid (fun W h' (y : DgV W dg q g h' kind l k m zs) => dg_add y (leafV l x) wt hm (by omega) bl2 ⟨b1, b2⟩ lf1 (by omega) (by omega) di)
      generalize leafV l x = lf at *
      generalize sumL zs = S at *
      clear hF hf0 f1 f2 f3 f4 di hx
      go_enter Tryz.func24, Tryz.ntmps24
      go_wp2_with fail
      refine L.out.mono ?_
      rintro e w' ⟨rfl, rfl⟩
      go_wp2_with fail
      refine TL.out.mono ?_
      rintro e w' ⟨rfl, rfl⟩
      go_wp2_with fail
      refine T.out.mono ?_
      rintro e w' ⟨rfl, rfl⟩
      go_wp2_with fail
      go_region_held3 (fun w' => w'.cell? ⟨dg, 0, none⟩ = some (.int .i64 k) ∧ w'.cell? ⟨dg, 1, none⟩ = some (.pointer (some ⟨q, 0, none⟩)) ∧ Below w.heap.size w w')
        (first | exact ⟨c0, c1, below_drewN hB0 1⟩ | exact ⟨(bd.below' hBn hdl).cell 0, (bd.below' hBn hdl).cell 1, hBn⟩)
        (first
          | (go_at_call 60; have hBa := (‹_ ∧ _ ∧ Below w.heap.size w _›).2.2; refine (G.out _ (dp.below hBa nlr)).mono ?_; rintro e w5 ⟨rfl, hb5⟩
             have hBn := hBa.trans (hb5.mono hBa.size))
          | (go_at_call 61; have hBn := (‹_ ∧ _ ∧ Below w.heap.size w _›).2.2; refine (LN.out _ (d.below hBn nlr)).mono ?_; rintro e w5 ⟨rfl, rfl⟩)
          | (go_at_call 62; have hBa := (‹_ ∧ _ ∧ Below w.heap.size w _›).2.2; refine (RM.out _).mono ?_; rintro e w5 ⟨rfl, hb5⟩
             have hBn := hBa.trans (hb5.mono hBa.size)))
      have d5 := d.below hBn nlr
      have AD6 := hid (AD.out _ h d5)
      have c06 : World.cell? _ ⟨dg, 0, none⟩ = some (.int .i64 k) := d5.1.cell 0
      have c16 : World.cell? _ ⟨dg, 1, none⟩ = some (.pointer (some ⟨q, 0, none⟩)) := d5.1.cell 1
      clear AD d5 c0 c1
      go_wp2_with fail
      refine AD6.out.mono ?_
      rintro e w7 hP
      have hP3 := hid (hP.after (.inl rfl) (ChB.of_below hBn))
      obtain ⟨rfl, _⟩ := hP
      go_wp2_with fail
      go_ret
      exact hP3.out
  · have hF : fullB k zs (leafV l x) = false := by simp [fullB, hf0]
    rw [hF] at di ⊢
    simp only [Bool.false_eq_true, if_false] at di ⊢
    have hfb : (findL (leafV l x) zs == 0) = false := by simpa using hf0
    have AD := hid (fun W h' (y : DgV W dg q g h' kind l k m zs) => dg_add y (leafV l x) wt hm (by omega) bl2 ⟨b1, b2⟩ lf1 (by omega) (by omega) di)
    generalize findL (leafV l x) zs = fv at *
    generalize leafV l x = lf at *
    generalize sumL zs = S at *
    clear hF hf0 f1 f2 f3 f4 di hx
    go_enter Tryz.func24, Tryz.ntmps24
    go_wp2_with fail
    refine L.out.mono ?_
    rintro e w' ⟨rfl, rfl⟩
    go_wp2_with fail
    refine TL.out.mono ?_
    rintro e w' ⟨rfl, rfl⟩
    go_wp2_with fail
    refine T.out.mono ?_
    rintro e w' ⟨rfl, rfl⟩
    go_wp2_with fail
    have hBd : Below w.heap.size w w.drew := below_drewN hB0 1
    refine wp_region_held_drew (S := fun w' => w'.cell? ⟨dg, 0, none⟩ = some (.int .i64 k) ∧ w'.cell? ⟨dg, 1, none⟩ = some (.pointer (some ⟨q, 0, none⟩)) ∧ Below w.heap.size w w') (by kernel_rfl) ⟨c0, c1, hBd⟩ (fun hHeld => ?_)
    refine wpAnyH_take (i := 0) (v := ?_) rfl (by kernel_rfl) (by kernel_rfl) (by kernel_rfl) (fun _ _ _ h => h) (Or.inl ⟨by rfl, ?_⟩) hHeld ?_
    rotate_left 1
    · intro w hSw; (try dsimp only at hSw); go_simp; first | done | with_reducible rfl
    show wpAnyH _ _ _ _ _ _ _ (Act.put _ (some 38) _) _
    try simp only [Act.put, List.setIfInBounds_toArray, List.set_cons_zero, List.set_cons_succ]
    refine wpAnyH_take (i := 1) (v := ?_) rfl (by kernel_rfl) (by kernel_rfl) (by kernel_rfl) (fun _ _ _ h => h) (Or.inl ⟨by rfl, ?_⟩) hHeld ?_
    rotate_left 1
    · intro w hSw; (try dsimp only at hSw); go_simp; first | done | with_reducible rfl
    show wpAnyH _ _ _ _ _ _ _ (Act.put _ (some 39) _) _
    try simp only [Act.put, List.setIfInBounds_toArray, List.set_cons_zero, List.set_cons_succ]
    refine wpAnyH_take (i := 2) (v := ?_) rfl (by kernel_rfl) (by kernel_rfl) (by kernel_rfl) (fun _ _ _ h => h) (Or.inl ⟨by rfl, ?_⟩) hHeld ?_
    rotate_left 1
    · intro w hSw; (try dsimp only at hSw); go_simp; first | done | with_reducible rfl
    show wpAnyH _ _ _ _ _ _ _ (Act.put _ (some 40) _) _
    try simp only [Act.put, List.setIfInBounds_toArray, List.set_cons_zero, List.set_cons_succ]
    refine wpAnyH_take (i := 3) (v := ?_) rfl (by kernel_rfl) (by kernel_rfl) (by kernel_rfl) (fun _ _ _ h => h) (Or.inl ⟨by rfl, ?_⟩) hHeld ?_
    rotate_left 1
    · intro w hSw; (try dsimp only at hSw); go_simp; first | done | with_reducible rfl
    show wpAnyH _ _ _ _ _ _ _ (Act.put _ (some 41) _) _
    try simp only [Act.put, List.setIfInBounds_toArray, List.set_cons_zero, List.set_cons_succ]
    refine wpAnyH_take (i := 4) (v := ?_) rfl (by kernel_rfl) (by kernel_rfl) (by kernel_rfl) (fun _ _ _ h => h) (Or.inl ⟨by rfl, ?_⟩) hHeld ?_
    rotate_left 1
    · intro w hSw; (try dsimp only at hSw); go_simp; first | done | with_reducible rfl
    show wpAnyH _ _ _ _ _ _ _ (Act.put _ (some 42) _) _
    try simp only [Act.put, List.setIfInBounds_toArray, List.set_cons_zero, List.set_cons_succ]
    refine wpAnyH_take (i := 5) (v := ?_) rfl (by kernel_rfl) (by kernel_rfl) (by kernel_rfl) (fun _ _ _ h => h) (Or.inl ⟨by rfl, ?_⟩) hHeld ?_
    rotate_left 1
    · intro w hSw; (try dsimp only at hSw); go_simp; first | done | with_reducible rfl
    show wpAnyH _ _ _ _ _ _ _ (Act.put _ (some 43) _) _
    try simp only [Act.put, List.setIfInBounds_toArray, List.set_cons_zero, List.set_cons_succ]
    refine wpAnyH_ready (rs := [6]) (by kernel_rfl) (by simp) ?_
    refine AllReadyH.cons rfl (fun K hK => ?_) AllReadyH.nil
    go_simp
    (go_at_call 60; have hBa := hHeld.2.2; refine (G.out _ (dp.below hBa nlr)).mono ?_; rintro e w5 ⟨rfl, hb5⟩; have hBq := hBa.trans (hb5.mono hBa.size); go_simp)
    refine hK.out _ _ ⟨(bd.below' hBq hdl).cell 0, (bd.below' hBq hdl).cell 1, hBq⟩ (fun hHeld => ?_)
    clear hK K
    try simp only [Act.put, List.setIfInBounds_toArray, List.set_cons_zero, List.set_cons_succ]
    refine wpAnyH_take (i := 7) (v := ?_) rfl (by kernel_rfl) (by kernel_rfl) (by kernel_rfl) (fun _ _ _ h => h) (Or.inl ⟨by rfl, ?_⟩) hHeld ?_
    rotate_left 1
    · intro w hSw; (try dsimp only at hSw); go_simp; first | done | with_reducible rfl
    show wpAnyH _ _ _ _ _ _ _ (Act.put _ (some 45) _) _
    try simp only [Act.put, List.setIfInBounds_toArray, List.set_cons_zero, List.set_cons_succ]
    refine wpAnyH_take (i := 8) (v := ?_) rfl (by kernel_rfl) (by kernel_rfl) (by kernel_rfl) (fun _ _ _ h => h) (Or.inl ⟨by rfl, ?_⟩) hHeld ?_
    rotate_left 1
    · intro w hSw; (try dsimp only at hSw); go_simp; first | done | with_reducible rfl
    show wpAnyH _ _ _ _ _ _ _ (Act.put _ (some 46) _) _
    try simp only [Act.put, List.setIfInBounds_toArray, List.set_cons_zero, List.set_cons_succ]
    refine wpAnyH_take (i := 9) (v := undef) rfl (by kernel_rfl) (by kernel_rfl) (by kernel_rfl) (fun _ _ _ h => h) (Or.inr ⟨by rfl, rfl⟩) hHeld ?_
    show wpAnyH _ _ _ _ _ _ _ (Act.put _ (some 47) _) _
    try simp only [Act.put, List.setIfInBounds_toArray, List.set_cons_zero, List.set_cons_succ]
    refine wpAnyH_take (i := 10) (v := undef) rfl (by kernel_rfl) (by kernel_rfl) (by kernel_rfl) (fun _ _ _ h => h) (Or.inr ⟨by rfl, rfl⟩) hHeld ?_
    show wpAnyH _ _ _ _ _ _ _ (Act.put _ (some 48) _) _
    try simp only [Act.put, List.setIfInBounds_toArray, List.set_cons_zero, List.set_cons_succ]
    refine wpAnyH_take (i := 11) (v := undef) rfl (by kernel_rfl) (by kernel_rfl) (by kernel_rfl) (fun _ _ _ h => h) (Or.inr ⟨by rfl, rfl⟩) hHeld ?_
    show wpAnyH _ _ _ _ _ _ _ (Act.put _ (some 49) _) _
    try simp only [Act.put, List.setIfInBounds_toArray, List.set_cons_zero, List.set_cons_succ]
    refine wpAnyH_take (i := 12) (v := undef) rfl (by kernel_rfl) (by kernel_rfl) (by kernel_rfl) (fun _ _ _ h => h) (Or.inr ⟨by rfl, rfl⟩) hHeld ?_
    show wpAnyH _ _ _ _ _ _ _ (Act.put _ (some 50) _) _
    try simp only [Act.put, List.setIfInBounds_toArray, List.set_cons_zero, List.set_cons_succ]
    refine wpAnyH_take (i := 13) (v := undef) rfl (by kernel_rfl) (by kernel_rfl) (by kernel_rfl) (fun _ _ _ h => h) (Or.inr ⟨by rfl, rfl⟩) hHeld ?_
    show wpAnyH _ _ _ _ _ _ _ (Act.put _ (some 51) _) _
    try simp only [Act.put, List.setIfInBounds_toArray, List.set_cons_zero, List.set_cons_succ]
    refine wpAnyH_take (i := 14) (v := undef) rfl (by kernel_rfl) (by kernel_rfl) (by kernel_rfl) (fun _ _ _ h => h) (Or.inr ⟨by rfl, rfl⟩) hHeld ?_
    show wpAnyH _ _ _ _ _ _ _ (Act.put _ (some 52) _) _
    try simp only [Act.put, List.setIfInBounds_toArray, List.set_cons_zero, List.set_cons_succ]
    refine wpAnyH_take (i := 15) (v := undef) rfl (by kernel_rfl) (by kernel_rfl) (by kernel_rfl) (fun _ _ _ h => h) (Or.inr ⟨by rfl, rfl⟩) hHeld ?_
    show wpAnyH _ _ _ _ _ _ _ (Act.put _ (some 53) _) _
    try simp only [Act.put, List.setIfInBounds_toArray, List.set_cons_zero, List.set_cons_succ]
    refine wpAnyH_take (i := 16) (v := undef) rfl (by kernel_rfl) (by kernel_rfl) (by kernel_rfl) (fun _ _ _ h => h) (Or.inr ⟨by rfl, rfl⟩) hHeld ?_
    show wpAnyH _ _ _ _ _ _ _ (Act.put _ (some 54) _) _
    try simp only [Act.put, List.setIfInBounds_toArray, List.set_cons_zero, List.set_cons_succ]
    refine wpAnyH_take (i := 17) (v := ?_) rfl (by kernel_rfl) (by kernel_rfl) (by kernel_rfl) (fun _ _ _ h => h) (Or.inl ⟨by rfl, ?_⟩) hHeld ?_
    rotate_left 1
    · intro w hSw; (try dsimp only at hSw); go_simp; first | done | with_reducible rfl
    show wpAnyH _ _ _ _ _ _ _ (Act.put _ (some 55) _) _
    try simp only [Act.put, List.setIfInBounds_toArray, List.set_cons_zero, List.set_cons_succ]
    refine wpAnyH_done (by kernel_rfl) ?_ _
    have d5 := d.below hBq nlr
    have AD6 := hid (AD.out _ h d5)
    have c06 : World.cell? _ ⟨dg, 0, none⟩ = some (.int .i64 k) := d5.1.cell 0
    have c16 : World.cell? _ ⟨dg, 1, none⟩ = some (.pointer (some ⟨q, 0, none⟩)) := d5.1.cell 1
    clear AD d5 c0 c1
    go_wp2_with fail
    refine AD6.out.mono ?_
    rintro e w7 hP
    have hP3 := hid (hP.after (.inl rfl) (ChB.of_below hBq))
    obtain ⟨rfl, _⟩ := hP
    go_wp2_with fail
    go_ret
    exact hP3.out
end
end Go.Proofs.YtdnlejboijkcfaaGreatDoor
/- The walk of PressRises. -/
namespace Go.Proofs.YtdnlejboijkcfaaGreatDoor
set_option maxHeartbeats 8000000
set_option maxRecDepth 100000
open Go.RowKit Nl
theorem Nl.roll_nb {l : Int} {zs : List Nd} (hroll : Roll l zs) : NB zs := fun x hx => by
  have h1 := hroll.ids x hx
  have h2 := hroll.strict.2 x hx
  have h3 := Pos.le_sum hroll.strict.pos x hx
  have h4 := hroll.most
  have l1 := hroll.l1
  have l2 := hroll.l2
  simp only [rightB, decide_eq_true_eq] at h1
  obtain ⟨n, rfl⟩ := Int.eq_ofNat_of_zero_le (show 0 ≤ l by omega)
  have := (pow48 (n := n) (by omega)).2
  simp only [Int.toNat_natCast] at h1
  exact ⟨⟨by omega, by omega⟩, ⟨by omega, by omega⟩⟩
end Go.Proofs.YtdnlejboijkcfaaGreatDoor
/- The walks of digest.Reset, and of the statements' Do. -/
namespace Go.Proofs.YtdnlejboijkcfaaGreatDoor
set_option maxHeartbeats 8000000
set_option maxRecDepth 100000
open Go.RowKit Nl
section
variable {w : World} {dg q g h m : Nat} {kind l k : Int} {zs : List Nd}
end
end Go.Proofs.YtdnlejboijkcfaaGreatDoor
/- The walk of the statements' alive, of layer 13. -/
namespace Go.Proofs.YtdnlejboijkcfaaGreatDoor
set_option maxHeartbeats 8000000
set_option maxRecDepth 100000
open Go.RowKit Nl
namespace Nl
end Nl
theorem ChB.of_new {S : Nat → Prop} {w w1 w2 : World} (hb : Below w.heap.size w w1) (c : ChB S w1 w2) (hS : ∀ j, S j → w.heap.size ≤ j) : Below w.heap.size w w2 :=
  hb.trans (c.below (fun j _ h => hS j h) hb.size)
end Go.Proofs.YtdnlejboijkcfaaGreatDoor
/- The walks of press.Trace, and of the reference's Run. -/
namespace Go.Proofs.YtdnlejboijkcfaaGreatDoor
set_option maxHeartbeats 8000000
set_option maxRecDepth 100000
open Go.RowKit Nl
end Go.Proofs.YtdnlejboijkcfaaGreatDoor
/- The walks of the reference's layer 13: Is, New, Weight, Cap, Compress. -/
namespace Go.Proofs.YtdnlejboijkcfaaGreatDoor
set_option maxHeartbeats 8000000
set_option maxRecDepth 100000
open Go.RowKit Nl
end Go.Proofs.YtdnlejboijkcfaaGreatDoor
/- The walks of the reference's Insert and Do, of layer 13. -/
namespace Go.Proofs.YtdnlejboijkcfaaGreatDoor
set_option maxHeartbeats 8000000
set_option maxRecDepth 100000
open Go.RowKit Nl
end Go.Proofs.YtdnlejboijkcfaaGreatDoor
