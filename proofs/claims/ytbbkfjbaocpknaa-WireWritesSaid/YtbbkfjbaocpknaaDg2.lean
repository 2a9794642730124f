/- The walks of package digest: New, Insert, Reset, Conf. -/
import Derived.Test.YtbbkfjbaocpknaaDg1
namespace Go.Proofs.Ytbbkfjbaocpknaa
open Go.RowKit Nl

theorem PoolV.inv0 {w : World} {q g h m : Nat} {kind l k : Int} (d : PoolV w q g h kind l m []) (hk : isK k = true) : Dg l k [] := by
  simp only [isK, decide_eq_true_eq] at hk
  have r := d.roll
  exact Dg.nil r.l1 r.l2 hk.1 hk.2

set_option maxRecDepth 100000 in
set_option maxHeartbeats 1000000 in
theorem dg_new (kind l k : Int) (w : World) (hp : poolIs kind l = true) (hk : isK k = true) :
    Calls Try.prog 65 #[.agg #[.int .i64 l, .int .i64 k, .int .i64 kind]] w (DgNew kind l k 2000 [] w) := by
  have N := hid (fun W : World => pl_new kind l W hp)
  have hba : Below w.heap.size w (w.alloc (.cells #[.int .i64 l, .int .i64 k, .int .i64 kind] 46)) := (Below.refl _ _).alloc (Nat.le_refl _) _
  have X := Blk.new w #[.int .i64 l, .int .i64 k, .int .i64 kind] 46
  have hsx : (w.alloc (.cells #[.int .i64 l, .int .i64 k, .int .i64 kind] 46)).heap.size = w.heap.size + 1 := by simp
  have hk' := hk
  simp only [isK, decide_eq_true_eq] at hk'
  obtain ⟨k1, k2⟩ := hk'
  have HK := hid hk
  clear hk hp
  go_enter Try.func65, Try.ntmps65
  go_wp2_with fail
  refine (N.out _).mono ?_
  rintro e w2 ⟨q, g, h, rfl, d, hq, hg, hh, hb⟩
  have X2 := X.below hb (Nat.le_refl _)
  have x1 : w2.cell? ⟨w.heap.size, 1, none⟩ = some (.int .i64 k) := X2.cell 1
  have hs2 := hb.size
  have lt := d.lt
  have d2 := (d.mono (m' := 2000) (by omega)).below ((Below.refl w2.heap.size w2).alloc (Nat.le_refl _) (.cells #[.int .i64 k, .pointer (some ⟨q, 0, none⟩)] 92)) (Nat.le_refl _)
  have Y := Blk.new w2 #[.int .i64 k, .pointer (some ⟨q, 0, none⟩)] 92
  have hB := (hba.trans (hb.mono (by omega))).alloc (by omega) (.cells #[.int .i64 k, .pointer (some ⟨q, 0, none⟩)] 92)
  clear X2 X N
  go_wp2_with fail
  go_ret2
  exact ⟨w2.heap.size, q, g, h, rfl, ⟨Y, d2, by omega, by omega, by omega, d.inv0 HK.out⟩, by omega, by omega, by omega, by omega, hB⟩
set_option maxRecDepth 100000 in
set_option maxHeartbeats 1000000 in
theorem dg_new_no (kind l k : Int) (w : World) (bk : In64 k) (hp : (poolIs kind l && isK k) = false) :
    Calls Try.prog 65 #[.agg #[.int .i64 l, .int .i64 k, .int .i64 kind]] w fun e w' => e = .returned (.tuple #[.pointer none, .int .i64 2]) ∧ Below w.heap.size w w' := by
  have hba : Below w.heap.size w (w.alloc (.cells #[.int .i64 l, .int .i64 k, .int .i64 kind] 46)) := (Below.refl _ _).alloc (Nat.le_refl _) _
  have X := Blk.new w #[.int .i64 l, .int .i64 k, .int .i64 kind] 46
  have hsx : (w.alloc (.cells #[.int .i64 l, .int .i64 k, .int .i64 kind] 46)).heap.size = w.heap.size + 1 := by simp
  obtain ⟨bk1, bk2⟩ := bk
  cases hP : poolIs kind l
  · have N := hid (fun W : World => pl_new_no kind l W hP)
    clear hp hP
    go_enter Try.func65, Try.ntmps65
    go_wp2_with fail
    refine (N.out _).mono ?_
    rintro e w2 ⟨rfl, hb⟩
    go_wp2_with fail
    go_ret2
    exact ⟨rfl, hba.trans (hb.mono (by omega))⟩
  · have N := hid (fun W : World => pl_new kind l W hP)
    have hK : isK k = false := by rw [hP] at hp; simpa using hp
    simp only [isK, decide_eq_false_iff_not] at hK
    rcases (show k < 1 ∨ 1 ≤ k ∧ 1048576 < k by omega) with h1 | ⟨h1, h2⟩
    all_goals
      clear hp hP hK
      go_enter Try.func65, Try.ntmps65
      go_wp2_with fail
      refine (N.out _).mono ?_
      rintro e w2 ⟨q, g, h, rfl, d, hq, hg, hh, hb⟩
      have X2 := X.below hb (Nat.le_refl _)
      have x1 : w2.cell? ⟨w.heap.size, 1, none⟩ = some (.int .i64 k) := X2.cell 1
      go_wp2_with fail
      go_ret2
      exact ⟨rfl, hba.trans (hb.mono (by omega))⟩

section
variable {w : World} {dg q g h m : Nat} {kind l k : Int} {zs : List Nd}
set_option maxRecDepth 100000 in
set_option maxHeartbeats 1000000 in
theorem dg_conf (d : DgV w dg q g h kind l k m zs) :
    Calls Try.prog 32 #[.pointer (some ⟨dg, 0, none⟩)] w fun e w' => e = .returned (.agg #[.int .i64 l, .int .i64 k, .int .i64 kind]) ∧ Below w.heap.size w w' := by
  have dp := d.pool
  have L := hid (fun W (x : PoolV W q g h kind l m zs) => pl_l x)
  have Ki := hid (fun W (x : PoolV W q g h kind l m zs) => pl_kind x)
  have bd := d.1
  have hdl := bd.lt
  have hba : Below w.heap.size w (w.alloc (.cells #[.int .i64 0, .int .i64 0, .int .i64 0] 46)) := (Below.refl _ _).alloc (Nat.le_refl _) _
  have Z := Blk.new w #[.int .i64 0, .int .i64 0, .int .i64 0] 46
  have bd1 := bd.below hba (Nat.le_refl _)
  have dp1 := dp.below hba (Nat.le_refl _)
  have hs1 : (w.alloc (.cells #[.int .i64 0, .int .i64 0, .int .i64 0] 46)).heap.size = w.heap.size + 1 := by simp
  clear d dp bd
  go_enter Try.func32, Try.ntmps32
  go_wp2_with fail
  generalize (w.alloc (.cells #[.int .i64 0, .int .i64 0, .int .i64 0] 46)) = w1 at *
  have c0 : w1.cell? ⟨dg, 0, none⟩ = some (.int .i64 k) := bd1.cell 0
  have c1 : w1.cell? ⟨dg, 1, none⟩ = some (.pointer (some ⟨q, 0, none⟩)) := bd1.cell 1
  have z0 : w1.cell? ⟨w.heap.size, 0, none⟩ = some (.int .i64 0) := Z.cell 0
  have z1 : w1.cell? ⟨w.heap.size, 1, none⟩ = some (.int .i64 0) := Z.cell 1
  have z2 : w1.cell? ⟨w.heap.size, 2, none⟩ = some (.int .i64 0) := Z.cell 2
  have f0 := Z.free 0
  have f1 := Z.free 1
  have f2 := Z.free 2
  have hB0 := Below.refl w1.heap.size w1
  have hne : dg ≠ w.heap.size := by omega
  have Bd3 := ((bd1.set_other 0 (.int .i64 l) hne).set_other 1 (.int .i64 k) hne).set_other 2 (.int .i64 kind) hne
  have Z3 := ((Z.set 0 (.int .i64 l)).set 1 (.int .i64 k)).set 2 (.int .i64 kind)
  have hB3 := ((hba.setCell (p := ⟨w.heap.size, 0, none⟩) (Nat.le_refl _) (.int .i64 l)).setCell (p := ⟨w.heap.size, 1, none⟩) (Nat.le_refl _) (.int .i64 k)).setCell (p := ⟨w.heap.size, 2, none⟩) (Nat.le_refl _) (.int .i64 kind)
  have HX : Hid (∀ W, W.heap = w1.heap → PoolV W q g h kind l m zs) := fun W e => dp1.keepB (fun j _ _ => by rw [e])
  go_region_held3 (fun w' => w'.cell? ⟨dg, 0, none⟩ = some (.int .i64 k) ∧ w'.cell? ⟨dg, 1, none⟩ = some (.pointer (some ⟨q, 0, none⟩)))
    (first | exact ⟨c0, c1⟩ | exact ⟨(Bd3.drewN 1).cell 0, (Bd3.drewN 1).cell 1⟩)
    (first
      | (go_at_call 58; refine (L.out _ (HX.out _ (by rfl))).mono ?_; rintro e w5 ⟨rfl, rfl⟩)
      | (go_at_call 59; refine (Ki.out _ (HX.out _ (by rfl))).mono ?_; rintro e w5 ⟨rfl, rfl⟩))
  go_wp2_with fail
  have z30 : World.cell? _ ⟨w.heap.size, 0, none⟩ = some (.int .i64 l) := Z3.cell 0
  have z31 : World.cell? _ ⟨w.heap.size, 1, none⟩ = some (.int .i64 k) := Z3.cell 1
  have z32 : World.cell? _ ⟨w.heap.size, 2, none⟩ = some (.int .i64 kind) := Z3.cell 2
  exact bodyPost_ret (v := .agg #[.int .i64 l, .int .i64 k, .int .i64 kind]) (by simp [results, Try.results32, go_sem, z30, z31, z32]) rfl ⟨rfl, below_drewN hB3 1⟩
theorem DgPost.after {w1 w2 : World} {h0 h1 : Nat} {R : List Nd × Int} {e : Ending} (hh1 : h1 = h0 ∨ w.heap.size ≤ h1) (c1 : ChB (DB dg q g h0) w w1) (p : DgPost dg q g h1 kind l k m R w1 e w2) : DgPost dg q g h0 kind l k m R w e w2 := by
  obtain ⟨he, h2, d2, hh2, c2⟩ := p
  have := c1.size
  refine ⟨he, h2, d2, ?_, c1.trans c2 (fun j hj hS => ?_)⟩
  · rcases hh2 with e | e
    · rw [e]; exact hh1
    · exact .inr (by omega)
  · rcases hS with e | e | e | e
    · exact .inl e
    · exact .inr (.inl e)
    · exact .inr (.inr (.inl e))
    · rcases hh1 with f | f
      · exact .inr (.inr (.inr (e.trans f)))
      · omega
/-- The pool's Add, at a digest. -/
theorem dg_add (d : DgV w dg q g h kind l k m zs) (id c : Int) (hm : m ≤ 100000) (hz : zs.length + 1 ≤ m) (bi : In64 id) (bc : In64 c) (hr : rightB l id = true) (hc : 0 ≤ c) (hs : sumL zs + c ≤ 72057594037927935) (hi : Dg l k (addS zs id c)) :
    Calls Try.prog 107 #[.pointer (some ⟨q, 0, none⟩), .int .i64 id, .int .i64 c] w (DgPost dg q g h kind l k m (addS zs id c, 0) w) := by
  refine (pl_add m id c d.pool (Nat.le_refl _) hz hm bi bc).mono ?_
  rw [stAdd_ok d.pool.roll hr hc hs]
  rintro e w2 ⟨rfl, h', dp, hh, t⟩
  exact d.turned (n := 0) (ChB.of_tch t) dp hh hi

end
end Go.Proofs.Ytbbkfjbaocpknaa
