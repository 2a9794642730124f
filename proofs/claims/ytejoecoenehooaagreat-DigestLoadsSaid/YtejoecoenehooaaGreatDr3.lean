/- The walks of the statements' like and Few, and of DigestPlays. -/
import Derived.Test.YtejoecoenehooaaGreatDr2
import Derived.Test.YtejoecoenehooaaGreatOpenDop
import Derived.Laws.StructEq
import Derived.Deep.LoopGhost
namespace Go.Proofs.YtejoecoenehooaaGreat
open Go.RowKit Nl

set_option maxRecDepth 100000 in
set_option maxHeartbeats 4000000 in
theorem d_like {w : World} {dg q g h m : Nat} {kind l k : Int} {zs : List Nd} {v : Value} (d : DgV w dg q g h kind l k m zs) (hm : m ≤ 100000) (hr : RdN w v zs) (hl : zs.length ≤ 2000) :
    Calls Tryz.prog 23 #[.pointer (some ⟨dg, 0, none⟩), .agg #[.int .i64 l, .int .i64 k, .int .i64 kind], .agg #[.int .i64 k, .int .i64 l, v]] w fun e w' => e = .returned (.bool true) ∧ Below w.heap.size w w' := by
  obtain ⟨p, cap, rfl⟩ := hr.val
  have hroll := d.inv.roll
  have k1 := d.inv.k1
  have k2 := d.inv.k2
  have hsum := hroll.sum
  have CF := hid (fun W (y : DgV W dg q g h kind l k m zs) => dg_conf y)
  have NN := hid (fun W (y : DgV W dg q g h kind l k m zs) => dg_n y)
  have LN := hid (fun W (y : DgV W dg q g h kind l k m zs) => dg_len y)
  have CP := hid (fun W (y : DgV W dg q g h kind l k m zs) => dg_cap y)
  have RM := hid (fun W (y : DgV W dg q g h kind l k m zs) => dg_room y)
  have NO := hid (fun W (y : DgV W dg q g h kind l k m zs) => dg_nodes y hm)
  have WT := hid (fun W (y : RdN W (.slice p zs.length cap) zs) => r_dweight k y (by omega) hroll)
  have RC := hid (fun W (y : RdN W (.slice p zs.length cap) zs) => r_dcap k y (by omega) hroll k1 k2)
  have SM0 := fun W va (x : RdN W va zs) (y : RdN W (.slice p zs.length cap) zs) => r_same W x y (by omega) (by omega)
  simp only [decide_true] at SM0
  have SM := hid SM0
  have X := (Blk.new w #[.int .i64 l, .int .i64 k, .int .i64 kind] 44).alloc (.cells #[.int .i64 k, .int .i64 l, .slice p zs.length cap] 52)
  have Y := Blk.new (w.alloc (.cells #[.int .i64 l, .int .i64 k, .int .i64 kind] 44)) #[.int .i64 k, .int .i64 l, .slice p zs.length cap] 52
  rw [World.size_alloc] at Y
  have hb0 : Below w.heap.size w ((w.alloc (.cells #[.int .i64 l, .int .i64 k, .int .i64 kind] 44)).alloc (.cells #[.int .i64 k, .int .i64 l, .slice p zs.length cap] 52)) := ((Below.refl _ _).alloc (Nat.le_refl _) _).alloc (by simp) _
  have hsz : ((w.alloc (.cells #[.int .i64 l, .int .i64 k, .int .i64 kind] 44)).alloc (.cells #[.int .i64 k, .int .i64 l, .slice p zs.length cap] 52)).heap.size = w.heap.size + 2 := by simp
  have d1 := d.below hb0 (Nat.le_refl _)
  have hr1 := hr.below hb0 (Nat.le_refl _)
  have wk : IntKind.i64.wrap (8 * k) = 8 * k := IntWalk.i64_in _ ⟨by omega, by omega⟩
  have WK := hid wk
  generalize capV (sumL zs) k = C at *
  generalize sumL zs = S at *
  clear wk SM0 hroll d
  go_enter Tryz.func23, Tryz.ntmps23
  go_wp2_with fail
  generalize ((w.alloc (.cells #[.int .i64 l, .int .i64 k, .int .i64 kind] 44)).alloc (.cells #[.int .i64 k, .int .i64 l, .slice p zs.length cap] 52)) = w1 at *
  have FX := hid (fun W (hb : Below w1.heap.size w1 W) => show W.cell? ⟨w.heap.size, 0, none⟩ = some (.int .i64 l) ∧ W.cell? ⟨w.heap.size, 1, none⟩ = some (.int .i64 k) ∧ W.cell? ⟨w.heap.size, 2, none⟩ = some (.int .i64 kind) ∧ W.cell? ⟨w.heap.size + 1, 0, none⟩ = some (.int .i64 k) ∧ W.cell? ⟨w.heap.size + 1, 1, none⟩ = some (.int .i64 l) ∧ W.cell? ⟨w.heap.size + 1, 2, none⟩ = some (.slice p zs.length cap) ∧ Below w1.heap.size w1 W from
    ⟨(X.below hb (Nat.le_refl _)).cell 0, (X.below hb (Nat.le_refl _)).cell 1, (X.below hb (Nat.le_refl _)).cell 2, (Y.below hb (Nat.le_refl _)).cell 0, (Y.below hb (Nat.le_refl _)).cell 1, (Y.below hb (Nat.le_refl _)).cell 2, hb⟩)
  have hB0 := Below.refl w1.heap.size w1
  have e1 : (S == S) = true := by simp
  have e2 : (C == C) = true := by simp
  have e3 : ((zs.length : Int) == (zs.length : Int)) = true := by simp
  have e4 : (8 * k == 8 * k) = true := by simp
  have wk := WK.out
  go_region_held3 (fun w' => w'.cell? ⟨w.heap.size, 0, none⟩ = some (.int .i64 l) ∧ w'.cell? ⟨w.heap.size, 1, none⟩ = some (.int .i64 k) ∧ w'.cell? ⟨w.heap.size, 2, none⟩ = some (.int .i64 kind) ∧ w'.cell? ⟨w.heap.size + 1, 0, none⟩ = some (.int .i64 k) ∧ w'.cell? ⟨w.heap.size + 1, 1, none⟩ = some (.int .i64 l) ∧ w'.cell? ⟨w.heap.size + 1, 2, none⟩ = some (.slice p zs.length cap) ∧ Below w1.heap.size w1 w')
    (first
      | exact FX.out _ (below_drewN hB0 1)
      | exact FX.out _ hBn)
    (first
      | (go_at_call 53; have hBa := (‹_ ∧ _ ∧ _ ∧ _ ∧ _ ∧ _ ∧ Below w1.heap.size w1 _›).2.2.2.2.2.2; refine (CF.out _ (d1.below hBa (Nat.le_refl _))).mono ?_; rintro e w6 ⟨rfl, hb6⟩
         have hBn := hBa.trans (hb6.mono hBa.size))
      | (go_at_call 47; have hBn := (‹_ ∧ _ ∧ _ ∧ _ ∧ _ ∧ _ ∧ Below w1.heap.size w1 _›).2.2.2.2.2.2; refine (NN.out _ (d1.below hBn (Nat.le_refl _))).mono ?_; rintro e w6 ⟨rfl, rfl⟩)
      | (go_at_call 45; have hBn := (‹_ ∧ _ ∧ _ ∧ _ ∧ _ ∧ _ ∧ Below w1.heap.size w1 _›).2.2.2.2.2.2; refine (LN.out _ (d1.below hBn (Nat.le_refl _))).mono ?_; rintro e w6 ⟨rfl, rfl⟩)
      | (go_at_call 55; have hBa := (‹_ ∧ _ ∧ _ ∧ _ ∧ _ ∧ _ ∧ Below w1.heap.size w1 _›).2.2.2.2.2.2; refine (CP.out _ (d1.below hBa (Nat.le_refl _))).mono ?_; rintro e w6 ⟨rfl, hb6⟩
         have hBn := hBa.trans (hb6.mono hBa.size))
      | (go_at_call 46; have hBa := (‹_ ∧ _ ∧ _ ∧ _ ∧ _ ∧ _ ∧ Below w1.heap.size w1 _›).2.2.2.2.2.2; refine (RM.out _ (d1.below hBa (Nat.le_refl _))).mono ?_; rintro e w6 ⟨rfl, hb6⟩
         have hBn := hBa.trans (hb6.mono hBa.size))
      | (go_at_call 49; have hBa := (‹_ ∧ _ ∧ _ ∧ _ ∧ _ ∧ _ ∧ Below w1.heap.size w1 _›).2.2.2.2.2.2; refine (NO.out _ (d1.below hBa (Nat.le_refl _))).mono ?_; rintro e w6 hN; obtain ⟨v6, rfl, own6, hb6⟩ := hN; obtain ⟨p6, c6, rfl⟩ := own6.val
         have hr6 := own6.rd
         have hBn := hBa.trans (hb6.mono hBa.size))
      | (go_at_call 54; have hBa := (‹_ ∧ _ ∧ _ ∧ _ ∧ _ ∧ _ ∧ Below w1.heap.size w1 _›).2.2.2.2.2.2; refine (WT.out _ (hr1.below hBa (Nat.le_refl _))).mono ?_; rintro e w6 ⟨rfl, hb6⟩
         have hBn := hBa.trans (hb6.mono hBa.size))
      | (go_at_call 56; have hBa := (‹_ ∧ _ ∧ _ ∧ _ ∧ _ ∧ _ ∧ Below w1.heap.size w1 _›).2.2.2.2.2.2; refine (RC.out _ (hr1.below hBa (Nat.le_refl _))).mono ?_; rintro e w6 ⟨rfl, hb6⟩
         have hBn := hBa.trans (hb6.mono hBa.size))
      | (go_at_call 10; have hBa := (‹_ ∧ _ ∧ _ ∧ _ ∧ _ ∧ _ ∧ Below w1.heap.size w1 _›).2.2.2.2.2.2; refine (SM.out _ _ (by assumption) (hr1.below hBa (Nat.le_refl _))).mono ?_; rintro e w6 ⟨rfl, n6, e6⟩
         have hBn : Below w1.heap.size w1 w6 := by rw [e6]; exact below_drewN hBa n6
         clear e6))
  go_wp2_with fail
  go_ret
  exact ⟨rfl, hb0.trans (hBn.mono (by omega))⟩
end Go.Proofs.YtejoecoenehooaaGreat
