/- The walks of PlanFinds and PlanTells. -/
import Derived.Test.YtaihjcefgokjkaaPa4
import Derived.Deep.QuietTactic
import Derived.BigQuiet
import Derived.Deep.RegionHeld3
import Derived.Deep.DeepCutAuto
namespace Go.Proofs.Ytaihjcefgokjkaa
open Go.RowKit Rk

set_option maxRecDepth 100000 in
set_option maxHeartbeats 1000000 in
theorem pa_alive (w : World) : Calls Try.prog 14 #[] w fun e w' => e = .returned (.bool true) ∧ Below w.heap.size w w' := by
  have L := hid (fun W : World => pa_least 16 1 100 0 W ⟨by decide, by decide⟩ ⟨by decide, by decide⟩ ⟨by decide, by decide⟩ ⟨by decide, by decide⟩)
  have B := hid (fun W : World => pa_bytes 1600 W)
  have G := hid (fun W : World => pa_greatest 1000 W ⟨by decide, by decide⟩)
  rw [show leastV 16 1 100 = 1600 by decide, show leastE 16 1 100 = 0 by decide] at L
  rw [show bytesV 1600 = 115278 by decide, show isK 1600 = true by decide] at B
  rw [show greatV 1000 = 12 by decide, show greatE 1000 = 0 by decide] at G
  go_enter Try.func14, Try.ntmps14
  go_wp2_with fail
  refine (L.out _).mono ?_
  rintro e w2 ⟨rfl, hb2⟩
  have hs2 := hb2.size
  go_wp2_with fail
  refine (B.out _).mono ?_
  rintro e w3 ⟨rfl, rfl⟩
  go_wp2_with fail
  refine (G.out _).mono ?_
  rintro e w4 ⟨rfl, hb4⟩
  go_wp2_with fail
  go_ret
  exact ⟨rfl, hb2.trans (hb4.mono (by omega))⟩

set_option maxRecDepth 100000 in
set_option maxHeartbeats 1000000 in
theorem PlanFinds_walk (l num den b x : Int) (w : World) (bl : In64 l) (bn : In64 num) (bd : In64 den) (bb : In64 b) (bx : In64 x) :
    Calls Try.prog 3 #[.agg #[.int .i64 l, .int .i64 num, .int .i64 den, .int .i64 b], .int .i64 x] w fun e w' => e = .returned (.bool true) ∧ Below w.heap.size w w' := by
  have L := hid (fun W : World => pa_least l num den b W bl bn bd bb)
  have RL := hid (fun W : World => r_least l num den b W bl bn bd bb)
  have WW := hid (fun W : World => r_wants l num den b W)
  have G := hid (fun W : World => pa_greatest x W bx)
  have RG := hid (fun W : World => r_greatest x W bx)
  have K := hid (fun W : World => pa_k l num den b W bl bn bd bb)
  have RK := hid (fun W : World => r_k l num den b W bl bn bd bb)
  have A := hid (fun W : World => pa_alive W)
  have hbx : Below w.heap.size w (w.alloc (.cells #[.int .i64 l, .int .i64 num, .int .i64 den, .int .i64 b] 23)) := (Below.refl _ _).alloc (Nat.le_refl _) _
  have X := Blk.new w #[.int .i64 l, .int .i64 num, .int .i64 den, .int .i64 b] 23
  have hsx : (w.alloc (.cells #[.int .i64 l, .int .i64 num, .int .i64 den, .int .i64 b] 23)).heap.size = w.heap.size + 1 := by simp
  generalize leastV l num den = lv at *
  generalize leastE l num den = le at *
  generalize greatV x = gv at *
  generalize greatE x = ge at *
  generalize kV l num den b = kv at *
  generalize kE l num den b = ke at *
  go_enter Try.func3, Try.ntmps3
  go_wp2_with fail
  refine (L.out _).mono ?_
  rintro e w2 ⟨rfl, hb2⟩
  have hs2 := hb2.size
  have X2 := X.below hb2 (Nat.le_refl _)
  have x20 : w2.cell? ⟨w.heap.size, 0, none⟩ = some (.int .i64 l) := X2.cell 0
  have x21 : w2.cell? ⟨w.heap.size, 1, none⟩ = some (.int .i64 num) := X2.cell 1
  have x22 : w2.cell? ⟨w.heap.size, 2, none⟩ = some (.int .i64 den) := X2.cell 2
  have x23 : w2.cell? ⟨w.heap.size, 3, none⟩ = some (.int .i64 b) := X2.cell 3
  have hB2 := hbx.trans (hb2.mono (by omega))
  clear hb2
  go_wp2_with fail
  refine (WW.out _).mono ?_
  rintro e w3 ⟨rfl, hb3⟩
  have hs3 := hb3.size
  have X3 := X2.below hb3 (Nat.le_refl _)
  have hB3 := hB2.trans (hb3.mono (by omega))
  clear x20 x21 x22 x23 hb3 hB2
  go_wp2_with fail
  refine (RL.out _).mono ?_
  rintro e w4 ⟨rfl, hb4⟩
  have hs4 := hb4.size
  have X4 := X3.below hb4 (Nat.le_refl _)
  have hB4 := hB3.trans (hb4.mono (by omega))
  clear hb4 hB3
  go_wp2_with fail
  refine (G.out _).mono ?_
  rintro e w5 ⟨rfl, hb5⟩
  have hs5 := hb5.size
  have X5 := X4.below hb5 (Nat.le_refl _)
  have hB5 := hB4.trans (hb5.mono (by omega))
  clear hb5 hB4
  go_wp2_with fail
  refine (RG.out _).mono ?_
  rintro e w' ⟨rfl, rfl⟩
  have x50 : w5.cell? ⟨w.heap.size, 0, none⟩ = some (.int .i64 l) := X5.cell 0
  have x51 : w5.cell? ⟨w.heap.size, 1, none⟩ = some (.int .i64 num) := X5.cell 1
  have x52 : w5.cell? ⟨w.heap.size, 2, none⟩ = some (.int .i64 den) := X5.cell 2
  have x53 : w5.cell? ⟨w.heap.size, 3, none⟩ = some (.int .i64 b) := X5.cell 3
  go_wp2_with fail
  refine (K.out _).mono ?_
  rintro e w6 ⟨rfl, hb6⟩
  have hs6 := hb6.size
  have X6 := X5.below hb6 (Nat.le_refl _)
  have hB6 := hB5.trans (hb6.mono (by omega))
  have x60 : w6.cell? ⟨w.heap.size, 0, none⟩ = some (.int .i64 l) := X6.cell 0
  have x61 : w6.cell? ⟨w.heap.size, 1, none⟩ = some (.int .i64 num) := X6.cell 1
  have x62 : w6.cell? ⟨w.heap.size, 2, none⟩ = some (.int .i64 den) := X6.cell 2
  have x63 : w6.cell? ⟨w.heap.size, 3, none⟩ = some (.int .i64 b) := X6.cell 3
  clear x50 x51 x52 x53 hb6 hB5
  go_wp2_with fail
  refine (WW.out _).mono ?_
  rintro e w7 ⟨rfl, hb7⟩
  have hs7 := hb7.size
  have hB7 := hB6.trans (hb7.mono (by omega))
  clear x60 x61 x62 x63 hb7 hB6
  go_wp2_with fail
  refine (RK.out _).mono ?_
  rintro e w8 ⟨rfl, hb8⟩
  have hs8 := hb8.size
  have hB8 := hB7.trans (hb8.mono (by omega))
  have e1 : (lv == lv) = true := by simp
  have e2 : (le == le) = true := by simp
  have e3 : (gv == gv) = true := by simp
  have e4 : (ge == ge) = true := by simp
  have e5 : (kv == kv) = true := by simp
  have e6 : (ke == ke) = true := by simp
  go_wp2_with fail
  refine (A.out _).mono ?_
  rintro e w9 ⟨rfl, hb9⟩
  go_wp2_with fail
  go_ret
  exact ⟨rfl, hB8.trans (hb9.mono (by omega))⟩

set_option maxRecDepth 100000 in
set_option maxHeartbeats 2000000 in
theorem PlanTells_walk (l num den b k n : Int) (w : World) (bl : In64 l) (bn : In64 num) (bd : In64 den) (bb : In64 b) (bk : In64 k) (bm : In64 n) :
    Calls Try.prog 5 #[.agg #[.int .i64 l, .int .i64 num, .int .i64 den, .int .i64 b], .int .i64 k, .int .i64 n] w fun e w' => e = .returned (.bool true) ∧ Below w.heap.size w w' := by
  have By := hid (fun W : World => pa_bytes k W)
  have RB := hid (fun W : World => r_bytes k W)
  have Er := hid (fun W : World => pa_error l k n W bl bk bm)
  have RE := hid (fun W : World => r_error l k n W bl bk bm)
  have WW := hid (fun W : World => r_wants l num den b W)
  have Wa := hid (fun W : World => pa_want l num den b W bl bn bd bb)
  have RW := hid (fun W : World => r_want l num den b W bl bn bd bb)
  have Wi := hid (fun W : World => pa_within l num den b k n W bl bn bd bb bk bm)
  have RWi := hid (fun W : World => r_within l num den b k n W bl bn bd bb bk bm)
  have A := hid (fun W : World => pa_alive W)
  have hbx : Below w.heap.size w (w.alloc (.cells #[.int .i64 l, .int .i64 num, .int .i64 den, .int .i64 b] 23)) := (Below.refl _ _).alloc (Nat.le_refl _) _
  have X := Blk.new w #[.int .i64 l, .int .i64 num, .int .i64 den, .int .i64 b] 23
  have hsx : (w.alloc (.cells #[.int .i64 l, .int .i64 num, .int .i64 den, .int .i64 b] 23)).heap.size = w.heap.size + 1 := by simp
  generalize bytesV k = bv at *
  generalize isK k = ik at *
  generalize errV l k n = ev at *
  generalize errOk l k n = eo at *
  generalize wantB l num den = wb at *
  generalize withinB l num den k n = wi at *
  go_enter Try.func5, Try.ntmps5
  go_wp2_with fail
  refine (By.out _).mono ?_
  rintro e w2 ⟨rfl, rfl⟩
  go_wp2_with fail
  refine (RB.out _).mono ?_
  rintro e w2 ⟨rfl, rfl⟩
  go_wp2_with fail
  refine (Er.out _).mono ?_
  rintro e w2 ⟨rfl, rfl⟩
  go_wp2_with fail
  refine (RE.out _).mono ?_
  rintro e w2 ⟨rfl, rfl⟩
  go_wp2_with fail
  generalize (w.alloc (.cells #[.int .i64 l, .int .i64 num, .int .i64 den, .int .i64 b] 23)) = w1 at *
  have x0 : w1.cell? ⟨w.heap.size, 0, none⟩ = some (.int .i64 l) := X.cell 0
  have x1 : w1.cell? ⟨w.heap.size, 1, none⟩ = some (.int .i64 num) := X.cell 1
  have x2 : w1.cell? ⟨w.heap.size, 2, none⟩ = some (.int .i64 den) := X.cell 2
  have x3 : w1.cell? ⟨w.heap.size, 3, none⟩ = some (.int .i64 b) := X.cell 3
  have hB0 := Below.refl w1.heap.size w1
  have hXl := X.lt
  have e1 : (bv == bv) = true := by simp
  have e2 : (ik == ik) = true := by simp
  have e3 : (ev == ev) = true := by simp
  have e4 : (eo == eo) = true := by simp
  have e5 : (wb == wb) = true := by simp
  have e6 : (wi == wi) = true := by simp
  have KP : ∀ W, Below w1.heap.size w1 W → W.cell? ⟨w.heap.size, 0, none⟩ = some (.int .i64 l) ∧ W.cell? ⟨w.heap.size, 1, none⟩ = some (.int .i64 num) ∧ W.cell? ⟨w.heap.size, 2, none⟩ = some (.int .i64 den) ∧ W.cell? ⟨w.heap.size, 3, none⟩ = some (.int .i64 b) ∧ Below w1.heap.size w1 W := fun W hb => by
    have Y := X.below hb (Nat.le_refl _)
    exact ⟨Y.cell 0, Y.cell 1, Y.cell 2, Y.cell 3, hb⟩
  have KP' := hid KP
  clear KP
  go_region_held3 (fun w' => w'.cell? ⟨w.heap.size, 0, none⟩ = some (.int .i64 l) ∧ w'.cell? ⟨w.heap.size, 1, none⟩ = some (.int .i64 num) ∧ w'.cell? ⟨w.heap.size, 2, none⟩ = some (.int .i64 den) ∧ w'.cell? ⟨w.heap.size, 3, none⟩ = some (.int .i64 b) ∧ Below w1.heap.size w1 w')
    (first
      | exact ⟨x0, x1, x2, x3, below_drewN hB0 1⟩
      | exact KP'.out _ hBn)
    (first
      | (go_at_call 21; have hBa := (‹_ ∧ _ ∧ _ ∧ _ ∧ Below w1.heap.size w1 _›).2.2.2.2; refine (Wa.out _).mono ?_; rintro e w5 ⟨rfl, hb5⟩
         have hBn := hBa.trans (hb5.mono hBa.size))
      | (go_at_call 22; have hBa := (‹_ ∧ _ ∧ _ ∧ _ ∧ Below w1.heap.size w1 _›).2.2.2.2; refine (RW.out _).mono ?_; rintro e w5 ⟨rfl, hb5⟩
         have hBn := hBa.trans (hb5.mono hBa.size))
      | (go_at_call 9; have hBa := (‹_ ∧ _ ∧ _ ∧ _ ∧ Below w1.heap.size w1 _›).2.2.2.2; refine (WW.out _).mono ?_; rintro e w5 ⟨rfl, hb5⟩
         have hBn := hBa.trans (hb5.mono hBa.size))
      | (go_at_call 23; have hBa := (‹_ ∧ _ ∧ _ ∧ _ ∧ Below w1.heap.size w1 _›).2.2.2.2; refine (Wi.out _).mono ?_; rintro e w5 ⟨rfl, hb5⟩
         have hBn := hBa.trans (hb5.mono hBa.size))
      | (go_at_call 24; have hBa := (‹_ ∧ _ ∧ _ ∧ _ ∧ Below w1.heap.size w1 _›).2.2.2.2; refine (RWi.out _).mono ?_; rintro e w5 ⟨rfl, hb5⟩
         have hBn := hBa.trans (hb5.mono hBa.size))
      | (go_at_call 14; have hBa := (‹_ ∧ _ ∧ _ ∧ _ ∧ Below w1.heap.size w1 _›).2.2.2.2; refine (A.out _).mono ?_; rintro e w5 ⟨rfl, hb5⟩
         have hBn := hBa.trans (hb5.mono hBa.size)))
  go_wp2_with fail
  go_ret
  exact ⟨rfl, hbx.trans (hBn.mono (by omega))⟩
end Go.Proofs.Ytaihjcefgokjkaa
