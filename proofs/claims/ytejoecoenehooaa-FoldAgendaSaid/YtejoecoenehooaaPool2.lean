/- The walks of package pool: New, Clone; a pool that is nil. -/
import Derived.Test.YtejoecoenehooaaPool1
namespace Go.Proofs.Ytejoecoenehooaa
open Go.RowKit Nl

theorem snap_zeros (k n : Nat) : snapF k (List.replicate n (0 : Int)) = [] := by
  induction n generalizing k with
  | zero => rfl
  | succ n ih => simp [List.replicate_succ, snapF, ih]
theorem snapP_zeros : snapP (List.replicate 8 ((0 : Int), (0 : Int))) = [] := by decide

set_option maxRecDepth 100000 in
set_option maxHeartbeats 1000000 in
theorem pl_new (kind l : Int) (w : World) (hk : poolIs kind l = true) :
    Calls Try.prog 75 #[.int .i64 kind, .int .i64 l] w (PoolNew kind l 0 [] w) := by
  simp only [poolIs, decide_eq_true_eq] at hk
  rcases hk with ⟨rfl, hl1, hl2⟩ | ⟨rfl, hl1, hl2⟩
  · have N := fun W : World => hid (d_new l W hl1 hl2)
    have hba : Below w.heap.size w (w.alloc (.cells #[.pointer none, .pointer none] 122)) := (Below.refl _ _).alloc (Nat.le_refl _) _
    go_enter Try.func75, Try.ntmps75
    go_wp2_with fail
    refine (N _).out.mono ?_
    rintro e w1 ⟨g, h, rfl, d, hg, hh, hb1⟩
    have X := (Blk.new w #[.pointer none, .pointer none] 122).below hb1 (Nat.le_refl _)
    have hs1 := hb1.size
    simp only [World.size_alloc] at hs1 hg hh
    have f0 := X.free 0
    have x0 : w1.cell? ⟨w.heap.size, 0, none⟩ = some (.pointer none) := X.cell 0
    go_wp2_with fail
    go_ret2
    refine ⟨w.heap.size, g, h, rfl, .inl ⟨rfl, ?_, by omega, by omega, _, d.tch (Tch.set1 (g := w.heap.size) (h := w.heap.size) w1 0 _) (by omega) (by omega) (by omega) (by omega), (snap_zeros _ _).symm⟩, Nat.le_refl _, by omega, by omega, (hba.trans (hb1.mono (by simp))).trans ((Below.refl _ _).setCell (p := ⟨w.heap.size, 0, none⟩) (Nat.le_refl _) _)⟩
    have X2 := X.set 0 (.pointer (some ⟨g, 0, none⟩))
    simpa using X2
  · have N := fun W : World => hid (p_new l W hl1 hl2)
    have hba : Below w.heap.size w (w.alloc (.cells #[.pointer none, .pointer none] 122)) := (Below.refl _ _).alloc (Nat.le_refl _) _
    go_enter Try.func75, Try.ntmps75
    go_wp2_with fail
    refine (N _).out.mono ?_
    rintro e w1 ⟨g, h, rfl, d, hg, hh, hb1⟩
    have X := (Blk.new w #[.pointer none, .pointer none] 122).below hb1 (Nat.le_refl _)
    have hs1 := hb1.size
    simp only [World.size_alloc] at hs1 hg hh
    have f0 := X.free 1
    have x0 : w1.cell? ⟨w.heap.size, 1, none⟩ = some (.pointer none) := X.cell 1
    go_wp2_with fail
    go_ret2
    refine ⟨w.heap.size, g, h, rfl, .inr ⟨rfl, ?_, by omega, by omega, _, _, d.tch (Tch.set1 (g := w.heap.size) (h := w.heap.size) w1 1 _) (by omega) (by omega) (by omega) (by omega), Lim.new, Nat.le_refl _, snapP_zeros.symm⟩, Nat.le_refl _, by omega, by omega, (hba.trans (hb1.mono (by simp))).trans ((Below.refl _ _).setCell (p := ⟨w.heap.size, 1, none⟩) (Nat.le_refl _) _)⟩
    have X2 := X.set 1 (.pointer (some ⟨g, 0, none⟩))
    simpa using X2

set_option maxRecDepth 100000 in
set_option maxHeartbeats 1000000 in
theorem pl_new_no (kind l : Int) (w : World) (hk : poolIs kind l = false) :
    Calls Try.prog 75 #[.int .i64 kind, .int .i64 l] w fun e w' => e = .returned (.tuple #[.pointer none, .int .i64 2]) ∧ Below w.heap.size w w' := by
  simp only [poolIs, decide_eq_false_iff_not] at hk
  have hba : Below w.heap.size w (w.alloc (.cells #[.pointer none, .pointer none] 122)) := (Below.refl _ _).alloc (Nat.le_refl _) _
  by_cases h1 : kind = 1
  · subst h1
    have N := fun W : World => hid (d_new_no l W (by omega))
    clear hk
    go_enter Try.func75, Try.ntmps75
    go_wp2_with fail
    refine (N _).out.mono ?_
    rintro e w1 ⟨rfl, rfl⟩
    go_wp2_with fail
    go_ret2
    exact ⟨rfl, hba⟩
  · by_cases h2 : kind = 2
    · subst h2
      have N := fun W : World => hid (p_new_no l W (by omega))
      clear hk h1
      go_enter Try.func75, Try.ntmps75
      go_wp2_with fail
      refine (N _).out.mono ?_
      rintro e w1 ⟨rfl, rfl⟩
      go_wp2_with fail
      go_ret2
      exact ⟨rfl, hba⟩
    · have k1 : (kind == 1) = false := by simpa using h1
      have k2 : (kind == 2) = false := by simpa using h2
      clear hk h1 h2
      go_enter Try.func75, Try.ntmps75
      go_wp2_with fail
      go_ret2
      exact ⟨rfl, hba⟩
end Go.Proofs.Ytejoecoenehooaa
