/- The walk of BlendNobody. -/
import Derived.Test.YtbbkfjbaocpknaaGreatBL
import Derived.Test.YtbbkfjbaocpknaaGreatBl11
import Derived.Test.YtbbkfjbaocpknaaGreatMdAny
import Derived.Test.YtbbkfjbaocpknaaGreatDgNil
namespace Go.Proofs.YtbbkfjbaocpknaaGreat
open Go.RowKit Nl

set_option maxRecDepth 100000 in
set_option maxHeartbeats 1000000 in
theorem nb_wrong_r (a : Option Addr) (w : World) : Calls Tryz.prog 74 #[.pointer a, .pointer none] w fun e w' => e = .returned (.int .i64 1) ∧ w = w' := by
  cases a
  all_goals
    go_enter Tryz.func74, Tryz.ntmps74
    go_wp2_with fail
    go_ret
    exact ⟨rfl, rfl⟩
set_option maxRecDepth 100000 in
set_option maxHeartbeats 1000000 in
theorem nb_wrong_l (a : Option Addr) (w : World) : Calls Tryz.prog 74 #[.pointer none, .pointer a] w fun e w' => e = .returned (.int .i64 1) ∧ w = w' := by
  cases a
  all_goals
    go_enter Tryz.func74, Tryz.ntmps74
    go_wp2_with fail
    go_ret
    exact ⟨rfl, rfl⟩
set_option maxRecDepth 100000 in
set_option maxHeartbeats 1000000 in
theorem nb_merge_r (a : Option Addr) (w : World) : Calls Tryz.prog 36 #[.pointer a, .pointer none] w fun e w' => e = .returned (.tuple #[.pointer none, .int .i64 1]) ∧ w = w' := by
  have WR := hid (nb_wrong_r a w)
  go_enter Tryz.func36, Tryz.ntmps36
  go_wp2_with fail
  refine WR.out.mono ?_
  rintro e w1 ⟨rfl, rfl⟩
  go_wp2_with fail
  go_ret2
  exact ⟨rfl, rfl⟩
set_option maxRecDepth 100000 in
set_option maxHeartbeats 1000000 in
theorem nb_merge_l (a : Option Addr) (w : World) : Calls Tryz.prog 36 #[.pointer none, .pointer a] w fun e w' => e = .returned (.tuple #[.pointer none, .int .i64 1]) ∧ w = w' := by
  have WR := hid (nb_wrong_l a w)
  go_enter Tryz.func36, Tryz.ntmps36
  go_wp2_with fail
  refine WR.out.mono ?_
  rintro e w1 ⟨rfl, rfl⟩
  go_wp2_with fail
  go_ret2
  exact ⟨rfl, rfl⟩
set_option maxRecDepth 100000 in
set_option maxHeartbeats 1000000 in
theorem nb_all0 (w : World) : Calls Tryz.prog 10 #[.slice none 0 0] w fun e w' => e = .returned (.tuple #[.pointer none, .int .i64 7]) ∧ w = w' := by
  go_enter Tryz.func10, Tryz.ntmps10
  go_wp2_with fail
  go_ret2
  exact ⟨rfl, rfl⟩
set_option maxRecDepth 100000 in
set_option maxHeartbeats 2000000 in
theorem nb_all1 (g : Nat) (T : TypeId) (w : World) (hB : Blk w g #[.pointer none] T) : Calls Tryz.prog 10 #[.slice (some ⟨g, 0, none⟩) 1 1] w fun e w' => e = .returned (.tuple #[.pointer none, .int .i64 1]) ∧ Below w.heap.size w w' := by
  have CF := hid (fun W : World => nd_conf W)
  have LW := hid (fun W : World => bl_lower_nil 0 W)
  have c0 : w.cell? ⟨g, 0, none⟩ = some (.pointer none) := hB.cell 0
  have hba : Below w.heap.size w (w.alloc (.cells #[.pointer none] 32)) := (Below.refl _ _).alloc (Nat.le_refl _) _
  have X := Blk.new w #[.pointer none] 32
  go_enter Tryz.func10, Tryz.ntmps10
  go_wp2_with fail
  generalize (w.alloc (.cells #[.pointer none] 32)) = w1 at *
  have x0 : w1.cell? ⟨w.heap.size, 0, none⟩ = some (.pointer none) := X.cell 0
  have hl0 := X.lt
  have hB0 := Below.refl w1.heap.size w1
  have hfl := fun W : World => conf_k 0 0 0 W
  go_region_held3 (fun w' => w'.cell? ⟨w.heap.size, 0, none⟩ = some (.pointer none) ∧ Below w1.heap.size w1 w')
    (first
      | exact ⟨x0, below_drewN hB0 1⟩
      | exact ⟨(X.below' hB5 hl0).cell 0, hB5⟩
      | exact ⟨(X.below' hB6 hl0).cell 0, hB6⟩)
    (first
      | (go_at_call 30; have hB4 := (‹_ ∧ Below w1.heap.size w1 _›).2; refine (CF.out _).mono ?_; rintro e w5 ⟨rfl, hb5⟩
         have hB5 := hB4.trans (hb5.mono hB4.size))
      | (go_at_call 39; have hB4 := (‹_ ∧ Below w1.heap.size w1 _›).2; refine (LW.out _).mono ?_; rintro e w6 ⟨rfl, hb6⟩
         have hB6 := hB4.trans (hb6.mono hB4.size)))
  go_wp2_with fail
  go_ret2
  exact ⟨rfl, hba.trans (hB6.mono hba.size)⟩

end Go.Proofs.YtbbkfjbaocpknaaGreat
