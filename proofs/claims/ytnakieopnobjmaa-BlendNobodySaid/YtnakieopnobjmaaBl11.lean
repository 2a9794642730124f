/- The walk of BlendLowers. -/
import Derived.Test.YtnakieopnobjmaaBL2
import Derived.Test.YtnakieopnobjmaaDgNil
import Derived.Test.YtnakieopnobjmaaGO
namespace Go.Proofs.Ytnakieopnobjmaa
open Go.RowKit Nl

set_option maxRecDepth 100000 in
set_option maxHeartbeats 1000000 in
theorem bl_lower_nil (k : Int) (w : World) :
    Calls Try.prog 20 #[.pointer none, .int .i64 k] w fun e w' => e = .returned (.tuple #[.pointer none, .int .i64 1]) ∧ Below w.heap.size w w' := by
  have CF := hid (fun W : World => nd_conf W)
  go_enter Try.func20, Try.ntmps20
  go_wp2_with fail
  refine (CF.out _).mono ?_
  rintro e w1 ⟨rfl, hb1⟩
  have hs1 := hb1.size
  go_wp2_with fail
  go_ret2
  exact ⟨rfl, hb1.trans (((Below.refl _ _).alloc (Nat.le_refl _) _).mono hs1)⟩

/-- What a side is that may be tried. -/
def FewC (l k kind : Int) (n : Nat) (b : Bool) : Prop := b = true → poolIs kind l = true ∧ isK k = true ∧ n ≤ 60
end Go.Proofs.Ytnakieopnobjmaa
