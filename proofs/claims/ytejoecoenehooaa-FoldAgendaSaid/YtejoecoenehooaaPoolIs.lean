/- The walk of the reference's: which pools there are. -/
import Derived.Test.YtejoecoenehooaaPool6
namespace Go.Proofs.Ytejoecoenehooaa
open Go.RowKit Nl

set_option maxRecDepth 100000 in
set_option maxHeartbeats 1000000 in
theorem r_poolIs (kind l : Int) (w : World) : Calls Try.prog 74 #[.int .i64 kind, .int .i64 l] w fun e w' => e = .returned (.bool (poolIs kind l)) ∧ w = w' := by
  by_cases k1 : kind = 1
  · subst k1
    rcases (by omega : l < 1 ∨ (1 ≤ l ∧ 16 < l) ∨ (1 ≤ l ∧ l ≤ 16)) with h1 | ⟨h1, h2⟩ | ⟨h1, h2⟩
    all_goals
      go_enter Try.func74, Try.ntmps74
      go_wp2_with fail
      go_ret
      exact ⟨ret_bool (by simp [poolIs] <;> omega), rfl⟩
  · have e1 : (kind == 1) = false := by simpa using k1
    by_cases k2 : kind = 2
    · subst k2
      clear k1
      rcases (by omega : l < 1 ∨ (1 ≤ l ∧ 48 < l) ∨ (1 ≤ l ∧ l ≤ 48)) with h1 | ⟨h1, h2⟩ | ⟨h1, h2⟩
      all_goals
        go_enter Try.func74, Try.ntmps74
        go_wp2_with fail
        go_ret
        exact ⟨ret_bool (by simp [poolIs] <;> omega), rfl⟩
    · have e2 : (kind == 2) = false := by simpa using k2
      have hp : Hid (poolIs kind l = false) := by show _ = _; simp [poolIs, k1, k2]
      clear k1 k2
      go_enter Try.func74, Try.ntmps74
      go_wp2_with fail
      go_ret
      exact ⟨ret_bool hp.out.symm, rfl⟩
end Go.Proofs.Ytejoecoenehooaa
