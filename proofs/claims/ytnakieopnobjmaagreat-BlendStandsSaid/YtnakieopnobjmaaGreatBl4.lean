/- The walk of law 14's some. -/
import Derived.Test.YtnakieopnobjmaaGreatBl3
import Derived.Test.YtnakieopnobjmaaGreatMade2
namespace Go.Proofs.YtnakieopnobjmaaGreat
open Go.RowKit Nl

def someB (n : Nat) (kind l : Int) : Bool := decide (n ≤ 100) && (decide (kind ≠ 1) || decide (l ≤ 10))
set_option maxRecDepth 100000 in
set_option maxHeartbeats 1000000 in
theorem s_some (l k kind : Int) (v : Value) (os : List Op3) (w : World) (ho : RdO w v os) :
    Calls Tryz.prog 28 #[.agg #[.int .i64 l, .int .i64 k, .int .i64 kind, v]] w fun e w' => e = .returned (.bool (someB os.length kind l)) ∧ Below w.heap.size w w' := by
  obtain ⟨p, cap, rfl, hlen, -⟩ := id ho
  have hba : Below w.heap.size w (w.alloc (.cells #[.int .i64 l, .int .i64 k, .int .i64 kind, .slice p os.length cap] 26)) := (Below.refl _ _).alloc (Nat.le_refl _) _
  have e : someB os.length kind l = (decide ((os.length : Int) ≤ 100) && (!(kind == 1) || decide (l ≤ 10))) := by
    unfold someB
    rw [show decide (os.length ≤ 100) = decide ((os.length : Int) ≤ 100) from decide_eq_decide.2 (by omega)]
    by_cases h : kind = 1 <;> simp [h]
  rw [e]
  clear ho e
  by_cases hk : kind = 1
  · subst hk
    go_enter Tryz.func28, Tryz.ntmps28
    cases q1 : decide ((os.length : Int) ≤ 100) <;> cases q3 : decide (l ≤ 10)
    all_goals
      go_wp2_with fail
      go_ret
      exact ⟨by simp, hba⟩
  · have q2 : (kind == 1) = false := by simpa using hk
    rw [q2]
    go_enter Tryz.func28, Tryz.ntmps28
    cases q1 : decide ((os.length : Int) ≤ 100)
    all_goals
      go_wp2_with fail
      go_ret
      exact ⟨by simp, hba⟩
end Go.Proofs.YtnakieopnobjmaaGreat
