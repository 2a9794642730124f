/- The walks of press.Run, Trace, Tight, Bound. -/
import Derived.Test.YtbbkfjbaocpknaaPr1
namespace Go.Proofs.Ytbbkfjbaocpknaa
open Go.RowKit Nl

namespace Nl
def isK (k : Int) : Bool := decide (1 ≤ k ∧ k ≤ 1048576)
end Nl

/-- How many folds were told. -/
def RunI (c : Nat) (done : List Int) (o : Value) (w : World) : Prop := Blk w c #[.int .i64 done.length] 3 ∧ o = .int .i64 0
/-- Which folds were told. -/
def TraceI (c : Nat) (done : List Int) (o : Value) (w : World) : Prop := Blk w c #[o] 72 ∧ OwnI w 0 o done ∧ o.ownBlock ≠ some c

set_option maxRecDepth 100000 in
set_option maxHeartbeats 400000 in
theorem p_wrong (q : Nat) (k : Int) (w : World) : Calls Try.prog 94 #[.pointer (some ⟨q, 0, none⟩), .int .i64 k] w fun e w' => e = .returned (.int .i64 (if isK k then 0 else 2)) ∧ w = w' := by
  by_cases h1 : k < 1
  · have e : isK k = false := by simp [isK]; omega
    rw [e]; clear e
    go_enter Try.func94, Try.ntmps94
    go_wp2_with (go_at_call 108; go_in)
    go_ret
    exact ⟨rfl, rfl⟩
  · by_cases h2 : 1048576 < k
    · have e : isK k = false := by simp [isK]; omega
      have hd : decide (k ≤ 1048576) = false := by simp; omega
      rw [e]; clear e
      go_enter Try.func94, Try.ntmps94
      go_wp2_with (go_at_call 108; go_in)
      go_ret
      exact ⟨rfl, rfl⟩
    · have e : isK k = true := by simp [isK]; omega
      have hd : decide (k ≤ 1048576) = true := by simp; omega
      rw [e]; clear e
      go_enter Try.func94, Try.ntmps94
      go_wp2_with (go_at_call 108; go_in)
      go_ret
      exact ⟨rfl, rfl⟩

/-- What comes of press.Run. -/
def PRunPost (q g h0 m : Nat) (kind l : Int) (R : List Nd × List Int) (w : World) (e : Ending) (w' : World) : Prop :=
  e = .returned (.tuple #[.int .i64 R.2.length, .int .i64 0]) ∧ ∃ h, PoolV w' q g h kind l m R.1 ∧ (h = h0 ∨ w.heap.size ≤ h) ∧ ChB (PB q g h0) w w'
/-- What comes of press.Trace. -/
def PTracePost (steps : List Int) (w : World) (e : Ending) (w' : World) : Prop :=
  ∃ v, e = .returned (.tuple #[v, .int .i64 0]) ∧ RdIB w' w.heap.size v steps ∧ Below w.heap.size w w'
end Go.Proofs.Ytbbkfjbaocpknaa
