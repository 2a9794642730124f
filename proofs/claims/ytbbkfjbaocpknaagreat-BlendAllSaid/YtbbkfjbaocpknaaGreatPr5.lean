/- The walks of the statements' own functions of layer 12: alive, few, made. -/
import Derived.Test.YtbbkfjbaocpknaaGreatPr4
namespace Go.Proofs.YtbbkfjbaocpknaaGreat
open Go.RowKit Nl

namespace Nl
def fewB (kind l : Int) (xs : List (Int × Int)) : Bool := askB kind l xs && decide (l * (xs.length : Int) ≤ 400)
end Nl

def MadePost (kind l : Int) (p : Option Addr) (cap m : Nat) (xs : List Nd) (w : World) (e : Ending) (w' : World) : Prop :=
  ∃ q g h, e = .returned (.tuple #[.pointer (some ⟨q, 0, none⟩), .agg #[.int .i64 l, .slice p xs.length cap], .bool true]) ∧ PoolV w' q g h kind l m xs ∧ w.heap.size ≤ q ∧ w.heap.size ≤ g ∧ w.heap.size ≤ h ∧ Below w.heap.size w w'
end Go.Proofs.YtbbkfjbaocpknaaGreat
