/- The walks of the reference's layer 13: Is, New, Weight, Cap, Compress. -/
import Derived.Test.YtnakieopnobjmaaDg4
import Derived.Test.YtnakieopnobjmaaPr11
namespace Go.Proofs.Ytnakieopnobjmaa
open Go.RowKit Nl

/-- What comes of the reference's Compress, Insert, Do. -/
def RDgPost (l k : Int) (R : List Nd × Int) (v0 : Value) (w : World) (e : Ending) (w' : World) : Prop :=
  ∃ v, e = .returned (.tuple #[.agg #[.int .i64 k, .int .i64 l, v], .int .i64 R.2]) ∧ RdN w' v R.1 ∧ FrV v0 v w.heap.size ∧ Below w.heap.size w w'
end Go.Proofs.Ytnakieopnobjmaa
