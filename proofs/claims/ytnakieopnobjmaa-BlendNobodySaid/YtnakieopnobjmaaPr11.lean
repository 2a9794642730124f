/- The walks of press.Trace, and of the reference's Run. -/
import Derived.Test.YtnakieopnobjmaaPr5
import Derived.Test.YtnakieopnobjmaaFold7
namespace Go.Proofs.Ytnakieopnobjmaa
open Go.RowKit Nl

/-- What comes of the reference's Run. -/
def RRunPost (l : Int) (R : List Nd × List Int) (v0 : Value) (w : World) (e : Ending) (w' : World) : Prop :=
  ∃ v o, e = .returned (.tuple #[.agg #[.int .i64 l, v], o]) ∧ RdN w' v R.1 ∧ FrV v0 v w.heap.size ∧ RdIB w' w.heap.size o R.2 ∧ Below w.heap.size w w'
end Go.Proofs.Ytnakieopnobjmaa
