/- The walks of the statements' own functions over the dense store: do, like. -/
import Derived.Test.YtbbkfjbaocpknaaBB
namespace Go.Proofs.Ytbbkfjbaocpknaa
open Go.RowKit Nl

def DoPost (g h : Nat) (l : Int) (r : List Int × Int) (w : World) (e : Ending) (w' : World) : Prop := e = .returned (.int .i64 r.2) ∧ DnV w' g h l r.1 ∧ Tch g h w w'

end Go.Proofs.Ytbbkfjbaocpknaa
