/- The walk of FoldDoes. -/
import Derived.Test.YtbbkfjbaocpknaaFold7
namespace Go.Proofs.Ytbbkfjbaocpknaa
open Go.RowKit Nl

end Go.Proofs.Ytbbkfjbaocpknaa
