/- The walks of the reference's Insert and Do, of layer 13. -/
import Derived.Test.YtbbkfjbaocpknaaDr1
namespace Go.Proofs.Ytbbkfjbaocpknaa
open Go.RowKit Nl

end Go.Proofs.Ytbbkfjbaocpknaa
