/- The walk of FoldDoes. -/
import Derived.Test.YthdljlclcepnhaaFold7
namespace Go.Proofs.Ythdljlclcepnhaa
open Go.RowKit Nl

end Go.Proofs.Ythdljlclcepnhaa
