/- The walks of the reference's Insert and Do, of layer 13. -/
import Derived.Test.YthdljlclcepnhaaGreatDr1
namespace Go.Proofs.YthdljlclcepnhaaGreat
open Go.RowKit Nl

end Go.Proofs.YthdljlclcepnhaaGreat
