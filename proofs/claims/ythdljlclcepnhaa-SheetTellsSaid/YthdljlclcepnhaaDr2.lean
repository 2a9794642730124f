/- The walks of the reference's Insert and Do, of layer 13. -/
import Derived.Test.YthdljlclcepnhaaDr1
namespace Go.Proofs.Ythdljlclcepnhaa
open Go.RowKit Nl

end Go.Proofs.Ythdljlclcepnhaa
