/- The walks of the reference's Insert and Do, of layer 13. -/
import Derived.Test.YtnakieopnobjmaaDr1
namespace Go.Proofs.Ytnakieopnobjmaa
open Go.RowKit Nl

end Go.Proofs.Ytnakieopnobjmaa
