/- The walks of the statements' like and Few, and of DigestPlays. -/
import Derived.Test.YtnakieopnobjmaaGreatDr2
import Derived.Test.YtnakieopnobjmaaGreatOpenDop
import Derived.Laws.StructEq
import Derived.Deep.LoopGhost
namespace Go.Proofs.YtnakieopnobjmaaGreat
open Go.RowKit Nl

end Go.Proofs.YtnakieopnobjmaaGreat
