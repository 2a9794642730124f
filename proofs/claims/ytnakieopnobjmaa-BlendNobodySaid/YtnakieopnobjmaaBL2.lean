/- Texts laid together: Bl6, Bl7, Bl8, Bl9, Bl10. -/
import Derived.Test.YtnakieopnobjmaaMM
import Derived.Test.YtnakieopnobjmaaDR
import Derived.Test.YtnakieopnobjmaaBL
/- The walks of the reference's layer 14. -/
namespace Go.Proofs.Ytnakieopnobjmaa
open Go.RowKit Nl

end Go.Proofs.Ytnakieopnobjmaa

/- The walk of law 14's Like, where it holds. -/
namespace Go.Proofs.Ytnakieopnobjmaa
open Go.RowKit Nl

end Go.Proofs.Ytnakieopnobjmaa

/- The walk of law 13's Few, where there is no digest. -/
namespace Go.Proofs.Ytnakieopnobjmaa
open Go.RowKit Nl

end Go.Proofs.Ytnakieopnobjmaa

/- The walk of the reference's Of: the digest of calls. -/
namespace Go.Proofs.Ytnakieopnobjmaa
open Go.RowKit Nl

def OfPost (l k : Int) (n : Nat) (Z : List Nd) (w : World) (e : Ending) (w' : World) : Prop := ∃ v, e = .returned (.agg #[.int .i64 k, .int .i64 l, v]) ∧ RdN w' v Z ∧ NotD v Z (fun j => j < w.heap.size) ∧ Dg l k Z ∧ Z.length ≤ n ∧ Below w.heap.size w w'
end Go.Proofs.Ytnakieopnobjmaa

/- The walk of law 14's Made: a side's digest, and the document's. -/
namespace Go.Proofs.Ytnakieopnobjmaa
open Go.RowKit Nl

def SdPost (l k kind : Int) (n : Nat) (F : List Nd) (w : World) (e : Ending) (w' : World) : Prop :=
  ∃ dg q g h v, e = .returned (.tuple #[.pointer (some ⟨dg, 0, none⟩), .agg #[.int .i64 k, .int .i64 l, v]]) ∧ DgV w' dg q g h kind l k 2000 F ∧ RdN w' v F ∧ F.length ≤ n ∧ (∀ j, DB dg q g h j → w.heap.size ≤ j) ∧ Below w.heap.size w w'

end Go.Proofs.Ytnakieopnobjmaa
