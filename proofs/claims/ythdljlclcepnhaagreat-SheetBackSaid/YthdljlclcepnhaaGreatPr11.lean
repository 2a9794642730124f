/- The walks of press.Trace, and of the reference's Run. -/
import Derived.Test.YthdljlclcepnhaaGreatPRA
import Derived.Test.YthdljlclcepnhaaGreatFold7
namespace Go.Proofs.YthdljlclcepnhaaGreat
open Go.RowKit Nl

/-- What comes of the reference's Run. -/
def RRunPost (l : Int) (R : List Nd × List Int) (v0 : Value) (w : World) (e : Ending) (w' : World) : Prop :=
  ∃ v o, e = .returned (.tuple #[.agg #[.int .i64 l, v], o]) ∧ RdN w' v R.1 ∧ FrV v0 v w.heap.size ∧ RdIB w' w.heap.size o R.2 ∧ Below w.heap.size w w'
/-- A run of the reference's that is under way. -/
def RRunRel (l most s : Int) (zs0 : List Nd) (v0 : Value) (w : World) (out : Value) (n : Nat) (wr : World) : Prop :=
  ∃ (zs : List Nd) (done : List Int) (v : Value), Roll l zs ∧ Hid (sumL zs = s) ∧ zs.length ≤ zs0.length ∧ Hid (runR l most zs0 = ((runR l most zs).1, done ++ (runR l most zs).2)) ∧ (phi zs).toNat ≤ n ∧ (done.length : Int) + phi zs ≤ phi zs0 ∧
    Blk wr w.heap.size #[.int .i64 l, v] 25 ∧ Blk wr (w.heap.size + 1) #[.int .i64 0, .slice none 0 0] 25 ∧ RdN wr v zs ∧ NotIn v zs w.heap.size ∧ NotIn v zs (w.heap.size + 1) ∧ FrV v0 v w.heap.size ∧ (∀ j, out.ownBlock = some j → NotIn v zs j) ∧ OwnI wr (w.heap.size + 2) out done ∧ Below w.heap.size w wr

end Go.Proofs.YthdljlclcepnhaaGreat
