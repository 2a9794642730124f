/- The walks of digest.Reset, and of the statements' Do. -/
import Derived.Test.YtbbkfjbaocpknaaDg2
import Derived.Test.YtbbkfjbaocpknaaPr9
namespace Go.Proofs.Ytbbkfjbaocpknaa
open Go.RowKit Nl

theorem Nl.take_head {x : Int × Int} {r : List (Int × Int)} (h : Strict (x :: r)) : (stTake (x :: r) x.1).1 = r := by
  show (x :: r).filter (fun y => y.1 ≠ x.1) = r
  rw [List.filter_cons, if_neg (by simp)]
  exact List.filter_eq_self.2 (fun y hy => by have := h.head y hy; simp; omega)
theorem Nl.strict_drop {zs : List (Int × Int)} (h : Strict zs) (k : Nat) : Strict (zs.drop k) := by
  induction k with
  | zero => simpa using h
  | succ k ih =>
    cases hz : zs.drop k with
    | nil => rw [show zs.drop (k + 1) = [] by rw [← List.drop_drop, hz]; rfl]; exact ⟨List.Pairwise.nil, by simp⟩
    | cons x r => rw [hz] at ih; rw [show zs.drop (k + 1) = r by rw [← List.drop_drop, hz]; rfl]; exact ih.tail

section
variable {w : World} {dg q g h m : Nat} {kind l k : Int} {zs : List Nd}
def RstRel (dg q g h m : Nat) (kind l k : Int) (zs : List Nd) (vs : Value) (w w1 : World) (i : Value) (wr : World) : Prop :=
  ∃ j : Nat, i = .int .i64 j ∧ j ≤ zs.length ∧ Blk wr dg #[.int .i64 k, .pointer (some ⟨q, 0, none⟩)] 92 ∧ PoolV wr q g h kind l m (zs.drop j) ∧ RdN wr vs zs ∧ ChB (DB dg q g h) w wr ∧ w1.heap.size ≤ wr.heap.size
def RstPost (dg q g h : Nat) (kind l k : Int) (m : Nat) (w : World) (e : Ending) (w' : World) : Prop :=
  e = .returned (.tuple #[]) ∧ DgV w' dg q g h kind l k m [] ∧ ChB (DB dg q g h) w w'
end
end Go.Proofs.Ytbbkfjbaocpknaa
