/- The walks of digest.Clone, and of DigestBounds. -/
import Derived.Test.YthdljlclcepnhaaGreatDGA
import Derived.Test.YthdljlclcepnhaaGreatGO
import Derived.Deep.CutBlock
import Derived.Deep.LoopGhost
namespace Go.Proofs.YthdljlclcepnhaaGreat
open Go.RowKit Nl

def DgClone (kind l k : Int) (m : Nat) (zs : List Nd) (w : World) (e : Ending) (w' : World) : Prop :=
  ∃ dg q g h, e = .returned (.pointer (some ⟨dg, 0, none⟩)) ∧ DgV w' dg q g h kind l k m zs ∧ w.heap.size ≤ dg ∧ w.heap.size ≤ q ∧ w.heap.size ≤ g ∧ w.heap.size ≤ h ∧ Below w.heap.size w w'
section
variable {w : World} {dg q g h m : Nat} {kind l k : Int} {zs : List Nd}
end

/-- What a call does to what all nodes weigh. -/
theorem Nl.bnd_cases {l k : Int} {zs : List (Int × Int)} (d : Dg l k zs) (o x wt : Int) :
    (o = 2 ∧ sumL (dgDo l k zs o x wt).1 = 0) ∨ (o = 1 ∧ sumL (dgDo l k zs o x wt).1 = sumL zs ∧ ((dgDo l k zs o x wt).1.length : Int) ≤ 4 * k - 1 ∧ comL l k (dgDo l k zs o x wt).1 = ((dgDo l k zs o x wt).1, [])) ∨
    (o ≠ 1 ∧ o ≠ 2 ∧ (dgDo l k zs o x wt).2 = 0 ∧ sumL (dgDo l k zs o x wt).1 = sumL zs + wt ∧ 1 ≤ wt ∧ sumL zs + wt ≤ 72057594037927935) ∨
    (o ≠ 1 ∧ o ≠ 2 ∧ (dgDo l k zs o x wt).2 ≠ 0 ∧ sumL (dgDo l k zs o x wt).1 = sumL zs) := by
  by_cases h1 : o = 1
  · subst h1
    obtain ⟨_, c2, _, c4, _⟩ := d.com
    exact .inr (.inl ⟨rfl, c2, c4, com_twice d⟩)
  by_cases h2 : o = 2
  · subst h2; exact .inl ⟨rfl, rfl⟩
  have e : dgDo l k zs o x wt = dgIns l k zs x wt := by unfold dgDo; rw [if_neg h1, if_neg h2]
  rw [e]
  obtain ⟨_, _, i3, i4⟩ := d.ins x wt
  by_cases h3 : (dgIns l k zs x wt).2 = 0
  · obtain ⟨_, j2, j3, j4⟩ := i3 h3
    exact .inr (.inr (.inl ⟨h1, h2, h3, j4, j2, j3⟩))
  · exact .inr (.inr (.inr ⟨h1, h2, h3, by rw [i4 h3]⟩))
/-- Folded once, nothing can be folded. -/
theorem Nl.bnd_com {l k : Int} {zs : List (Int × Int)} (d : Dg l k zs) : comL l k (comL l k zs).1 = ((comL l k zs).1, []) := com_twice d

/-- Under way: so many calls, and what came of them. -/
def BndRel (dg q g h B : Nat) (kind l k : Int) (N : Nat) (w : World) (gn : Nat) (nv i : Value) (wr : World) : Prop :=
  ∃ (j : Nat) (zs : List Nd) (h' : Nat), i = .int .i64 j ∧ j ≤ N ∧ N - j ≤ gn ∧ nv = .int .i64 (sumL zs) ∧ zs.length ≤ j ∧ (h' = h ∨ B ≤ h') ∧ B ≤ wr.heap.size ∧ DgV wr dg q g h' kind l k 2000 zs ∧ Blk wr w.heap.size #[.int .i64 l, .int .i64 k, .int .i64 kind] 37 ∧ Below w.heap.size w wr

end Go.Proofs.YthdljlclcepnhaaGreat
