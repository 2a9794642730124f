/- Texts laid together: NotD, Dr3, Dr4. -/
import Derived.Test.YthdljlclcepnhaaGreatDGA
import Derived.Test.YthdljlclcepnhaaGreatGO
import Derived.Laws.StructEq
import Derived.Deep.LoopGhost
/- A slice of nodes that lies in none of some blocks. -/
namespace Go.Proofs.YthdljlclcepnhaaGreat
open Go.RowKit Nl

/-- A list's slice does not lie in the blocks S. -/
def NotD (v : Value) (xs : List Nd) (S : Nat → Prop) : Prop := xs = [] ∨ ∀ j, v.ownBlock = some j → ¬ S j
theorem NotD.next {w w' : World} {v v' : Value} {xs xs' : List Nd} {S : Nat → Prop} {n : Nat} (o : NotD v xs S) (h : RdN w v xs) (h' : RdN w' v' xs') (hv : FrV v v' n) (hS : ∀ j, S j → j < n) : NotD v' xs' S := by
  rcases hv with rfl | hv
  · rcases o with rfl | o
    · obtain ⟨p, c, e⟩ := h.val
      obtain ⟨p', c', e'⟩ := h'.val
      rw [e] at e'
      simp only [List.length_nil, Value.slice.injEq] at e'
      exact .inl (List.eq_nil_of_length_eq_zero e'.2.1.symm)
    · exact .inr o
  · exact .inr fun j hj hs => by have := hv j hj; have := hS j hs; omega
theorem NotD.keep {w w' : World} {v : Value} {xs : List Nd} {S S' : Nat → Prop} (o : NotD v xs S) (r : RdN w v xs) (c : ChB S' w w') (hS : ∀ j, S' j → S j) : RdN w' v xs := by
  rcases o with rfl | o
  · exact r.any
  · exact r.keep (fun j hj e => c.block j hj (fun hp => o j e (hS j hp))) c.size
theorem NotD.more {w : World} {v : Value} {xs : List Nd} {S S' : Nat → Prop} (o : NotD v xs S) (r : RdN w v xs) (hS : ∀ j, S' j → S j ∨ w.heap.size ≤ j) : NotD v xs S' := by
  rcases o with h | o
  · exact .inl h
  · rcases r.ltE with h | h
    · exact .inl h
    · exact .inr fun j hj hs => by
        rcases hS j hs with e | e
        · exact o j hj e
        · have := h j hj; omega
end Go.Proofs.YthdljlclcepnhaaGreat

/- The walks of the statements' like and Few, and of DigestPlays. -/
namespace Go.Proofs.YthdljlclcepnhaaGreat
open Go.RowKit Nl

end Go.Proofs.YthdljlclcepnhaaGreat

/- The walks of the statements' Few, and of DigestPlays. -/
namespace Go.Proofs.YthdljlclcepnhaaGreat
open Go.RowKit Nl

def FewPost (n : Int) (w : World) (e : Ending) (w' : World) : Prop := ∃ b, e = .returned (.bool b) ∧ (b = true → n ≤ 60) ∧ Below w.heap.size w w'
def PlyRel (dg q g h B b7 : Nat) (kind l k : Int) (N : Nat) (w : World) (gn : Nat) (i : Value) (wr : World) : Prop :=
  ∃ (j : Nat) (zs : List Nd) (h' : Nat) (v : Value), i = .int .i64 j ∧ j ≤ N ∧ N - j ≤ gn ∧ zs.length ≤ j ∧ (h' = h ∨ B ≤ h') ∧ B ≤ wr.heap.size ∧ DgV wr dg q g h' kind l k 2000 zs ∧
    Blk wr w.heap.size #[.int .i64 l, .int .i64 k, .int .i64 kind] 37 ∧ Blk wr b7 #[.int .i64 k, .int .i64 l, v] 27 ∧ RdN wr v zs ∧ NotD v zs (fun j => DB dg q g h' j ∨ j = b7) ∧ Below w.heap.size w wr

end Go.Proofs.YthdljlclcepnhaaGreat
