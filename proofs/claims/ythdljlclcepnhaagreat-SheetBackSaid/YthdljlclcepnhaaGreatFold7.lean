/- The walks of the reference's Do, and of its Same of ints. -/
import Derived.Test.YthdljlclcepnhaaGreatFold6
namespace Go.Proofs.YthdljlclcepnhaaGreat
open Go.RowKit Nl

/-- The same slice, or one from B on. -/
def FrV (v v' : Value) (B : Nat) : Prop := v' = v ∨ ∀ k, v'.ownBlock = some k → B ≤ k
theorem FrV.trans {v v1 v2 : Value} {B n : Nat} (h : FrV v v1 B) (k : FrV v1 v2 n) (hn : B ≤ n) : FrV v v2 B := by
  rcases k with rfl | k
  · exact h
  · exact .inr fun q hq => Nat.le_trans hn (k q hq)
def FdoPost (l : Int) (r : List Nd × Int) (B : Nat) (v0 : Value) (w : World) (e : Ending) (w' : World) : Prop :=
  ∃ v, e = .returned (.tuple #[.agg #[.int .i64 l, v], .int .i64 r.2]) ∧ RdB w' B v r.1 ∧ FrV v0 v w.heap.size ∧ Below w.heap.size w w'

def ISameRel (xs ys : List Int) (w1 : World) (i : Value) (wr : World) : Prop := ∃ k : Nat, i = .int .i64 k ∧ k ≤ xs.length ∧ Hid (∀ j, j < k → xs.getD j 0 = ys.getD j 0) ∧ ∃ n, wr = w1.drewN n
theorem Nl.ext_getD {xs ys : List Int} (hl : xs.length = ys.length) (h : ∀ j, j < xs.length → xs.getD j 0 = ys.getD j 0) : xs = ys := by
  apply List.ext_getElem hl
  intro i h1 h2
  have := h i h1
  simpa [List.getD, List.getElem?_eq_getElem h1, List.getElem?_eq_getElem h2] using this
/-- A list's slice does not lie in a block. -/
def NotIn (v : Value) (xs : List Nd) (g : Nat) : Prop := xs = [] ∨ ∀ k, v.ownBlock = some k → k ≠ g
theorem RdN.set_off {w : World} {v : Value} {xs : List Nd} {g : Nat} (h : RdN w v xs) (o : NotIn v xs g) (j : Nat) (u : Value) : RdN (w.setCell ⟨g, j, Option.none⟩ u) v xs := by
  rcases o with rfl | o
  · exact h.any
  · exact h.keep (fun k _ hk => Below.heap_setCell _ ⟨g, j, Option.none⟩ _ k (o k hk)) (by simp)
theorem RdN.tch2 {w w' : World} {v : Value} {xs : List Nd} {g h : Nat} (r : RdN w v xs) (o1 : NotIn v xs g) (o2 : NotIn v xs h) (t : Tch g h w w') : RdN w' v xs := by
  rcases o1 with rfl | o1
  · exact r.any
  · rcases o2 with rfl | o2
    · exact r.any
    · exact r.keep (fun k hk hb => t.block k hk (o1 k hb) (o2 k hb)) t.size
theorem NotIn.of_lt {w : World} {v : Value} {xs : List Nd} {g : Nat} (h : RdN w v xs) (hg : w.heap.size ≤ g) : NotIn v xs g := by
  rcases h.ltE with h | h
  · exact .inl h
  · exact .inr fun k hk => by have := h k hk; omega
theorem NotIn.next {w w' : World} {v v' : Value} {xs xs' : List Nd} {g n : Nat} (o : NotIn v xs g) (h : RdN w v xs) (h' : RdN w' v' xs') (hv : v' = v ∨ ∀ k, v'.ownBlock = some k → n ≤ k) (hg : g < n) : NotIn v' xs' g := by
  rcases hv with rfl | hv
  · rcases o with rfl | o
    · obtain ⟨p, c, e⟩ := h.val
      obtain ⟨p', c', e'⟩ := h'.val
      rw [e] at e'
      simp only [List.length_nil, Value.slice.injEq] at e'
      exact .inl (List.eq_nil_of_length_eq_zero e'.2.1.symm)
    · exact .inr o
  · exact .inr fun k hk => by have := hv k hk; omega

end Go.Proofs.YthdljlclcepnhaaGreat
