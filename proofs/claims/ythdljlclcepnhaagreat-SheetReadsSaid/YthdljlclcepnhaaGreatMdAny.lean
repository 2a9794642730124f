/- Law 13's Made, of any conf; the reference's Ends, of any node. -/
import Derived.Test.YthdljlclcepnhaaGreatMM
namespace Go.Proofs.YthdljlclcepnhaaGreat
open Go.RowKit Nl

/-- A digest made, or none. -/
def MdAny (l k kind : Int) (n : Nat) (w : World) (e : Ending) (w' : World) : Prop :=
  (e = .returned (.tuple #[.pointer none, .agg #[.int .i64 0, .slice none 0 0]]) ∧ Below w.heap.size w w') ∨ MdPost l k kind n w e w'
theorem d_made_any (l k kind : Int) (v : Value) (os : List Op3) (w : World) (bk : In64 k) (ho : RdO w v os) (hN : os.length ≤ 1000) :
    Calls Tryz.prog 10 #[.agg #[.int .i64 l, .int .i64 k, .int .i64 kind], v] w (MdAny l k kind os.length w) := by
  cases hP : (poolIs kind l && isK k)
  · exact (d_made_no l k kind v os w bk ho hP).mono fun e w' h => .inl h
  · simp only [Bool.and_eq_true] at hP
    exact (d_made l k kind v os w ho hN hP.1 hP.2).mono fun e w' h => .inr h
/-- As much of it as one needs who goes no further. -/
def MdSome (w : World) (e : Ending) (w' : World) : Prop :=
  ∃ a z p n c, e = .returned (.tuple #[.pointer a, .agg #[.int .i64 z, .slice p n c]]) ∧ Below w.heap.size w w'
theorem MdAny.some {l k kind : Int} {n : Nat} {w w' : World} {e : Ending} (h : MdAny l k kind n w e w') : MdSome w e w' := by
  rcases h with ⟨rfl, hb⟩ | ⟨dg, q, g, h, v, zs, its, rfl, -, rb, -, -, -, -, -, hb⟩
  · exact ⟨_, _, _, _, _, rfl, hb⟩
  · obtain ⟨pb, capb, rfl⟩ := rb.val
    exact ⟨_, _, _, _, _, rfl, hb⟩
theorem r_ends_any (l id0 : Int) (bl : In64 l) (bi : In64 id0) : Hid (∀ W : World, ∃ a b c, Calls Tryz.prog 46 #[.int .i64 l, .int .i64 id0] W fun e w' => e = .returned (.tuple #[.int .i64 a, .int .i64 b, .bool c]) ∧ W = w') := fun W => by
  cases hr : rightB l id0
  · exact ⟨_, _, _, r_ends_no l id0 W bl bi hr⟩
  · exact ⟨_, _, _, r_ends l id0 W hr⟩
end Go.Proofs.YthdljlclcepnhaaGreat
