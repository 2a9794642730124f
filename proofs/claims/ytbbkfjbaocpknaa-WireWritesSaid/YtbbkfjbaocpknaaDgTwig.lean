/- The walks of twig.Leaf, and of the reference's Power, Leaf, Ends. -/
import Derived.Test.YtbbkfjbaocpknaaDgMath
import Derived.Laws.BitsAllLaws
namespace Go.Proofs.Ytbbkfjbaocpknaa
open Go.RowKit Nl

theorem Nl.or_pow (n x : Nat) (hx : x < 2 ^ n) (hn : n ≤ 48) : bits .or .i64 ((2 ^ n : Nat) : Int) (x : Int) = ((2 ^ n + x : Nat) : Int) := by
  have h1 : (2 : Nat) ^ n ≤ 2 ^ 48 := Nat.pow_le_pow_right (by omega) hn
  have h3 : (2 : Nat) ^ 48 = 281474976710656 := rfl
  show IntKind.i64.wrap ((BitVec.ofInt 64 ((2 ^ n : Nat) : Int) ||| BitVec.ofInt 64 (x : Int)).toNat : Int) = _
  rw [BitVec.toNat_or, ofInt_u64 _ (by omega), ofInt_u64 _ (by omega)]
  have e := Nat.two_pow_add_eq_or_of_lt hx 1
  rw [Nat.mul_one] at e
  rw [← e]
  exact IntWalk.i64_in _ ⟨by omega, by omega⟩
theorem Nl.or_pow' (n : Nat) (x : Int) (h0 : 0 ≤ x) (hx : x < 2 ^ n) (hn : n ≤ 48) : bits .or .i64 (2 ^ n) x = 2 ^ n + x := by
  obtain ⟨y, rfl⟩ := Int.eq_ofNat_of_zero_le h0
  have e : (2 : Int) ^ n = ((2 ^ n : Nat) : Int) := by simp
  rw [e] at hx ⊢
  rw [or_pow n y (by omega) hn]; simp

def PowRel2 (n : Int) (p i : Value) : Prop := ∃ k : Nat, i = .int .i64 k ∧ p = .int .i64 (2 ^ k) ∧ (k : Int) ≤ n
end Go.Proofs.Ytbbkfjbaocpknaa
