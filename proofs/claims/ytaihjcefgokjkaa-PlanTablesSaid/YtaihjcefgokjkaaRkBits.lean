/- The walks of math/bits' functions Mul64, Len64. -/
import Derived.Test.YtaihjcefgokjkaaMem
import Derived.Laws.MathBits
namespace Go.Proofs.Ytaihjcefgokjkaa
open Go.RowKit

theorem ret_int {k : IntKind} {a b : Int} (h : a = b) : Ending.returned (.int k a) = .returned (.int k b) := by rw [h]
theorem ret_two {k l : IntKind} {a b c d : Int} (h1 : a = c) (h2 : b = d) : Ending.returned (.tuple #[.int k a, .int l b]) = .returned (.tuple #[.int k c, .int l d]) := by rw [h1, h2]
theorem wrap_u (n : Int) : IntKind.u64.wrap n = n % 18446744073709551616 := by simp [IntKind.wrap, IntKind.bits, IntKind.signed]

set_option maxHeartbeats 400000 in
/-- The product of two words, as two words. -/
theorem mul64_any (a b : Int) (w : World) (ha : 0 ≤ a) (hb : 0 ≤ b) (ha1 : a ≤ 18446744073709551615) (hb1 : b ≤ 18446744073709551615) :
    Calls Try.prog 51 #[.int .u64 a, .int .u64 b] w fun e w' => e = .returned (.tuple #[.int .u64 (a * b / 18446744073709551616), .int .u64 (a * b % 18446744073709551616)]) ∧ w = w' := by
  go_enter Try.func51, Try.ntmps51
  go_wp2
  go_ret2
  refine ⟨ret_two ?_ (wrap_u _), rfl⟩
  simp only [wrap_u]
  rw [and_low32 a ha (by omega), and_low32 b hb (by omega), and_low32 _ (by omega) (by omega)]
  exact mul64_arith a b ha (by omega) hb (by omega)

theorem w64_in (n : Int) (h0 : 0 ≤ n) (h1 : n ≤ 9223372036854775807) : wrap64 n = n := IntWalk.wrap64_in n ⟨by omega, by omega⟩
theorem len_small (x : Int) (hx : 0 ≤ x) (hx1 : x < 256) : wrap64 (wrap64 ((bitLen x.toNat : Nat) : Int)) = (bitLen x.toNat : Nat) := by
  have := bitLen_le8 x.toNat (by omega)
  rw [w64_in ((bitLen x.toNat : Nat) : Int) (by omega) (by omega), w64_in _ (by omega) (by omega)]
theorem len_close (c K : Nat) (hK : 2 ^ c = K) (x y : Int) (hy : 0 < y) (hy1 : y < 256) (hx : x.toNat / K = y.toNat) (hc : c ≤ 56) :
    wrap64 ((c : Int) + wrap64 ((bitLen y.toNat : Nat) : Int)) = (bitLen x.toNat : Nat) := by
  have h8 := bitLen_le8 y.toNat (by omega)
  subst hK
  rw [w64_in ((bitLen y.toNat : Nat) : Int) (by omega) (by omega), w64_in _ (by omega) (by omega)]
  have := bitLen_shift x.toNat c (by rw [hx]; omega)
  rw [this, hx]
  omega

set_option maxRecDepth 100000 in
set_option maxHeartbeats 400000 in
theorem len64_any (a : Int) (w : World) (ha : 0 ≤ a) (ha1 : a ≤ 18446744073709551615) :
    Calls Try.prog 57 #[.int .u64 a] w fun e w' => e = .returned (.int .i64 (bitLen a.toNat)) ∧ w = w' := by
  go_enter Try.func57, Try.ntmps57
  go_wp2
  all_goals go_ret
  all_goals refine ⟨ret_int ?_, rfl⟩
  all_goals rw [len8tab_get]
  · exact len_close 56 72057594037927936 rfl a _ (by omega) (by omega) (by omega) (by omega)
  · exact len_close 48 281474976710656 rfl a _ (by omega) (by omega) (by omega) (by omega)
  · exact len_close 40 1099511627776 rfl a _ (by omega) (by omega) (by omega) (by omega)
  · exact len_close 32 4294967296 rfl a _ (by omega) (by omega) (by omega) (by omega)
  · exact len_close 24 16777216 rfl a _ (by omega) (by omega) (by omega) (by omega)
  · exact len_close 16 65536 rfl a _ (by omega) (by omega) (by omega) (by omega)
  · exact len_close 8 256 rfl a _ (by omega) (by omega) (by omega) (by omega)
  · exact len_small a (by omega) (by omega)
end Go.Proofs.Ytaihjcefgokjkaa
