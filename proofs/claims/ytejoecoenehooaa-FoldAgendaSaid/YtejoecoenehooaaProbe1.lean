/- The walks of the home of a node: the probe's, the reference's. -/
import Derived.Test.YtejoecoenehooaaDense3
namespace Go.Proofs.Ytejoecoenehooaa
open Go.RowKit

namespace Nl
/-- The home of a node, as the document has it. -/
def homeN (bits id : Nat) : Nat := id * 11400714819323198485 % 18446744073709551616 / 2 ^ (64 - bits)
def homeV (bits id : Int) : Int := if bits < 1 ∨ 62 < bits ∨ id < 1 then 0 else (homeN bits.toNat id.toNat : Int)
theorem homeN_lt {b : Nat} (hb : b ≤ 62) (n : Nat) : homeN b n < 2 ^ b := by
  unfold homeN
  rw [Nat.div_lt_iff_lt_mul (Nat.pow_pos (by omega)), ← Nat.pow_add, show b + (64 - b) = 64 by omega]
  have : (2 : Nat) ^ 64 = 18446744073709551616 := rfl
  rw [this]
  exact Nat.mod_lt _ (by omega)
theorem homeN_63 {b : Nat} (hb : b ≤ 62) (n : Nat) : homeN b n < 4611686018427387904 := by
  have h := homeN_lt hb n
  have h2 : (2 : Nat) ^ b ≤ 2 ^ 62 := Nat.pow_le_pow_right (by omega) hb
  have : (2 : Nat) ^ 62 = 4611686018427387904 := rfl
  omega
end Nl
open Nl
theorem wrap_u (n : Int) : IntKind.u64.wrap n = n % 18446744073709551616 := by simp [IntKind.wrap, IntKind.bits, IntKind.signed]
theorem home_eq (b n : Nat) (hb : b ≤ 62) : wrap64 (IntKind.u64.wrap ((n : Int) * 11400714819323198485) / 2 ^ (64 - b)) = (homeN b n : Int) := by
  have e : IntKind.u64.wrap ((n : Int) * 11400714819323198485) / 2 ^ (64 - b) = ((homeN b n : Nat) : Int) := by
    rw [wrap_u]; unfold homeN; simp
  rw [e]
  have := homeN_63 hb n
  exact IntWalk.wrap64_in _ ⟨by omega, by omega⟩

set_option maxRecDepth 100000 in
set_option maxHeartbeats 1000000 in
theorem p_home (bits id : Int) (w : World) (hb : -9223372036854775808 ≤ bits) (hb1 : bits ≤ 9223372036854775807) (hi : -9223372036854775808 ≤ id) (hi1 : id ≤ 9223372036854775807) :
    Calls Try.prog 147 #[.int .i64 bits, .int .i64 id] w fun e w' => e = .returned (.int .i64 (homeV bits id)) ∧ w = w' := by
  by_cases h1 : bits < 1
  · have e : homeV bits id = 0 := by unfold homeV; rw [if_pos (by omega)]
    rw [e]
    clear e
    go_enter Try.func147, Try.ntmps147
    go_wp2
    go_ret
    exact ⟨rfl, rfl⟩
  by_cases h2 : 62 < bits
  · have e : homeV bits id = 0 := by unfold homeV; rw [if_pos (by omega)]
    rw [e]
    clear e
    go_enter Try.func147, Try.ntmps147
    go_wp2
    go_ret
    exact ⟨rfl, rfl⟩
  by_cases h3 : id < 1
  · have e : homeV bits id = 0 := by unfold homeV; rw [if_pos (by omega)]
    rw [e]
    clear e
    go_enter Try.func147, Try.ntmps147
    go_wp2
    go_ret
    exact ⟨rfl, rfl⟩
  obtain ⟨b, rfl⟩ := Int.eq_ofNat_of_zero_le (show 0 ≤ bits by omega)
  obtain ⟨n, rfl⟩ := Int.eq_ofNat_of_zero_le (show 0 ≤ id by omega)
  have e : homeV (b : Int) (n : Int) = (homeN b n : Int) := by unfold homeV; rw [if_neg (by omega)]; rfl
  rw [e]
  clear e
  go_enter Try.func147, Try.ntmps147
  go_wp2
  go_ret
  exact ⟨ret_int (home_eq b n (by omega)), rfl⟩

end Go.Proofs.Ytejoecoenehooaa
