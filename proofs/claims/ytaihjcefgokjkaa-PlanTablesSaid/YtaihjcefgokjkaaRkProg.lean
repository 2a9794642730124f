/- The walks of the package reckon. -/
import Derived.Test.YtaihjcefgokjkaaRkDiv
namespace Go.Proofs.Ytaihjcefgokjkaa
open Go.RowKit

namespace Rk
def isCount (n : Int) : Bool := decide (0 ≤ n ∧ n ≤ 9223372036854775807)
def addOk (a b : Int) : Bool := decide (0 ≤ a ∧ 0 ≤ b ∧ a + b ≤ 9223372036854775807)
def addV (a b : Int) : Int := if addOk a b then a + b else 0
def subOk (a b : Int) : Bool := decide (0 ≤ a ∧ 0 ≤ b ∧ b ≤ a)
def subV (a b : Int) : Int := if subOk a b then a - b else 0
def mulOk (a b : Int) : Bool := decide (0 ≤ a ∧ 0 ≤ b ∧ a * b ≤ 9223372036854775807)
def mulV (a b : Int) : Int := if mulOk a b then a * b else 0
def divOk (a b : Int) : Bool := decide (0 ≤ a ∧ 1 ≤ b)
def divV (a b : Int) : Int := if divOk a b then a / b else 0
def upV (a b : Int) : Int := if divOk a b then (if 0 < a % b then a / b + 1 else a / b) else 0
end Rk
open Rk

/-- A pair of an int and a bool. -/
theorem ret_ib {k : IntKind} {a c : Int} {b d : Bool} (h1 : a = c) (h2 : b = d) : Ending.returned (.tuple #[.int k a, .bool b]) = .returned (.tuple #[.int k c, .bool d]) := by rw [h1, h2]

set_option maxHeartbeats 400000 in
theorem div_any (a b : Int) (w : World) (_ha : -9223372036854775808 ≤ a) (_ha1 : a ≤ 9223372036854775807) (_hb : -9223372036854775808 ≤ b) (_hb1 : b ≤ 9223372036854775807) :
    Calls Try.prog 38 #[.int .i64 a, .int .i64 b] w fun e w' => e = .returned (.tuple #[.int .i64 (divV a b), .bool (divOk a b)]) ∧ w = w' := by
  by_cases h1 : 0 ≤ a <;> by_cases h2 : 1 ≤ b
  all_goals
    go_enter Try.func38, Try.ntmps38
    go_wp2
    go_ret2
    refine ⟨ret_ib ?_ ?_, rfl⟩
    all_goals (simp [divV, divOk] <;> omega)

namespace Rk
def capV (n : Int) : Int := if n ≤ 9223372036854775807 then n else 0
def capOk (n : Int) : Bool := decide (n ≤ 9223372036854775807)
theorem mul_cap {a b : Int} (h1 : 0 ≤ a) (h2 : 0 ≤ b) : mulV a b = capV (a * b) ∧ mulOk a b = capOk (a * b) := by
  unfold mulV mulOk capV capOk
  by_cases h : a * b ≤ 9223372036854775807 <;> simp [h1, h2, h]
end Rk

set_option maxHeartbeats 400000 in
theorem count_any (n : Int) (w : World) (_h0 : 0 ≤ n) (_h1 : n ≤ 18446744073709551615) :
    Calls Try.prog 46 #[.int .u64 n] w fun e w' => e = .returned (.tuple #[.int .i64 (capV n), .bool (capOk n)]) ∧ w = w' := by
  by_cases h : n ≤ 9223372036854775807
  all_goals
    go_enter Try.func46, Try.ntmps46
    go_wp2
    go_ret2
    refine ⟨ret_ib ?_ ?_, rfl⟩
    all_goals (simp [capV, capOk] <;> omega)

set_option maxHeartbeats 400000 in
theorem mul_any (a b : Int) (w : World) (_ha : -9223372036854775808 ≤ a) (ha1 : a ≤ 9223372036854775807) (_hb : -9223372036854775808 ≤ b) (hb1 : b ≤ 9223372036854775807) :
    Calls Try.prog 39 #[.int .i64 a, .int .i64 b] w fun e w' => e = .returned (.tuple #[.int .i64 (mulV a b), .bool (mulOk a b)]) ∧ w = w' := by
  by_cases h0 : 0 ≤ a ∧ 0 ≤ b
  · obtain ⟨h1, h2⟩ := h0
    have e0 : 0 ≤ a * b := Int.mul_nonneg h1 h2
    obtain ⟨P, hP⟩ : ∃ P, a * b = P := ⟨_, rfl⟩
    rw [hP] at e0
    have HP := hid hP
    clear hP
    have e1 : 0 ≤ P / 18446744073709551616 := by omega
    by_cases h3 : 0 < P / 18446744073709551616
    · go_enter Try.func39, Try.ntmps39
      go_wp2_with (go_at_call 50; go_in)
      refine (mul64_any _ _ _ h1 h2 (by omega) (by omega)).mono ?_
      rintro e w' ⟨rfl, rfl⟩
      rw [HP.out]
      go_wp2
      go_ret2
      refine ⟨ret_ib ?_ ?_, rfl⟩
      all_goals (simp [mulV, mulOk, HP.out] <;> omega)
    · have e2 : P % 18446744073709551616 = P := by omega
      have E2 := hid e2
      clear e2
      go_enter Try.func39, Try.ntmps39
      go_wp2_with (go_at_call 50; go_in)
      refine (mul64_any _ _ _ h1 h2 (by omega) (by omega)).mono ?_
      rintro e w' ⟨rfl, rfl⟩
      rw [HP.out, E2.out]
      go_wp2_with fail
      refine (count_any _ _ e0 (by omega)).mono ?_
      rintro e w' ⟨rfl, rfl⟩
      go_wp2
      go_ret2
      obtain ⟨c1, c2⟩ := mul_cap h1 h2
      exact ⟨ret_ib (by rw [c1, HP.out]) (by rw [c2, HP.out]), rfl⟩
  · by_cases h1 : 0 ≤ a <;> by_cases h2 : 0 ≤ b
    · exact absurd ⟨h1, h2⟩ h0
    all_goals
      clear h0
      go_enter Try.func39, Try.ntmps39
      go_wp2
      go_ret2
      refine ⟨ret_ib ?_ ?_, rfl⟩
      all_goals (simp [mulV, mulOk] <;> omega)
end Go.Proofs.Ytaihjcefgokjkaa
