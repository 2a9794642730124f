/- The walk of the reference's home of a node. -/
import Derived.Test.YtbbkfjbaocpknaaBC
namespace Go.Proofs.Ytbbkfjbaocpknaa
open Go.RowKit Nl

def HomeRel (b m : Nat) (h i : Value) : Prop := ∃ j : Nat, i = .int .i64 j ∧ h = .int .u64 ((m / 2 ^ (j - b) : Nat) : Int) ∧ b ≤ j ∧ j ≤ 64
theorem div_step (m b j : Nat) (h : b ≤ j) : m / 2 ^ (j - b) / 2 = m / 2 ^ (j + 1 - b) := by
  rw [Nat.div_div_eq_div_mul, ← Nat.pow_succ, show (j - b).succ = j + 1 - b by omega]

set_option maxRecDepth 100000 in
set_option maxHeartbeats 1000000 in
theorem r_home (bits id : Int) (w : World) (hb : -9223372036854775808 ≤ bits) (hb1 : bits ≤ 9223372036854775807) (hi : -9223372036854775808 ≤ id) (hi1 : id ≤ 9223372036854775807) :
    Calls Try.prog 51 #[.int .i64 bits, .int .i64 id] w fun e w' => e = .returned (.int .i64 (homeV bits id)) ∧ w = w' := by
  by_cases h1 : bits < 1
  · have e : homeV bits id = 0 := by unfold homeV; rw [if_pos (by omega)]
    rw [e]
    clear e
    go_enter Try.func51, Try.ntmps51
    go_wp2_with fail
    go_ret
    exact ⟨rfl, rfl⟩
  by_cases h2 : 62 < bits
  · have e : homeV bits id = 0 := by unfold homeV; rw [if_pos (by omega)]
    rw [e]
    clear e
    go_enter Try.func51, Try.ntmps51
    go_wp2_with fail
    go_ret
    exact ⟨rfl, rfl⟩
  by_cases h3 : id < 1
  · have e : homeV bits id = 0 := by unfold homeV; rw [if_pos (by omega)]
    rw [e]
    clear e
    go_enter Try.func51, Try.ntmps51
    go_wp2_with fail
    go_ret
    exact ⟨rfl, rfl⟩
  obtain ⟨b, rfl⟩ := Int.eq_ofNat_of_zero_le (show 0 ≤ bits by omega)
  obtain ⟨n, rfl⟩ := Int.eq_ofNat_of_zero_le (show 0 ≤ id by omega)
  have e : homeV (b : Int) (n : Int) = (homeN b n : Int) := by unfold homeV; rw [if_neg (by omega)]; rfl
  rw [e]
  obtain ⟨m, em⟩ : ∃ m, n * 11400714819323198485 % 18446744073709551616 = m := ⟨_, rfl⟩
  have em2 : IntKind.u64.wrap ((n : Int) * 11400714819323198485) = (m : Int) := by rw [wrap_u, ← em]; simp
  have hm : m < 18446744073709551616 := by rw [← em]; exact Nat.mod_lt _ (by omega)
  have hE : homeN b n = m / 2 ^ (64 - b) := by unfold homeN; rw [em]
  have hH := homeN_63 (b := b) (by omega) n
  have E2 : Hid (wrap64 ((m / 2 ^ (64 - b) : Nat) : Int) = (homeN b n : Int)) := by
    show _ = _
    rw [← hE]
    exact IntWalk.wrap64_in _ ⟨by omega, by omega⟩
  have Em2 := hid em2
  clear e em em2 hE hH
  go_enter Try.func51, Try.ntmps51
  go_wp2_with fail
  rw [Em2.out]
  go_loop [5, 6] (fun h i => HomeRel b m h i) (fun _ i => 64 - (intOf i).toNat)
  case atStart => exact ⟨b, rfl, by simp, by omega, by omega⟩
  case round =>
    obtain ⟨j, rfl, rfl, hj1, hj2⟩ := hrel
    have hq : m / 2 ^ (j - b) ≤ m := Nat.div_le_self _ _
    have hs := div_step m b j hj1
    generalize hx : m / 2 ^ (j - b) = x at *
    by_cases h4 : j < 64
    · have Hs := hid hs
      clear hs hx
      go_wp2_with fail
      go_round
      case rel => exact ⟨j + 1, by go_num, by rw [← Hs.out]; simp, by omega, by omega⟩
      case measure => simp [intOf]; omega
    · obtain rfl : j = 64 := by omega
      have Hx := hid hx
      clear hs hx
      go_wp2_with fail
      go_ret
      refine ⟨ret_int ?_, rfl⟩
      rw [← Hx.out]; exact E2.out
end Go.Proofs.Ytbbkfjbaocpknaa
