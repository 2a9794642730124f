/- The walks of twig.Leaf, and of the reference's Power, Leaf, Ends. -/
import Derived.Test.YthdljlclcepnhaaGreatDgMath
import Derived.Laws.BitsAllLaws
namespace Go.Proofs.YthdljlclcepnhaaGreat
open Go.RowKit Nl

theorem Nl.or_pow (n x : Nat) (hx : x < 2 ^ n) (hn : n ≤ 48) : bits .or .i64 ((2 ^ n : Nat) : Int) (x : Int) = ((2 ^ n + x : Nat) : Int) := by
  have h1 : (2 : Nat) ^ n ≤ 2 ^ 48 := Nat.pow_le_pow_right (by omega) hn
  have h3 : (2 : Nat) ^ 48 = 281474976710656 := rfl
  show IntKind.i64.wrap ((BitVec.ofInt 64 ((2 ^ n : Nat) : Int) ||| BitVec.ofInt 64 (x : Int)).toNat : Int) = _
  rw [BitVec.toNat_or, ofInt_u64 _ (by omega), ofInt_u64 _ (by omega)]
  have e := Nat.two_pow_add_eq_or_of_lt hx 1
  rw [Nat.mul_one] at e
  rw [← e]
  exact IntWalk.i64_in _ ⟨by omega, by omega⟩
theorem Nl.or_pow' (n : Nat) (x : Int) (h0 : 0 ≤ x) (hx : x < 2 ^ n) (hn : n ≤ 48) : bits .or .i64 (2 ^ n) x = 2 ^ n + x := by
  obtain ⟨y, rfl⟩ := Int.eq_ofNat_of_zero_le h0
  have e : (2 : Int) ^ n = ((2 ^ n : Nat) : Int) := by simp
  rw [e] at hx ⊢
  rw [or_pow n y (by omega) hn]; simp

def PowRel2 (n : Int) (p i : Value) : Prop := ∃ k : Nat, i = .int .i64 k ∧ p = .int .i64 (2 ^ k) ∧ (k : Int) ≤ n
set_option maxRecDepth 100000 in
set_option maxHeartbeats 400000 in
theorem r_power (n : Int) (w : World) (h0 : 0 ≤ n) (h1 : n ≤ 48) :
    Calls Tryz.prog 63 #[.int .i64 n] w fun e w' => e = .returned (.int .i64 (2 ^ n.toNat)) ∧ w = w' := by
  go_enter Tryz.func63, Tryz.ntmps63
  go_wp2_with fail
  go_loop [3, 4] (fun p i => PowRel2 n p i) (fun _ i => (n - intOf i).toNat)
  case atStart => exact ⟨0, rfl, rfl, by omega⟩
  case round =>
    obtain ⟨k, rfl, rfl, hk⟩ := hrel
    have hp := pow48 (n := k) (by omega)
    have hs : (2 : Int) ^ (k + 1) = 2 * 2 ^ k := by rw [Int.pow_succ]; omega
    have HS := hid hs
    clear hs
    by_cases hlt : (k : Int) < n
    · go_wp2_with fail
      go_round
      case rel => exact ⟨k + 1, by go_num, by rw [HS.out], by omega⟩
      case measure => simp [intOf]; omega
    · have e : Hid (n.toNat = k) := by show _ = _; omega
      go_wp2_with fail
      go_ret
      exact ⟨by rw [e.out]; rfl, rfl⟩

set_option maxRecDepth 100000 in
set_option maxHeartbeats 400000 in
theorem t_leaf (l x : Int) (w : World) (bl : In64 l) (bx : In64 x) :
    Calls Tryz.prog 85 #[.int .i64 l, .int .i64 x] w fun e w' => e = .returned (.tuple #[.int .i64 (leafV l x), .bool (leafB l x)]) ∧ w = w' := by
  obtain ⟨l1, l2⟩ := bl
  obtain ⟨x1, x2⟩ := bx
  by_cases h1 : 1 ≤ l
  · by_cases h2 : l ≤ 48
    · obtain ⟨n, rfl⟩ := Int.eq_ofNat_of_zero_le (show 0 ≤ l by omega)
      obtain ⟨b1, b2⟩ := pow48 (n := n) (by omega)
      have hn : n ≤ 48 := by omega
      by_cases h3 : 0 ≤ x <;> by_cases h4 : x < 2 ^ n
      all_goals
        go_enter Tryz.func85, Tryz.ntmps85
        go_wp2_with (go_at_call 84; go_in)
        go_ret2
        have hb : leafB (n : Int) x = decide (0 ≤ x ∧ x < 2 ^ n) := by
          unfold leafB
          simp only [Int.toNat_natCast]
          rw [decide_eq_decide]
          generalize (2 : Int) ^ n = M at *
          omega
        have hv : leafV (n : Int) x = if leafB (n : Int) x then 2 ^ n + x else 0 := by unfold leafV; simp only [Int.toNat_natCast]
        refine ⟨ret_ib ?_ ?_, rfl⟩
        · rw [hv, hb]
          first
            | (rw [if_pos (by simp [h3, h4]), or_pow' n x h3 h4 hn]; done)
            | (rw [if_neg (by simp only [decide_eq_true_eq]; generalize (2 : Int) ^ n = M at *; omega)]; done)
        · rw [hb]
          simp [h3, h4]
    · have e : leafB l x = false := by simp [leafB, h2]
      have e2 : leafV l x = 0 := by simp [leafV, e]
      rw [e, e2]
      clear e e2
      go_enter Tryz.func85, Tryz.ntmps85
      go_wp2_with (go_at_call 84; go_in)
      go_ret2
      exact ⟨rfl, rfl⟩
  · have e : leafB l x = false := by simp [leafB, h1]
    have e2 : leafV l x = 0 := by simp [leafV, e]
    rw [e, e2]
    clear e e2
    go_enter Tryz.func85, Tryz.ntmps85
    go_wp2_with (go_at_call 84; go_in)
    go_ret2
    exact ⟨rfl, rfl⟩
end Go.Proofs.YthdljlclcepnhaaGreat
