/- The walks of the reference's layer 2 (Is, Depth, Right), of twig.Right and reckon.Add. -/
import Derived.Test.YtejoecoenehooaaNdRef1
import Derived.Laws.MathBits
namespace Go.Proofs.Ytejoecoenehooaa
open Go.RowKit

namespace Nl
/-- Is it a node of a universe of so many bits? -/
def rightB (l id : Int) : Bool := decide (1 ≤ l ∧ l ≤ 48 ∧ 1 ≤ id ∧ id < 2 * 2 ^ l.toNat)
def depOk (id : Int) : Bool := decide (1 ≤ id)
def depV (id : Int) : Int := if depOk id then (bitLen id.toNat : Int) - 1 else 0
theorem bitLen_iff (x n : Nat) (hx : x ≠ 0) : bitLen x ≤ n + 1 ↔ x < 2 * 2 ^ n := by
  obtain ⟨h1, h2⟩ := bitLen_spec x
  have e : 2 * 2 ^ n = 2 ^ (n + 1) := by rw [Nat.pow_succ]; omega
  rw [e]
  constructor
  · intro h
    exact Nat.lt_of_lt_of_le h1 (Nat.pow_le_pow_right (by omega) h)
  · intro h
    refine Nat.le_of_not_lt fun hlt => ?_
    have h3 : 2 ^ (n + 1) ≤ 2 ^ (bitLen x - 1) := Nat.pow_le_pow_right (by omega) (by omega)
    have := h2 hx
    omega
theorem pow48 {n : Nat} (h : n ≤ 48) : (1 : Int) ≤ 2 ^ n ∧ (2 : Int) ^ n ≤ 281474976710656 := by
  have h1 : (2 : Nat) ^ n ≤ 2 ^ 48 := Nat.pow_le_pow_right (by omega) h
  have h2 : (1 : Nat) ≤ 2 ^ n := Nat.one_le_two_pow
  have e : (2 : Int) ^ n = ((2 ^ n : Nat) : Int) := by simp
  have h3 : (2 : Nat) ^ 48 = 281474976710656 := rfl
  rw [e]; omega
theorem rightB_dep {l id : Int} (hl : 1 ≤ l ∧ l ≤ 48) (hi : 1 ≤ id) : rightB l id = decide (depV id ≤ l) := by
  obtain ⟨n, rfl⟩ := Int.eq_ofNat_of_zero_le (show 0 ≤ l by omega)
  obtain ⟨x, rfl⟩ := Int.eq_ofNat_of_zero_le (show 0 ≤ id by omega)
  have h := bitLen_iff x n (by omega)
  unfold rightB depV depOk
  rw [if_pos (by simpa using hi), decide_eq_decide]
  simp only [Int.toNat_natCast]
  have e : (2 : Int) * 2 ^ n = ((2 * 2 ^ n : Nat) : Int) := by simp
  rw [e]
  constructor
  · rintro ⟨_, _, _, h4⟩
    have := h.2 (by omega)
    omega
  · intro h4
    have := h.1 (by omega)
    omega
def addOk (a b : Int) : Bool := decide (0 ≤ a ∧ 0 ≤ b ∧ a + b ≤ 9223372036854775807)
def addV (a b : Int) : Int := if addOk a b then a + b else 0
end Nl
open Nl

def DepRel (n : Int) (m k : Value) : Prop := ∃ (a : Int) (j : Nat), m = .int .i64 a ∧ k = .int .i64 j ∧ 1 ≤ a ∧ a ≤ 9223372036854775807 ∧ bitLen a.toNat + j = bitLen n.toNat ∧ j ≤ 64

theorem bitLen_le63 (a : Int) (ha1 : a ≤ 9223372036854775807) : bitLen a.toNat ≤ 63 := by
  by_cases h0 : a.toNat = 0
  · rw [h0]; decide
  · rw [bitLen_iff _ 62 h0]
    have : (2 : Nat) * 2 ^ 62 = 9223372036854775808 := rfl
    omega

set_option maxHeartbeats 400000 in
theorem r_depth (n : Int) (w : World) (_hn : -9223372036854775808 ≤ n) (hn1 : n ≤ 9223372036854775807) :
    Calls Try.prog 108 #[.int .i64 n] w fun e w' => e = .returned (.tuple #[.int .i64 (depV n), .bool (depOk n)]) ∧ w = w' := by
  by_cases h : 1 ≤ n
  · have HV : Hid (depV n = (bitLen n.toNat : Int) - 1) := by show depV n = _; unfold depV depOk; rw [if_pos (by simpa using h)]
    have HO : Hid (depOk n = true) := by show depOk n = true; simp [depOk, h]
    have Hb := hid (bitLen_le63 n hn1)
    generalize depV n = V at *
    generalize depOk n = O at *
    go_enter Try.func108, Try.ntmps108
    go_wp2_with fail
    go_loop [0, 4] (fun m k => DepRel n m k) (fun m _ => (intOf m).toNat)
    case atStart => exact ⟨n, 0, rfl, rfl, h, hn1, by omega, by omega⟩
    case round =>
      obtain ⟨a, j, rfl, rfl, ha, ha1, hv0, hj⟩ := hrel
      have hv := hid hv0
      clear hv0
      by_cases h1 : 1 < a
      · go_wp2_with fail
        go_round
        case rel =>
          have hs := bitLen_shift a.toNat 1 (by omega)
          have e : (a / 2).toNat = a.toNat / 2 ^ 1 := by omega
          refine ⟨_, j + 1, rfl, by go_num, by omega, by omega, by rw [e]; have := hv.out; omega, by have := hv.out; have := Hb.out; omega⟩
        case measure => simp [intOf]; omega
      · go_wp2_with fail
        go_ret2
        refine ⟨ret_ib ?_ HO.out.symm, rfl⟩
        have e : a.toNat = 1 := by omega
        have := hv.out
        have h1 : bitLen 1 = 1 := by decide
        rw [e, h1] at this
        rw [HV.out]; omega
  · go_enter Try.func108, Try.ntmps108
    go_wp2
    go_ret2
    refine ⟨ret_ib ?_ ?_, rfl⟩
    all_goals (simp [depV, depOk] <;> omega)

set_option maxHeartbeats 400000 in
theorem r_right (l id : Int) (w : World) (_hl : -9223372036854775808 ≤ l) (_hl1 : l ≤ 9223372036854775807) (hi : -9223372036854775808 ≤ id) (hi1 : id ≤ 9223372036854775807) :
    Calls Try.prog 96 #[.int .i64 l, .int .i64 id] w fun e w' => e = .returned (.bool (rightB l id)) ∧ w = w' := by
  obtain ⟨d, ed⟩ : ∃ d, depV id = d := ⟨_, rfl⟩
  obtain ⟨o, eo⟩ : ∃ o, depOk id = o := ⟨_, rfl⟩
  have hd : d ≤ 63 ∧ 0 ≤ d := by
    have h := bitLen_le63 id hi1
    have h2 := (bitLen_spec id.toNat).1
    rw [← ed]; unfold depV
    split
    · rename_i hp
      simp only [depOk, decide_eq_true_eq] at hp
      have : bitLen id.toNat ≠ 0 := fun e => by rw [e] at h2; simp at h2; omega
      omega
    · omega
  have Hr : Hid (rightB l id = (decide (1 ≤ l) && decide (l ≤ 48) && o && decide (d ≤ l))) := by
    show _ = _
    rw [← eo, ← ed]
    by_cases h1 : 1 ≤ l
    · by_cases h2 : l ≤ 48
      · by_cases h3 : 1 ≤ id
        · rw [rightB_dep ⟨h1, h2⟩ h3]; simp [h1, h2, h3, depOk]
        · simp [rightB, h3, depOk]
      · simp [rightB, h2]
    · simp [rightB, h1]
  have Ed := hid ed
  have Eo := hid eo
  generalize rightB l id = r at *
  clear ed eo
  by_cases h1 : 1 ≤ l <;> by_cases h2 : l ≤ 48 <;> by_cases h4 : d ≤ l <;> cases o
  all_goals
    have e := Hr.out
    simp [h1, h2, h4] at e
    subst e
    clear Hr
    go_enter Try.func96, Try.ntmps96
    go_wp2_with fail
    refine (r_depth id w hi hi1).mono ?_
    rintro e w' ⟨rfl, rfl⟩
    rw [Ed.out, Eo.out]
    go_wp2_with (go_at_call 98; go_in)
    try
      go_ret
      refine ⟨ret_bool ?_, rfl⟩
      first | rfl | (simp; omega)

set_option maxHeartbeats 400000 in
theorem twig_right (l id : Int) (w : World) (_hl : -9223372036854775808 ≤ l) (_hl1 : l ≤ 9223372036854775807) (_hi : -9223372036854775808 ≤ id) (_hi1 : id ≤ 9223372036854775807) :
    Calls Try.prog 119 #[.int .i64 l, .int .i64 id] w fun e w' => e = .returned (.bool (rightB l id)) ∧ w = w' := by
  by_cases h1 : 1 ≤ l
  · by_cases h2 : l ≤ 48
    · obtain ⟨n, rfl⟩ := Int.eq_ofNat_of_zero_le (show 0 ≤ l by omega)
      obtain ⟨b1, b2⟩ := pow48 (n := n) (by omega)
      have Hr : Hid (rightB (n : Int) id = (decide (1 ≤ id) && decide (id < 2 * 2 ^ n))) := by
        show _ = _
        unfold rightB
        simp only [Int.toNat_natCast]
        rw [Bool.eq_iff_iff]
        simp
        omega
      generalize rightB (n : Int) id = r at *
      have hn : n ≤ 48 := by omega
      by_cases h3 : 1 ≤ id <;> by_cases h4 : id < 2 * 2 ^ n
      all_goals
        have e := Hr.out
        simp [h3, h4] at e
        subst e
        clear Hr
        go_enter Try.func119, Try.ntmps119
        go_wp2_with (go_at_call 139; go_in)
        go_ret
        exact ⟨rfl, rfl⟩
    · have e : rightB l id = false := by simp [rightB, h2]
      rw [e]
      clear e
      go_enter Try.func119, Try.ntmps119
      go_wp2_with (go_at_call 139; go_in)
      go_ret
      exact ⟨rfl, rfl⟩
  · have e : rightB l id = false := by simp [rightB, h1]
    rw [e]
    clear e
    go_enter Try.func119, Try.ntmps119
    go_wp2_with (go_at_call 139; go_in)
    go_ret
    exact ⟨rfl, rfl⟩

set_option maxHeartbeats 400000 in
theorem add_any (a b : Int) (w : World) (_ha : -9223372036854775808 ≤ a) (_ha1 : a ≤ 9223372036854775807) (_hb : -9223372036854775808 ≤ b) (_hb1 : b ≤ 9223372036854775807) :
    Calls Try.prog 141 #[.int .i64 a, .int .i64 b] w fun e w' => e = .returned (.tuple #[.int .i64 (addV a b), .bool (addOk a b)]) ∧ w = w' := by
  by_cases h1 : 0 ≤ a <;> by_cases h2 : 0 ≤ b <;> by_cases h3 : a + b ≤ 9223372036854775807
  all_goals
    go_enter Try.func141, Try.ntmps141
    go_wp2
    go_ret2
    refine ⟨ret_ib ?_ ?_, rfl⟩
    all_goals (simp [addV, addOk] <;> omega)
end Go.Proofs.Ytejoecoenehooaa
