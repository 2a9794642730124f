/- Texts laid together. -/
import Derived.Test.YtdnlejboijkcfaaGreatDoorP01
import Derived.Test.YtdnlejboijkcfaaGreatDoorP02
import Derived.Test.YtdnlejboijkcfaaGreatDoorP04
import Derived.Test.YtdnlejboijkcfaaGreatDoorP03
import Derived.Test.YtdnlejboijkcfaaGreatDoorRows
import Derived.WalkKit
import Derived.WalkSpells
import Derived.WalkLawsBesides
import Derived.Deep.QuietTactic
import Derived.BigQuiet
import Derived.Laws.MathBits
import Derived.Deep.DeepCutAuto
import Derived.Deep.CutBlock
/- Mem RkBits RkKnuth RkDiv RkProg RkProg2 RkMath RkProg3 RkWalk1 RkWalk2 RkWalk3 RkWalk4 RkRef RkProg4 RkLaws, for a seat with the digest too. -/
section
namespace Go.Proofs.YtdnlejboijkcfaaGreatDoor
set_option maxHeartbeats 8000000
open Go.RowKit
def Own (w : World) (B : Nat) (v : Value) (xs : List Int) : Prop := w.ownsRow B 3 1 v xs.length (xs.map (Value.int .i64))
end Go.Proofs.YtdnlejboijkcfaaGreatDoor
end
section
namespace Go.Proofs.YtdnlejboijkcfaaGreatDoor
set_option maxHeartbeats 8000000
open Go.RowKit
theorem ret_two {k l : IntKind} {a b c d : Int} (h1 : a = c) (h2 : b = d) : Ending.returned (.tuple #[.int k a, .int l b]) = .returned (.tuple #[.int k c, .int l d]) := by rw [h1, h2]
theorem mul64_any (a b : Int) (w : World) (ha : 0 ≤ a) (hb : 0 ≤ b) (ha1 : a ≤ 18446744073709551615) (hb1 : b ≤ 18446744073709551615) :
    Calls Tryz.prog 106 #[.int .u64 a, .int .u64 b] w fun e w' => e = .returned (.tuple #[.int .u64 (a * b / 18446744073709551616), .int .u64 (a * b % 18446744073709551616)]) ∧ w = w' := by
  go_enter Tryz.func106, Tryz.ntmps106
  go_wp2
  go_ret2
  refine ⟨ret_two ?_ (wrap_u _), rfl⟩
  simp only [wrap_u]
  rw [and_low32 a ha (by omega), and_low32 b hb (by omega), and_low32 _ (by omega) (by omega)]
  exact mul64_arith a b ha (by omega) hb (by omega)
end Go.Proofs.YtdnlejboijkcfaaGreatDoor
end
section
namespace Go.Proofs.YtdnlejboijkcfaaGreatDoor
set_option maxHeartbeats 8000000
namespace Kn
def Inv (U v1 Q q r : Int) : Prop := q * v1 + r = U ∧ 0 ≤ r ∧ 0 ≤ q ∧ Q ≤ q
section
variable {U v1 v0 u1 q r : Int}
theorem quot_small (hv0 : 0 ≤ v0) (hv1 : 1 ≤ v1) (hU : U < v1 * 4294967296 + v0) (hu1 : u1 ≤ 4294967295) :
    (U * 4294967296 + u1) / (v1 * 4294967296 + v0) < 4294967296 := by
  refine (Int.ediv_lt_iff_lt_mul (by omega)).2 ?_
  generalize v1 * 4294967296 + v0 = Y at *
  omega
theorem Inv.start (hU : 0 ≤ U) (hv0 : 0 ≤ v0) (hv1 : 1 ≤ v1) (hu0 : 0 ≤ u1) (hu1 : u1 ≤ 4294967295) :
    Inv U v1 ((U * 4294967296 + u1) / (v1 * 4294967296 + v0)) (U / v1) (U % v1) ∧ U % v1 < v1 := by
  have h1 := Int.emod_add_mul_ediv U v1
  have h2 := Int.emod_nonneg U (show v1 ≠ 0 by omega)
  have h3 := Int.emod_lt_of_pos U (show 0 < v1 by omega)
  have h4 : 0 ≤ U / v1 := Int.ediv_nonneg hU (by omega)
  refine ⟨⟨by rw [Int.mul_comm]; omega, h2, h4, ?_⟩, h3⟩
  refine Int.le_ediv_of_mul_le (by omega) ?_
  have h5 := Int.ediv_mul_le (U * 4294967296 + u1) (show v1 * 4294967296 + v0 ≠ 0 by omega)
  have h6 : 0 ≤ (U * 4294967296 + u1) / (v1 * 4294967296 + v0) := Int.ediv_nonneg (by omega) (by omega)
  generalize (U * 4294967296 + u1) / (v1 * 4294967296 + v0) = Q at *
  have h7 : Q * (v1 * 4294967296 + v0) = Q * v1 * 4294967296 + Q * v0 := by grind
  have h8 : 0 ≤ Q * v0 := Int.mul_nonneg h6 hv0
  omega
theorem Inv.le {Q : Int} (hv1 : 1 ≤ v1) (h : Inv U v1 Q q r) : q ≤ U := by
  obtain ⟨h1, h2, h3, h4⟩ := h
  have : q * 1 ≤ q * v1 := Int.mul_le_mul_of_nonneg_left hv1 h3
  omega
theorem Inv.more {Q : Int} (hQ : Q = (U * 4294967296 + u1) / (v1 * 4294967296 + v0)) (hv0 : 0 ≤ v0) (hv1 : 1 ≤ v1) (hU : U < v1 * 4294967296 + v0) (hu1 : u1 ≤ 4294967295) (hU0 : 0 ≤ U) (hu0 : 0 ≤ u1)
    (h : Inv U v1 Q q r) (hc : 4294967296 ≤ q ∨ r * 4294967296 + u1 < q * v0) : Inv U v1 Q (q - 1) (r + v1) ∧ r + v1 ≤ U ∧ 1 ≤ q := by
  obtain ⟨h1, h2, h3, h4⟩ := h
  have hQ0 : 0 ≤ Q := by rw [hQ]; exact Int.ediv_nonneg (by omega) (by omega)
  have hlt : Q < q := by
    rcases hc with hc | hc
    · have := quot_small hv0 hv1 hU hu1; omega
    · rw [hQ]
      refine (Int.ediv_lt_iff_lt_mul (by omega)).2 ?_
      have e : q * (v1 * 4294967296 + v0) = q * v1 * 4294967296 + q * v0 := by grind
      rw [e, ← h1]; omega
  have e1 : (q - 1) * v1 + (r + v1) = U := by rw [Int.sub_mul]; omega
  have e2 : 0 ≤ (q - 1) * v1 := Int.mul_nonneg (by omega) (by omega)
  exact ⟨⟨e1, by omega, by omega, by omega⟩, by omega, by omega⟩
theorem Inv.done {Q : Int} (hQ : Q = (U * 4294967296 + u1) / (v1 * 4294967296 + v0)) (hv0 : 0 ≤ v0) (hv1 : 1 ≤ v1) (h : Inv U v1 Q q r) (hc : q * v0 ≤ r * 4294967296 + u1) : q = Q := by
  obtain ⟨h1, h2, h3, h4⟩ := h
  refine Int.le_antisymm ?_ h4
  rw [hQ]
  refine Int.le_ediv_of_mul_le (by omega) ?_
  have e : q * (v1 * 4294967296 + v0) = q * v1 * 4294967296 + q * v0 := by grind
  rw [e, ← h1]; omega
theorem Inv.over {Q : Int} (hQ : Q = (U * 4294967296 + u1) / (v1 * 4294967296 + v0)) (hv0 : 0 ≤ v0) (hv01 : v0 ≤ 4294967295) (hv1 : 1 ≤ v1) (hU : U < v1 * 4294967296 + v0) (hu0 : 0 ≤ u1)
    (h : Inv U v1 Q q r) (hc : 4294967296 ≤ r) : q = Q := by
  refine h.done hQ hv0 hv1 ?_
  obtain ⟨h1, h2, h3, h4⟩ := h
  have hq : q < 4294967296 := by
    refine Int.lt_of_not_ge fun hge => ?_
    have : 4294967296 * v1 ≤ q * v1 := Int.mul_le_mul_of_nonneg_right hge (by omega)
    omega
  have : q * v0 ≤ 4294967295 * 4294967295 := Int.mul_le_mul (by omega) hv01 hv0 (by omega)
  omega
theorem rest_half {Y : Int} (hY : 0 < Y) (hY1 : Y ≤ 18446744073709551615) : ((U * 4294967296 % 18446744073709551616 + u1) % 18446744073709551616 - ((U * 4294967296 + u1) / Y) * Y % 18446744073709551616) % 18446744073709551616 = (U * 4294967296 + u1) % Y := by
  have h1 := Int.emod_add_mul_ediv (U * 4294967296 + u1) Y
  have h2 := Int.emod_nonneg (U * 4294967296 + u1) (show Y ≠ 0 by omega)
  have h3 := Int.emod_lt_of_pos (U * 4294967296 + u1) hY
  rw [Int.mul_comm Y] at h1
  generalize (U * 4294967296 + u1) / Y * Y = A at *
  generalize (U * 4294967296 + u1) % Y = R at *
  omega
end
theorem rest_div {U v : Int} (hU : 0 ≤ U) (hU1 : U ≤ 18446744073709551615) (hv : 1 ≤ v) : (U - (U / v * v) % 18446744073709551616) % 18446744073709551616 = U % v := by
  have h1 := Int.emod_add_mul_ediv U v
  have h2 := Int.emod_nonneg U (show v ≠ 0 by omega)
  have h3 : 0 ≤ U / v * v := Int.mul_nonneg (Int.ediv_nonneg hU (by omega)) (by omega)
  rw [Int.mul_comm v] at h1
  generalize U / v * v = A at *
  generalize U % v = R at *
  omega
theorem both {U u1 u0 Y : Int} (hY : 0 < Y) : (U * 18446744073709551616 + (u1 * 4294967296 + u0)) / Y = (U * 4294967296 + u1) / Y * 4294967296 + ((U * 4294967296 + u1) % Y * 4294967296 + u0) / Y ∧
    (U * 18446744073709551616 + (u1 * 4294967296 + u0)) % Y = ((U * 4294967296 + u1) % Y * 4294967296 + u0) % Y := by
  have h1 := Int.emod_add_mul_ediv (U * 4294967296 + u1) Y
  generalize hQ : (U * 4294967296 + u1) / Y = Q1 at *
  generalize (U * 4294967296 + u1) % Y = R1 at *
  have e : U * 18446744073709551616 + (u1 * 4294967296 + u0) = (R1 * 4294967296 + u0) + Q1 * 4294967296 * Y := by
    have : U * 18446744073709551616 + (u1 * 4294967296 + u0) = (U * 4294967296 + u1) * 4294967296 + u0 := by omega
    rw [this, ← h1]; grind
  rw [e]
  constructor
  · rw [Int.add_mul_ediv_right _ _ (by omega)]; omega
  · exact Int.add_mul_emod_self_right _ _ _
theorem shifted {hi lo K J : Int} (hK : 0 < K) (hJ : 0 < J) (hKJ : K * J = 18446744073709551616) :
    (hi * 18446744073709551616 + lo) * K = (hi * K + lo / J) * 18446744073709551616 + lo * K % 18446744073709551616 := by
  have h1 := Int.emod_add_mul_ediv lo J
  have h2 := Int.emod_nonneg lo (show J ≠ 0 by omega)
  have h3 := Int.emod_lt_of_pos lo hJ
  have e : lo * K = lo % J * K + (lo / J) * 18446744073709551616 := by
    rw [← hKJ]
    generalize lo / J = a at *
    generalize lo % J = b at *
    rw [← h1]; grind
  have h4 : lo % J * K < 18446744073709551616 := by
    rw [← hKJ, Int.mul_comm K J]; exact Int.mul_lt_mul_of_pos_right h3 hK
  have h5 : 0 ≤ lo % J * K := Int.mul_nonneg h2 (by omega)
  have e2 : lo * K % 18446744073709551616 = lo % J * K := by
    rw [e, Int.add_mul_emod_self_right]; exact Int.emod_eq_of_lt h5 h4
  rw [e2]
  generalize lo % J * K = c at *
  have e3 : (hi * 18446744073709551616 + lo) * K = hi * K * 18446744073709551616 + lo * K := by grind
  rw [e3, e]; omega
theorem unshift {M y K : Int} (hK : 0 < K) : M * K / (y * K) = M / y ∧ M * K % (y * K) / K = M % y := by
  constructor
  · rw [Int.mul_ediv_mul_of_pos_left _ _ hK]
  · rw [Int.mul_comm M K, Int.mul_comm y K, Int.mul_emod_mul_of_pos _ _ hK, Int.mul_ediv_cancel_left _ (by omega)]
end Kn
end Go.Proofs.YtdnlejboijkcfaaGreatDoor
end
section
namespace Go.Proofs.YtdnlejboijkcfaaGreatDoor
set_option maxHeartbeats 8000000
open Go.RowKit
theorem bitLen_le64 (a : Int) (ha : 0 ≤ a) (ha1 : a ≤ 18446744073709551615) : ((bitLen a.toNat : Nat) : Int) ≤ 64 := by
  have hc := (bitLen_spec a.toNat).2
  by_cases h0 : a.toNat = 0
  · rw [h0]; decide
  · have h := hc h0
    by_cases hlt : bitLen a.toNat ≤ 64
    · omega
    · exfalso
      have h2 : (2 : Nat) ^ 64 ≤ 2 ^ (bitLen a.toNat - 1) := Nat.pow_le_pow_right (by omega) (by omega)
      have h4 := Nat.le_trans h2 h
      have h5 : (2 : Nat) ^ 64 = 18446744073709551616 := rfl
      rw [h5] at h4
      omega
theorem lz64_any (a : Int) (w : World) (ha : 0 ≤ a) (ha1 : a ≤ 18446744073709551615) :
    Calls Tryz.prog 185 #[.int .u64 a] w fun e w' => e = .returned (.int .i64 (64 - (bitLen a.toNat : Int))) ∧ w = w' := by
  have hb := bitLen_le64 a ha ha1
  generalize hq : bitLen a.toNat = q at *
  have Hq := hid hq
  clear hq
  go_enter Tryz.func185, Tryz.ntmps185
  go_wp2_with fail
  refine (len64_any a w ha ha1).mono ?_
  rintro e w' ⟨rfl, rfl⟩
  rw [Hq.out]
  go_wp2
  go_ret
  exact ⟨rfl, rfl⟩
theorem div64_small (lo y : Int) (w : World) (hl : 0 ≤ lo) (hl1 : lo ≤ 18446744073709551615) (hy : 1 ≤ y) (hy1 : y ≤ 18446744073709551615) :
    Calls Tryz.prog 153 #[.int .u64 0, .int .u64 lo, .int .u64 y] w fun e w' => e = .returned (.tuple #[.int .u64 (lo / y), .int .u64 (lo % y)]) ∧ ∃ n, w' = w.drewN n := by
  go_enter Tryz.func153, Tryz.ntmps153
  go_wp2
  go_quiet (fail)
  go_wp2
  go_ret2
  exact ⟨rfl, _, rfl⟩
def HalfRel (U v1 v0 u1 : Int) (q r : Value) : Prop :=
  ∃ a b : Int, q = .int .u64 a ∧ r = .int .u64 b ∧ Kn.Inv U v1 ((U * 4294967296 + u1) / (v1 * 4294967296 + v0)) a b ∧ b ≤ 4294967295
def HalfEnd (U v1 v0 u1 : Int) (w : World) (q : Value) (w' : World) : Prop :=
  ∃ a : Int, q = .int .u64 a ∧ Hid (a = (U * 4294967296 + u1) / (v1 * 4294967296 + v0)) ∧ 0 ≤ a ∧ a ≤ 4294967295 ∧ w = w'
theorem half_lt {U v1 v0 u1 q r : Int} (h : Kn.Inv U v1 ((U * 4294967296 + u1) / (v1 * 4294967296 + v0)) q r) (hv0 : 0 ≤ v0) (_hv01 : v0 ≤ 4294967295) (hv1 : 1 ≤ v1) (hU : U < v1 * 4294967296 + v0) (_hu0 : 0 ≤ u1) (hu1 : u1 ≤ 4294967295) (_hU0 : 0 ≤ U)
    (hq : q = (U * 4294967296 + u1) / (v1 * 4294967296 + v0)) : q ≤ 4294967295 := by
  have := Kn.quot_small hv0 hv1 hU hu1
  have := h.2.2.1
  omega
theorem div64_core (hi lo y Y v1 v0 U L u1 u0 : Int) (n : Nat) (w : World) (hh : 1 ≤ hi) (hhy : hi < y) (_hl : 0 ≤ lo) (_hl1 : lo ≤ 18446744073709551615) (hy1 : y ≤ 9223372036854775807)
    (Hs : Hid (bitLen y.toNat = n)) (hn : n ≤ 63)
    (hY : IntKind.u64.wrap (y * 2 ^ (64 - n)) = Y) (hY0 : 0 ≤ Y) (hY1 : Y ≤ 18446744073709551615)
    (hv1 : Y / 4294967296 = v1) (hv0 : bits .and .u64 Y 4294967295 = v0)
    (hU : bits .or .u64 (IntKind.u64.wrap (hi * 2 ^ (64 - n))) (lo / 2 ^ (64 - (64 - n))) = U) (hL : IntKind.u64.wrap (lo * 2 ^ (64 - n)) = L)
    (hu1 : L / 4294967296 = u1) (hu0 : bits .and .u64 L 4294967295 = u0)
    (bU : 0 ≤ U) (bU1 : U ≤ 18446744073709551615) (bv1 : 1 ≤ v1) (bv11 : v1 ≤ 4294967295) (bv0 : 0 ≤ v0) (bv01 : v0 ≤ 4294967295) (bu1 : 0 ≤ u1) (bu11 : u1 ≤ 4294967295) (bu0 : 0 ≤ u0) (bu01 : u0 ≤ 4294967295)
    (hUY : Hid (U < v1 * 4294967296 + v0)) (hYv : Hid (v1 * 4294967296 + v0 = Y))
    (hyY : Hid (y * 2 ^ (64 - n) = Y)) (hN : Hid ((hi * 18446744073709551616 + lo) * 2 ^ (64 - n) = U * 18446744073709551616 + (u1 * 4294967296 + u0))) :
    Calls Tryz.prog 153 #[.int .u64 hi, .int .u64 lo, .int .u64 y] w fun e w' => e = .returned (.tuple #[.int .u64 ((hi * 18446744073709551616 + lo) / y), .int .u64 ((hi * 18446744073709551616 + lo) % y)]) ∧ w = w' := by
  go_enter Tryz.func153, Tryz.ntmps153
  go_wp2_with fail
  refine (lz64_any y w (by omega) (by omega)).mono ?_
  rintro e w' ⟨rfl, rfl⟩
  rw [Hs.out]
  go_upto_block 0 with (fail)
  go_cut [15, 16] (fun q _ wx => HalfEnd U v1 v0 u1 w q wx)
  case first =>
    go_wp2_with fail
    go_loop [15, 16] (fun q r => HalfRel U v1 v0 u1 q r) (fun q _ => (intOf q).toNat)
    case atStart =>
      obtain ⟨s1, s2⟩ := Kn.Inv.start (u1 := u1) bU bv0 bv1 bu1 bu11
      exact ⟨_, _, rfl, by rw [wrap_u, wrap_u, Kn.rest_div bU bU1 bv1], s1, by omega⟩
    case round =>
      obtain ⟨a, b, rfl, rfl, hinv, hb⟩ := hrel
      have ha0 := hinv.2.2.1
      have hb0 := hinv.2.1
      have hau := hinv.le bv1
      by_cases hgo : 4294967296 ≤ a ∨ b * 4294967296 + u1 < a * v0
      · obtain ⟨hi2, hbU, ha1⟩ := hinv.more rfl bv0 bv1 hUY.out bu11 bU bu1 hgo
        have H2 := hid hi2
        have Hm : Hid (Kn.Inv U v1 _ a b) := hinv
        clear hinv hi2
        by_cases h1 : 4294967296 ≤ a
        rotate_left
        · have hm : 0 ≤ a * v0 ∧ a * v0 ≤ 18446744065119617025 := prod_bound a v0 ha0 (by omega) bv0 bv01
          have h2 : b * 4294967296 + u1 < a * v0 := by omega
          clear hgo
          by_cases h3 : 4294967296 ≤ b + v1
          · go_wp2_with fail
            go_meet
            case rel => exact ⟨_, rfl, H2.out.over rfl bv0 bv01 bv1 hUY.out bu1 h3, by omega, half_lt H2.out bv0 bv01 bv1 hUY.out bu1 bu11 bU (H2.out.over rfl bv0 bv01 bv1 hUY.out bu1 h3), rfl⟩
          · go_wp2_with fail
            go_round
            case rel => exact ⟨_, _, rfl, rfl, H2.out, by omega⟩
            case measure => simp [intOf]; omega
        · clear hgo
          by_cases h3 : 4294967296 ≤ b + v1
          · go_wp2_with fail
            go_meet
            case rel => exact ⟨_, rfl, H2.out.over rfl bv0 bv01 bv1 hUY.out bu1 h3, by omega, half_lt H2.out bv0 bv01 bv1 hUY.out bu1 bu11 bU (H2.out.over rfl bv0 bv01 bv1 hUY.out bu1 h3), rfl⟩
          · go_wp2_with fail
            go_round
            case rel => exact ⟨_, _, rfl, rfl, H2.out, by omega⟩
            case measure => simp [intOf]; omega
      · have ha1 : a ≤ 4294967295 := by omega
        have h2 : a * v0 ≤ b * 4294967296 + u1 := by omega
        have hm : 0 ≤ a * v0 ∧ a * v0 ≤ 18446744065119617025 := prod_bound a v0 ha0 (by omega) bv0 bv01
        have Hm : Hid (a = (U * 4294967296 + u1) / (v1 * 4294967296 + v0)) := hinv.done rfl bv0 bv1 h2
        clear hgo hinv
        go_wp2_with fail
        go_meet
        case rel => exact ⟨_, rfl, Hm, by omega, by omega, rfl⟩
  case rest =>
    obtain ⟨q1, rfl, hq1, bq1, bq11, rfl⟩ := hcut
    obtain ⟨R, hR⟩ : ∃ R, IntKind.u64.wrap (IntKind.u64.wrap (IntKind.u64.wrap (U * 4294967296) + u1) - IntKind.u64.wrap (q1 * Y)) = R := ⟨_, rfl⟩
    have hRe : R = (U * 4294967296 + u1) % Y := by
      rw [← hR, wrap_u, wrap_u, wrap_u, wrap_u, hq1.out, hYv.out]
      exact Kn.rest_half (by omega) hY1
    have HRe := hid hRe
    have bUR : 0 ≤ R := by rw [hRe]; exact Int.emod_nonneg _ (by omega)
    have bURY : R < Y := by rw [hRe]; exact Int.emod_lt_of_pos _ (by omega)
    have hURY : Hid (R < v1 * 4294967296 + v0) := by rw [hYv.out]; exact bURY
    have bUR1 : R ≤ 18446744073709551615 := by omega
    clear hRe
    go_upto_block 2 with (fail)
    go_cut [18, 16] (fun q _ wx => HalfEnd R v1 v0 u0 w q wx)
    case first =>
      go_wp2_with fail
      go_loop [18, 16] (fun q r => HalfRel R v1 v0 u0 q r) (fun q _ => (intOf q).toNat)
      case atStart =>
        obtain ⟨s1, s2⟩ := Kn.Inv.start (u1 := u0) bUR bv0 bv1 bu0 bu01
        exact ⟨_, _, rfl, by rw [wrap_u, wrap_u, Kn.rest_div bUR bUR1 bv1], s1, by omega⟩
      case round =>
        obtain ⟨a, b, rfl, rfl, hinv, hb⟩ := hrel
        have ha0 := hinv.2.2.1
        have hb0 := hinv.2.1
        have hau := hinv.le bv1
        by_cases hgo : 4294967296 ≤ a ∨ b * 4294967296 + u0 < a * v0
        · obtain ⟨hi2, hbU, ha1⟩ := hinv.more rfl bv0 bv1 hURY.out bu01 bUR bu0 hgo
          have H2 := hid hi2
          have Hm : Hid (Kn.Inv R v1 _ a b) := hinv
          clear hinv hi2
          by_cases h1 : 4294967296 ≤ a
          rotate_left
          · have hm : 0 ≤ a * v0 ∧ a * v0 ≤ 18446744065119617025 := prod_bound a v0 ha0 (by omega) bv0 bv01
            have h2 : b * 4294967296 + u0 < a * v0 := by omega
            clear hgo
            by_cases h3 : 4294967296 ≤ b + v1
            · go_wp2_with fail
              go_meet
              case rel => exact ⟨_, rfl, H2.out.over rfl bv0 bv01 bv1 hURY.out bu0 h3, by omega, half_lt H2.out bv0 bv01 bv1 hURY.out bu0 bu01 bUR (H2.out.over rfl bv0 bv01 bv1 hURY.out bu0 h3), rfl⟩
            · go_wp2_with fail
              go_round
              case rel => exact ⟨_, _, rfl, rfl, H2.out, by omega⟩
              case measure => simp [intOf]; omega
          · clear hgo
            by_cases h3 : 4294967296 ≤ b + v1
            · go_wp2_with fail
              go_meet
              case rel => exact ⟨_, rfl, H2.out.over rfl bv0 bv01 bv1 hURY.out bu0 h3, by omega, half_lt H2.out bv0 bv01 bv1 hURY.out bu0 bu01 bUR (H2.out.over rfl bv0 bv01 bv1 hURY.out bu0 h3), rfl⟩
            · go_wp2_with fail
              go_round
              case rel => exact ⟨_, _, rfl, rfl, H2.out, by omega⟩
              case measure => simp [intOf]; omega
        · have ha1 : a ≤ 4294967295 := by omega
          have h2 : a * v0 ≤ b * 4294967296 + u0 := by omega
          have hm : 0 ≤ a * v0 ∧ a * v0 ≤ 18446744065119617025 := prod_bound a v0 ha0 (by omega) bv0 bv01
          have Hm : Hid (a = (R * 4294967296 + u0) / (v1 * 4294967296 + v0)) := hinv.done rfl bv0 bv1 h2
          clear hgo hinv
          go_wp2_with fail
          go_meet
          case rel => exact ⟨_, rfl, Hm, by omega, by omega, rfl⟩
    case rest =>
      obtain ⟨q0, rfl, hq0, bq0, bq01, rfl⟩ := hcut
      go_wp2_with fail
      go_ret2
      have hp : (0 : Int) < 2 ^ (64 - n) := Int.pow_pos (by omega)
      obtain ⟨c1, c2⟩ := Kn.both (U := U) (u1 := u1) (u0 := u0) (show 0 < Y by omega)
      obtain ⟨c3, c4⟩ := Kn.unshift (M := hi * 18446744073709551616 + lo) (y := y) hp
      rw [hN.out, hyY.out] at c3 c4
      refine ⟨ret_two ?_ ?_, rfl⟩
      · rw [← c3, c1, hq1.out, hq0.out, hYv.out, HRe.out]
      · rw [← c4, c2, wrap_u, wrap_u, wrap_u, wrap_u, hq0.out, hYv.out, Kn.rest_half (by omega) hY1, HRe.out]
theorem or_sum (a b : Int) (t : Nat) (ha : 0 ≤ a) (hb : 0 ≤ b) (hbt : b < 2 ^ t) (h : a * 2 ^ t + b ≤ 18446744073709551615) : bits .or .u64 (a * 2 ^ t) b = a * 2 ^ t + b := by
  obtain ⟨x, rfl⟩ := Int.eq_ofNat_of_zero_le ha
  obtain ⟨y, rfl⟩ := Int.eq_ofNat_of_zero_le hb
  have e : (x : Int) * 2 ^ t = ((2 ^ t * x : Nat) : Int) := by rw [Nat.mul_comm, Int.natCast_mul]; simp
  rw [e] at h ⊢
  have hy : y < 2 ^ t := by
    have : ((y : Nat) : Int) < ((2 ^ t : Nat) : Int) := by simpa using hbt
    omega
  rw [u64_or_nat _ _ (by omega) (by omega), ← Nat.two_pow_add_eq_or_of_lt hy]
  omega
theorem div64_great (hi lo y : Int) (w : World) (hh : 1 ≤ hi) (hhy : hi < y) (hl : 0 ≤ lo) (hl1 : lo ≤ 18446744073709551615) (hy1 : y ≤ 9223372036854775807) :
    Calls Tryz.prog 153 #[.int .u64 hi, .int .u64 lo, .int .u64 y] w fun e w' => e = .returned (.tuple #[.int .u64 ((hi * 18446744073709551616 + lo) / y), .int .u64 ((hi * 18446744073709551616 + lo) % y)]) ∧ w = w' := by
  obtain ⟨n, hn⟩ : ∃ n : Nat, bitLen y.toNat = n := ⟨_, rfl⟩
  obtain ⟨hs1, hs2⟩ := bitLen_spec y.toNat
  rw [hn] at hs1 hs2
  have hs3 := hs2 (by omega)
  clear hs2
  have hn63 : n ≤ 63 := by
    refine Nat.le_of_not_lt fun hlt => ?_
    have h2 : (2 : Nat) ^ 63 ≤ 2 ^ (n - 1) := Nat.pow_le_pow_right (by omega) (by omega)
    have h5 : (2 : Nat) ^ 63 = 9223372036854775808 := rfl
    rw [h5] at h2
    omega
  have hn1 : 1 ≤ n := by
    refine Nat.pos_of_ne_zero fun e => ?_
    subst e
    simp at hs1
    omega
  obtain ⟨K, hK⟩ : ∃ K : Int, (2 : Int) ^ (64 - n) = K := ⟨_, rfl⟩
  obtain ⟨J, hJ⟩ : ∃ J : Int, (2 : Int) ^ n = J := ⟨_, rfl⟩
  obtain ⟨J2, hJ2⟩ : ∃ J2 : Int, (2 : Int) ^ (n - 1) = J2 := ⟨_, rfl⟩
  have hK0 : 0 < K := by rw [← hK]; exact Int.pow_pos (by omega)
  have hJ0 : 0 < J := by rw [← hJ]; exact Int.pow_pos (by omega)
  have hKJ : K * J = 18446744073709551616 := by
    rw [← hK, ← hJ, ← Int.pow_add, show 64 - n + n = 64 by omega]; rfl
  have hJJ : J = 2 * J2 := by
    rw [← hJ, ← hJ2, ← Int.pow_succ', show n - 1 + 1 = n by omega]
  have hyJ : y < J := by
    have : ((y.toNat : Nat) : Int) < ((2 ^ n : Nat) : Int) := by omega
    rw [← hJ]; simp at this; omega
  have hyJ2 : J2 ≤ y := by
    have : ((2 ^ (n - 1) : Nat) : Int) ≤ ((y.toNat : Nat) : Int) := by omega
    rw [← hJ2]; simp at this; omega
  have hY0 : 9223372036854775808 ≤ y * K := by
    have h1 : J2 * K ≤ y * K := Int.mul_le_mul_of_nonneg_right hyJ2 (by omega)
    have h2 : K * J = 2 * (J2 * K) := by rw [hJJ]; grind
    omega
  have hY1 : y * K < 18446744073709551616 := by
    have h1 : y * K < J * K := Int.mul_lt_mul_of_pos_right hyJ hK0
    rw [Int.mul_comm J K] at h1; omega
  have hhi0 : 0 ≤ hi * K := Int.mul_nonneg (by omega) (by omega)
  have hhi1 : hi * K < y * K := Int.mul_lt_mul_of_pos_right hhy hK0
  have hhi2 : hi * K + K ≤ y * K := by
    have h1 : (hi + 1) * K ≤ y * K := Int.mul_le_mul_of_nonneg_right (by omega) (by omega)
    rw [Int.add_mul, Int.one_mul] at h1; exact h1
  have hlJ : 0 ≤ lo / J := Int.ediv_nonneg hl (by omega)
  have hlK : lo / J < K := (Int.ediv_lt_iff_lt_mul hJ0).2 (by omega)
  have hsh := Kn.shifted (hi := hi) (lo := lo) hK0 hJ0 hKJ
  obtain ⟨Y, hY⟩ : ∃ Y, y * K = Y := ⟨_, rfl⟩
  obtain ⟨L, hL⟩ : ∃ L, lo * K % 18446744073709551616 = L := ⟨_, rfl⟩
  have hL0 : 0 ≤ L := by rw [← hL]; omega
  have hL1 : L < 18446744073709551616 := by rw [← hL]; omega
  rw [hL] at hsh
  rw [hY] at hY0 hY1 hhi1 hhi2
  have eU : bits .or .u64 (IntKind.u64.wrap (hi * 2 ^ (64 - n))) (lo / 2 ^ (64 - (64 - n))) = hi * K + lo / J := by
    rw [wrap_u, hK, Int.emod_eq_of_lt hhi0 (by omega), show 64 - (64 - n) = n by omega, hJ]
    have := or_sum hi (lo / J) (64 - n) (by omega) hlJ (by rw [hK]; exact hlK) (by rw [hK]; omega)
    rw [hK] at this; exact this
  have hv0 := and_low32 Y (by omega) (by omega)
  have hu0 := and_low32 L hL0 hL1
  refine div64_core hi lo y Y (Y / 4294967296) (Y % 4294967296) (hi * K + lo / J) L (L / 4294967296) (L % 4294967296) n w hh hhy hl hl1 hy1 hn hn63
    (by rw [wrap_u, hK, hY]; omega) (by omega) (by omega) rfl hv0 eU (by rw [wrap_u, hK]; exact hL) rfl hu0 (by omega) (by omega) (by omega) (by omega) (by omega) (by omega) (by omega) (by omega) (by omega) (by omega)
    (by show _ < _; omega) (by show _ = _; omega) (by show _ = _; rw [hK]; exact hY) (by show _ = _; rw [hK, hsh]; omega)
end Go.Proofs.YtdnlejboijkcfaaGreatDoor
end
section
namespace Go.Proofs.YtdnlejboijkcfaaGreatDoor
set_option maxHeartbeats 8000000
open Go.RowKit
namespace Rk
def addOk (a b : Int) : Bool := decide (0 ≤ a ∧ 0 ≤ b ∧ a + b ≤ 9223372036854775807)
def addV (a b : Int) : Int := if addOk a b then a + b else 0
def mulOk (a b : Int) : Bool := decide (0 ≤ a ∧ 0 ≤ b ∧ a * b ≤ 9223372036854775807)
def mulV (a b : Int) : Int := if mulOk a b then a * b else 0
def divOk (a b : Int) : Bool := decide (0 ≤ a ∧ 1 ≤ b)
def divV (a b : Int) : Int := if divOk a b then a / b else 0
def upV (a b : Int) : Int := if divOk a b then (if 0 < a % b then a / b + 1 else a / b) else 0
end Rk
open Rk
theorem div_any (a b : Int) (w : World) (_ha : -9223372036854775808 ≤ a) (_ha1 : a ≤ 9223372036854775807) (_hb : -9223372036854775808 ≤ b) (_hb1 : b ≤ 9223372036854775807) :
    Calls Tryz.prog 103 #[.int .i64 a, .int .i64 b] w fun e w' => e = .returned (.tuple #[.int .i64 (divV a b), .bool (divOk a b)]) ∧ w = w' := by
  by_cases h1 : 0 ≤ a <;> by_cases h2 : 1 ≤ b
  all_goals
    go_enter Tryz.func103, Tryz.ntmps103
    go_wp2
    go_ret2
    refine ⟨ret_ib ?_ ?_, rfl⟩
    all_goals (simp [divV, divOk] <;> omega)
namespace Rk
def capV (n : Int) : Int := if n ≤ 9223372036854775807 then n else 0
def capOk (n : Int) : Bool := decide (n ≤ 9223372036854775807)
theorem mul_cap {a b : Int} (h1 : 0 ≤ a) (h2 : 0 ≤ b) : mulV a b = capV (a * b) ∧ mulOk a b = capOk (a * b) := by
  unfold mulV mulOk capV capOk
  by_cases h : a * b ≤ 9223372036854775807 <;> simp [h1, h2, h]
end Rk
theorem count_any (n : Int) (w : World) (_h0 : 0 ≤ n) (_h1 : n ≤ 18446744073709551615) :
    Calls Tryz.prog 108 #[.int .u64 n] w fun e w' => e = .returned (.tuple #[.int .i64 (capV n), .bool (capOk n)]) ∧ w = w' := by
  by_cases h : n ≤ 9223372036854775807
  all_goals
    go_enter Tryz.func108, Tryz.ntmps108
    go_wp2
    go_ret2
    refine ⟨ret_ib ?_ ?_, rfl⟩
    all_goals (simp [capV, capOk] <;> omega)
theorem mul_any (a b : Int) (w : World) (_ha : -9223372036854775808 ≤ a) (ha1 : a ≤ 9223372036854775807) (_hb : -9223372036854775808 ≤ b) (hb1 : b ≤ 9223372036854775807) :
    Calls Tryz.prog 104 #[.int .i64 a, .int .i64 b] w fun e w' => e = .returned (.tuple #[.int .i64 (mulV a b), .bool (mulOk a b)]) ∧ w = w' := by
  by_cases h0 : 0 ≤ a ∧ 0 ≤ b
  · obtain ⟨h1, h2⟩ := h0
    have e0 : 0 ≤ a * b := Int.mul_nonneg h1 h2
    obtain ⟨P, hP⟩ : ∃ P, a * b = P := ⟨_, rfl⟩
    rw [hP] at e0
    have HP := hid hP
    clear hP
    have e1 : 0 ≤ P / 18446744073709551616 := by omega
    by_cases h3 : 0 < P / 18446744073709551616
    · go_enter Tryz.func104, Tryz.ntmps104
      go_wp2_with (go_at_call 105; go_in)
      refine (mul64_any _ _ _ h1 h2 (by omega) (by omega)).mono ?_
      rintro e w' ⟨rfl, rfl⟩
      rw [HP.out]
      go_wp2
      go_ret2
      refine ⟨ret_ib ?_ ?_, rfl⟩
      all_goals (simp [mulV, mulOk, HP.out] <;> omega)
    · have e2 : P % 18446744073709551616 = P := by omega
      have E2 := hid e2
      clear e2
      go_enter Tryz.func104, Tryz.ntmps104
      go_wp2_with (go_at_call 105; go_in)
      refine (mul64_any _ _ _ h1 h2 (by omega) (by omega)).mono ?_
      rintro e w' ⟨rfl, rfl⟩
      rw [HP.out, E2.out]
      go_wp2_with fail
      refine (count_any _ _ e0 (by omega)).mono ?_
      rintro e w' ⟨rfl, rfl⟩
      go_wp2
      go_ret2
      obtain ⟨c1, c2⟩ := mul_cap h1 h2
      exact ⟨ret_ib (by rw [c1, HP.out]) (by rw [c2, HP.out]), rfl⟩
  · by_cases h1 : 0 ≤ a <;> by_cases h2 : 0 ≤ b
    · exact absurd ⟨h1, h2⟩ h0
    all_goals
      clear h0
      go_enter Tryz.func104, Tryz.ntmps104
      go_wp2
      go_ret2
      refine ⟨ret_ib ?_ ?_, rfl⟩
      all_goals (simp [mulV, mulOk] <;> omega)
end Go.Proofs.YtdnlejboijkcfaaGreatDoor
end
section
namespace Go.Proofs.YtdnlejboijkcfaaGreatDoor
set_option maxHeartbeats 8000000
open Go.RowKit Rk
def Drawn (w w' : World) : Prop := ∃ n, w' = w.drewN n
theorem Drawn.refl (w : World) : Drawn w w := ⟨0, rfl⟩
theorem div64_any (hi lo y : Int) (w : World) (hh : 0 ≤ hi) (hhy : hi < y) (hl : 0 ≤ lo) (hl1 : lo ≤ 18446744073709551615) (hy1 : y ≤ 9223372036854775807) :
    Calls Tryz.prog 153 #[.int .u64 hi, .int .u64 lo, .int .u64 y] w fun e w' => e = .returned (.tuple #[.int .u64 ((hi * 18446744073709551616 + lo) / y), .int .u64 ((hi * 18446744073709551616 + lo) % y)]) ∧ Drawn w w' := by
  by_cases h : hi = 0
  · subst h
    refine (div64_small lo y w hl hl1 (by omega) (by omega)).mono ?_
    rintro e w' ⟨rfl, hd⟩
    exact ⟨by simp, hd⟩
  · refine (div64_great hi lo y w (by omega) hhy hl hl1 hy1).mono ?_
    rintro e w' ⟨rfl, rfl⟩
    exact ⟨rfl, Drawn.refl _⟩
theorem share_no (n num den : Int) (w : World) (_hn : -9223372036854775808 ≤ n) (_hn1 : n ≤ 9223372036854775807) (_hm : -9223372036854775808 ≤ num) (_hm1 : num ≤ 9223372036854775807) (_hd : -9223372036854775808 ≤ den) (_hd1 : den ≤ 9223372036854775807)
    (h : ¬ (0 ≤ n ∧ 0 ≤ num ∧ 1 ≤ den)) :
    Calls Tryz.prog 107 #[.int .i64 n, .int .i64 num, .int .i64 den] w fun e w' => e = .returned (.tuple #[.int .u64 0, .int .u64 0, .bool false]) ∧ w = w' := by
  by_cases h1 : 0 ≤ n <;> by_cases h2 : 0 ≤ num <;> by_cases h3 : 1 ≤ den
  · exact absurd ⟨h1, h2, h3⟩ h
  all_goals
    clear h
    go_enter Tryz.func107, Tryz.ntmps107
    go_wp2
    go_ret3
    exact ⟨rfl, rfl⟩
theorem share_far (n num den N : Int) (w : World) (hn : 0 ≤ n) (hn1 : n ≤ 9223372036854775807) (hm : 0 ≤ num) (hm1 : num ≤ 9223372036854775807) (hd : 1 ≤ den) (hd1 : den ≤ 9223372036854775807)
    (hN : Hid (n * num = N)) (h : den ≤ N / 18446744073709551616) :
    Calls Tryz.prog 107 #[.int .i64 n, .int .i64 num, .int .i64 den] w fun e w' => e = .returned (.tuple #[.int .u64 0, .int .u64 0, .bool false]) ∧ w = w' := by
  go_enter Tryz.func107, Tryz.ntmps107
  go_wp2_with (go_at_call 105; go_in)
  refine (mul64_any _ _ _ hn hm (by omega) (by omega)).mono ?_
  rintro e w' ⟨rfl, rfl⟩
  rw [hN.out]
  go_wp2_with fail
  go_ret3
  exact ⟨rfl, rfl⟩
theorem share_yes (n num den N : Int) (w : World) (hn : 0 ≤ n) (hn1 : n ≤ 9223372036854775807) (hm : 0 ≤ num) (hm1 : num ≤ 9223372036854775807) (hd : 1 ≤ den) (hd1 : den ≤ 9223372036854775807)
    (hN : Hid (n * num = N)) (h0 : 0 ≤ N) (h : N / 18446744073709551616 < den) :
    Calls Tryz.prog 107 #[.int .i64 n, .int .i64 num, .int .i64 den] w fun e w' => e = .returned (.tuple #[.int .u64 (N / den), .int .u64 (N % den), .bool true]) ∧ Drawn w w' := by
  obtain ⟨hi, ehi⟩ : ∃ hi, N / 18446744073709551616 = hi := ⟨_, rfl⟩
  obtain ⟨lo, elo⟩ : ∃ lo, N % 18446744073709551616 = lo := ⟨_, rfl⟩
  have hh : 0 ≤ hi := by omega
  have hl : 0 ≤ lo := by omega
  have hl1 : lo ≤ 18446744073709551615 := by omega
  rw [ehi] at h
  have e : hi * 18446744073709551616 + lo = N := by omega
  have E := hid e
  have Ehi := hid ehi
  have Elo := hid elo
  clear e ehi elo
  go_enter Tryz.func107, Tryz.ntmps107
  go_wp2_with (go_at_call 105; go_in)
  refine (mul64_any _ _ _ hn hm (by omega) (by omega)).mono ?_
  rintro e w' ⟨rfl, rfl⟩
  rw [hN.out, Ehi.out, Elo.out]
  go_wp2_with fail
  refine (div64_any _ _ _ _ hh h hl hl1 hd1).mono ?_
  rintro e w' ⟨rfl, k, rfl⟩
  rw [E.out]
  go_wp2_with fail
  go_ret3
  exact ⟨rfl, k, rfl⟩
end Go.Proofs.YtdnlejboijkcfaaGreatDoor
end
section
namespace Go.Proofs.YtdnlejboijkcfaaGreatDoor
set_option maxHeartbeats 8000000
namespace Rk
def val : List Int → Int
  | [] => 0
  | x :: r => x + 1000 * val r
def Dig (xs : List Int) : Prop := ∀ x, x ∈ xs → 0 ≤ x ∧ x ≤ 999
def pw : Nat → Int
  | 0 => 1
  | k + 1 => 1000 * pw k
theorem pw_succ (k : Nat) : pw (k + 1) = 1000 * pw k := rfl
theorem val_snoc (xs : List Int) (c : Int) : val (xs ++ [c]) = val xs + pw xs.length * c := by
  induction xs with
  | nil => simp [val, pw]
  | cons x r ih =>
    simp only [List.cons_append, val, ih, List.length_cons, pw_succ]
    grind
def sgn (a b : Int) : Int := if a < b then -1 else if b < a then 1 else 0
def p2 : Nat → Int
  | 0 => 1
  | e + 1 => 2 * p2 e
def BitOf (b t : Int) : Prop := (b = 0 ∧ t = 1) ∨ ∃ e, b = p2 e ∧ t = 2 * p2 e
def Quoted (x n q t : Int) : Prop := 0 ≤ q ∧ q + t - 1 ≤ 9223372036854775807 ∧ q * n ≤ x ∧ (q + t - 1 = 9223372036854775807 ∨ x < (q + t) * n)
end Rk
end Go.Proofs.YtdnlejboijkcfaaGreatDoor
end
section
namespace Go.Proofs.YtdnlejboijkcfaaGreatDoor
set_option maxHeartbeats 8000000
open Go.RowKit Rk
namespace Rk
def asked (n num den : Int) : Bool := decide (0 ≤ n ∧ 0 ≤ num ∧ 1 ≤ den)
def upq (x n : Int) : Int := if 0 < x % n then x / n + 1 else x / n
def partUpV (n num den : Int) : Int := if asked n num den then capV (upq (n * num) den) else 0
def partUpOk (n num den : Int) : Bool := asked n num den && capOk (upq (n * num) den)
theorem far_quot {N den : Int} (hd : 1 ≤ den) (h : den ≤ N / 18446744073709551616) : 18446744073709551616 ≤ N / den :=
  Int.le_ediv_of_mul_le (by omega) (by omega)
theorem near_quot {N den : Int} (hd : 1 ≤ den) (h : N / 18446744073709551616 < den) : N / den < 18446744073709551616 :=
  (Int.ediv_lt_iff_lt_mul (by omega)).2 (by omega)
theorem upq_le (x n : Int) : x / n ≤ upq x n := by unfold upq; split <;> omega
theorem capV_no {n : Int} (h : 9223372036854775807 < n) : capV n = 0 ∧ capOk n = false := by simp [capV, capOk]; omega
end Rk
theorem partup_any (n num den : Int) (w : World) (hn : -9223372036854775808 ≤ n) (hn1 : n ≤ 9223372036854775807) (hm : -9223372036854775808 ≤ num) (hm1 : num ≤ 9223372036854775807) (hd : -9223372036854775808 ≤ den) (hd1 : den ≤ 9223372036854775807) :
    Calls Tryz.prog 53 #[.int .i64 n, .int .i64 num, .int .i64 den] w fun e w' => e = .returned (.tuple #[.int .i64 (partUpV n num den), .bool (partUpOk n num den)]) ∧ Drawn w w' := by
  by_cases h : 0 ≤ n ∧ 0 ≤ num ∧ 1 ≤ den
  · have ha : asked n num den = true := by simp [asked]; exact h
    obtain ⟨N, hN⟩ : ∃ N, n * num = N := ⟨_, rfl⟩
    have hN0 : 0 ≤ N := by rw [← hN]; exact Int.mul_nonneg h.1 h.2.1
    obtain ⟨h1, h2, h3⟩ := h
    have e1 : partUpV n num den = capV (upq N den) := by unfold partUpV; rw [if_pos ha, hN]
    have e2 : partUpOk n num den = capOk (upq N den) := by unfold partUpOk; rw [ha, hN]; rfl
    rw [e1, e2]
    have HN := hid hN
    clear ha hN e1 e2
    by_cases hf : den ≤ N / 18446744073709551616
    · have hq := far_quot h3 hf
      have hu := upq_le N den
      obtain ⟨c1, c2⟩ := capV_no (n := upq N den) (by omega)
      rw [c1, c2]
      clear c1 c2 hq hu
      go_enter Tryz.func53, Tryz.ntmps53
      go_wp2_with fail
      refine (share_far n num den N w h1 hn1 h2 hm1 h3 hd1 HN hf).mono ?_
      rintro e w' ⟨rfl, rfl⟩
      go_wp2_with fail
      go_ret2
      exact ⟨rfl, Drawn.refl _⟩
    · have hq := near_quot h3 (Int.lt_of_not_ge hf)
      have hq0 : 0 ≤ N / den := Int.ediv_nonneg hN0 (by omega)
      have hr0 : 0 ≤ N % den := Int.emod_nonneg N (by omega)
      have hr1 : N % den < den := Int.emod_lt_of_pos N (by omega)
      have HU : Hid (upq N den = if 0 < N % den then N / den + 1 else N / den) := rfl
      generalize hQ : N / den = Q at *
      generalize hR : N % den = R at *
      generalize hUU : upq N den = U at *
      have HQ := hid hQ
      have HR := hid hR
      clear hQ hR hUU
      by_cases hb : 9223372036854775807 < Q
      · obtain ⟨c1, c2⟩ := capV_no (n := U) (by have := HU.out; split at this <;> omega)
        rw [c1, c2]
        clear c1 c2
        go_enter Tryz.func53, Tryz.ntmps53
        go_wp2_with fail
        refine (share_yes n num den N w h1 hn1 h2 hm1 h3 hd1 HN hN0 (by omega)).mono ?_
        rintro e w' ⟨rfl, k, rfl⟩
        rw [HQ.out, HR.out]
        go_wp2_with fail
        go_ret2
        exact ⟨rfl, k, rfl⟩
      · by_cases hrp : 0 < R
        · have hu : U = Q + 1 := by have := HU.out; rw [if_pos hrp] at this; exact this
          subst hu
          go_enter Tryz.func53, Tryz.ntmps53
          go_wp2_with fail
          refine (share_yes n num den N w h1 hn1 h2 hm1 h3 hd1 HN hN0 (by omega)).mono ?_
          rintro e w' ⟨rfl, k, rfl⟩
          rw [HQ.out, HR.out]
          go_wp2_with fail
          refine (count_any _ _ (by omega) (by omega)).mono ?_
          rintro e w' ⟨rfl, rfl⟩
          go_wp2_with fail
          go_ret2
          exact ⟨rfl, k, rfl⟩
        · have hu : U = Q := by have := HU.out; rw [if_neg hrp] at this; exact this
          subst hu
          go_enter Tryz.func53, Tryz.ntmps53
          go_wp2_with fail
          refine (share_yes n num den N w h1 hn1 h2 hm1 h3 hd1 HN hN0 (by omega)).mono ?_
          rintro e w' ⟨rfl, k, rfl⟩
          rw [HQ.out, HR.out]
          go_wp2_with fail
          refine (count_any _ _ (by omega) (by omega)).mono ?_
          rintro e w' ⟨rfl, rfl⟩
          go_wp2_with fail
          go_ret2
          exact ⟨rfl, k, rfl⟩
  · have ha : asked n num den = false := by simp [asked]; omega
    have e1 : partUpV n num den = 0 := by unfold partUpV; rw [if_neg (by simp [ha])]
    have e2 : partUpOk n num den = false := by unfold partUpOk; rw [ha]; rfl
    rw [e1, e2]
    clear ha e1 e2
    go_enter Tryz.func53, Tryz.ntmps53
    go_wp2_with fail
    refine (share_no n num den w hn hn1 hm hm1 hd hd1 h).mono ?_
    rintro e w' ⟨rfl, rfl⟩
    go_wp2_with fail
    go_ret2
    exact ⟨rfl, Drawn.refl _⟩
end Go.Proofs.YtdnlejboijkcfaaGreatDoor
end
section
namespace Go.Proofs.YtdnlejboijkcfaaGreatDoor
set_option maxHeartbeats 8000000
open Go.RowKit Rk
end Go.Proofs.YtdnlejboijkcfaaGreatDoor
end
section
namespace Go.Proofs.YtdnlejboijkcfaaGreatDoor
set_option maxHeartbeats 8000000
open Go.RowKit Rk
end Go.Proofs.YtdnlejboijkcfaaGreatDoor
end
section
namespace Go.Proofs.YtdnlejboijkcfaaGreatDoor
set_option maxHeartbeats 8000000
open Go.RowKit Rk
end Go.Proofs.YtdnlejboijkcfaaGreatDoor
end
section
namespace Go.Proofs.YtdnlejboijkcfaaGreatDoor
set_option maxHeartbeats 8000000
open Go.RowKit Rk
end Go.Proofs.YtdnlejboijkcfaaGreatDoor
end
section
namespace Go.Proofs.YtdnlejboijkcfaaGreatDoor
set_option maxHeartbeats 8000000
open Go.RowKit Rk
end Go.Proofs.YtdnlejboijkcfaaGreatDoor
end
section
namespace Go.Proofs.YtdnlejboijkcfaaGreatDoor
set_option maxHeartbeats 8000000
open Go.RowKit Rk
namespace Rk
def orderOk (a b c d : Int) : Bool := decide (0 ≤ a ∧ 0 ≤ b ∧ 0 ≤ c ∧ 0 ≤ d)
def orderV (a b c d : Int) : Int := if orderOk a b c d then sgn (a * b) (c * d) else 0
end Rk
theorem order_any (a b c d : Int) (w : World) (_ha : -9223372036854775808 ≤ a) (_ha1 : a ≤ 9223372036854775807) (_hb : -9223372036854775808 ≤ b) (_hb1 : b ≤ 9223372036854775807)
    (_hc : -9223372036854775808 ≤ c) (_hc1 : c ≤ 9223372036854775807) (_hd : -9223372036854775808 ≤ d) (_hd1 : d ≤ 9223372036854775807) :
    Calls Tryz.prog 49 #[.int .i64 a, .int .i64 b, .int .i64 c, .int .i64 d] w fun e w' => e = .returned (.tuple #[.int .i64 (orderV a b c d), .bool (orderOk a b c d)]) ∧ w = w' := by
  by_cases h : 0 ≤ a ∧ 0 ≤ b ∧ 0 ≤ c ∧ 0 ≤ d
  · have e1 : orderOk a b c d = true := by simp [orderOk]; exact h
    have e2 : orderV a b c d = sgn (a * b) (c * d) := by unfold orderV; rw [if_pos e1]
    rw [e1, e2]
    clear e1 e2
    obtain ⟨h1, h2, h3, h4⟩ := h
    have p0 : 0 ≤ a * b := Int.mul_nonneg h1 h2
    have r0 : 0 ≤ c * d := Int.mul_nonneg h3 h4
    obtain ⟨P, hP⟩ : ∃ P, a * b = P := ⟨_, rfl⟩
    obtain ⟨R, hR⟩ : ∃ R, c * d = R := ⟨_, rfl⟩
    rw [hP] at p0
    rw [hR] at r0
    obtain ⟨p, ep⟩ : ∃ p, P / 18446744073709551616 = p := ⟨_, rfl⟩
    obtain ⟨q, eq⟩ : ∃ q, P % 18446744073709551616 = q := ⟨_, rfl⟩
    obtain ⟨r, er⟩ : ∃ r, R / 18446744073709551616 = r := ⟨_, rfl⟩
    obtain ⟨s, es⟩ : ∃ s, R % 18446744073709551616 = s := ⟨_, rfl⟩
    have bp : 0 ≤ p := by omega
    have bq : 0 ≤ q ∧ q ≤ 18446744073709551615 := by omega
    have br : 0 ≤ r := by omega
    have bs : 0 ≤ s ∧ s ≤ 18446744073709551615 := by omega
    have HS : Hid (sgn P R = if p < r then -1 else if r < p then 1 else if q < s then -1 else if s < q then 1 else 0) := by
      show sgn P R = _
      unfold sgn
      by_cases c1 : p < r
      · rw [if_pos c1, if_pos (by omega)]
      · by_cases c2 : r < p
        · rw [if_neg c1, if_pos c2, if_neg (by omega), if_pos (by omega)]
        · by_cases c3 : q < s
          · rw [if_neg c1, if_neg c2, if_pos c3, if_pos (by omega)]
          · by_cases c4 : s < q
            · rw [if_neg c1, if_neg c2, if_neg c3, if_pos c4, if_neg (by omega), if_pos (by omega)]
            · rw [if_neg c1, if_neg c2, if_neg c3, if_neg c4, if_neg (by omega), if_neg (by omega)]
    rw [hP, hR]
    have HP := hid hP
    have HR := hid hR
    have Ep := hid ep
    have Eq := hid eq
    have Er := hid er
    have Es := hid es
    generalize sgn P R = S at *
    clear hP hR ep eq er es p0 r0
    by_cases c1 : p < r
    rotate_left
    by_cases c2 : r < p
    rotate_left
    by_cases c3 : q < s
    rotate_left
    by_cases c4 : s < q
    all_goals
      go_enter Tryz.func49, Tryz.ntmps49
      go_wp2_with (go_at_call 105; go_in)
      refine (mul64_any _ _ _ h1 h2 (by omega) (by omega)).mono ?_
      rintro e w' ⟨rfl, rfl⟩
      rw [HP.out, Ep.out, Eq.out]
      go_wp2_with fail
      refine (mul64_any _ _ _ h3 h4 (by omega) (by omega)).mono ?_
      rintro e w' ⟨rfl, rfl⟩
      rw [HR.out, Er.out, Es.out]
      go_wp2_with fail
      go_ret2
      refine ⟨ret_ib ?_ rfl, rfl⟩
      rw [HS.out]
      repeat (first | rw [if_pos (by omega)] | rw [if_neg (by omega)])
  · have e1 : orderOk a b c d = false := by simp [orderOk]; omega
    have e2 : orderV a b c d = 0 := by unfold orderV; rw [if_neg (by simp [e1])]
    rw [e1, e2]
    clear e1 e2
    by_cases h1 : 0 ≤ a <;> by_cases h2 : 0 ≤ b <;> by_cases h3 : 0 ≤ c <;> by_cases h4 : 0 ≤ d
    · exact absurd ⟨h1, h2, h3, h4⟩ h
    all_goals
      clear h
      go_enter Tryz.func49, Tryz.ntmps49
      go_wp2
      go_ret2
      exact ⟨rfl, rfl⟩
end Go.Proofs.YtdnlejboijkcfaaGreatDoor
end
section
namespace Go.Proofs.YtdnlejboijkcfaaGreatDoor
set_option maxHeartbeats 8000000
open Go.RowKit Rk
theorem Drawn.below {w w' : World} (h : Drawn w w') (B : Nat) : Below B w w' := by obtain ⟨n, rfl⟩ := h; exact below_drewN (Below.refl _ _) n
end Go.Proofs.YtdnlejboijkcfaaGreatDoor
end
