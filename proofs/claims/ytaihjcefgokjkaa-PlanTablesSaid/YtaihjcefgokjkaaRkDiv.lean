/- The walk of math/bits' Div64. -/
import Derived.Test.YtaihjcefgokjkaaRkBits
import Derived.Test.YtaihjcefgokjkaaRkKnuth
import Derived.Deep.DeepCutAuto
import Derived.Deep.CutBlock
namespace Go.Proofs.Ytaihjcefgokjkaa
open Go.RowKit

theorem bitLen_le64 (a : Int) (ha : 0 ≤ a) (ha1 : a ≤ 18446744073709551615) : ((bitLen a.toNat : Nat) : Int) ≤ 64 := by
  have hc := (bitLen_spec a.toNat).2
  by_cases h0 : a.toNat = 0
  · rw [h0]; decide
  · have h := hc h0
    by_cases hlt : bitLen a.toNat ≤ 64
    · omega
    · exfalso
      have h2 : (2 : Nat) ^ 64 ≤ 2 ^ (bitLen a.toNat - 1) := Nat.pow_le_pow_right (by omega) (by omega)
      have h4 := Nat.le_trans h2 h
      have h5 : (2 : Nat) ^ 64 = 18446744073709551616 := rfl
      rw [h5] at h4
      omega

set_option maxHeartbeats 400000 in
theorem lz64_any (a : Int) (w : World) (ha : 0 ≤ a) (ha1 : a ≤ 18446744073709551615) :
    Calls Try.prog 56 #[.int .u64 a] w fun e w' => e = .returned (.int .i64 (64 - (bitLen a.toNat : Int))) ∧ w = w' := by
  have hb := bitLen_le64 a ha ha1
  generalize hq : bitLen a.toNat = q at *
  have Hq := hid hq
  clear hq
  go_enter Try.func56, Try.ntmps56
  go_wp2_with fail
  refine (len64_any a w ha ha1).mono ?_
  rintro e w' ⟨rfl, rfl⟩
  rw [Hq.out]
  go_wp2
  go_ret
  exact ⟨rfl, rfl⟩

set_option maxHeartbeats 400000 in
theorem div64_small (lo y : Int) (w : World) (hl : 0 ≤ lo) (hl1 : lo ≤ 18446744073709551615) (hy : 1 ≤ y) (hy1 : y ≤ 18446744073709551615) :
    Calls Try.prog 54 #[.int .u64 0, .int .u64 lo, .int .u64 y] w fun e w' => e = .returned (.tuple #[.int .u64 (lo / y), .int .u64 (lo % y)]) ∧ ∃ n, w' = w.drewN n := by
  go_enter Try.func54, Try.ntmps54
  go_wp2
  go_quiet (fail)
  go_wp2
  go_ret2
  exact ⟨rfl, _, rfl⟩

/-- The loop for one half. -/
def HalfRel (U v1 v0 u1 : Int) (q r : Value) : Prop :=
  ∃ a b : Int, q = .int .u64 a ∧ r = .int .u64 b ∧ Kn.Inv U v1 ((U * 4294967296 + u1) / (v1 * 4294967296 + v0)) a b ∧ b ≤ 4294967295
/-- What it ends with. -/
def HalfEnd (U v1 v0 u1 : Int) (w : World) (q : Value) (w' : World) : Prop :=
  ∃ a : Int, q = .int .u64 a ∧ Hid (a = (U * 4294967296 + u1) / (v1 * 4294967296 + v0)) ∧ 0 ≤ a ∧ a ≤ 4294967295 ∧ w = w'

theorem half_lt {U v1 v0 u1 q r : Int} (h : Kn.Inv U v1 ((U * 4294967296 + u1) / (v1 * 4294967296 + v0)) q r) (hv0 : 0 ≤ v0) (_hv01 : v0 ≤ 4294967295) (hv1 : 1 ≤ v1) (hU : U < v1 * 4294967296 + v0) (_hu0 : 0 ≤ u1) (hu1 : u1 ≤ 4294967295) (_hU0 : 0 ≤ U)
    (hq : q = (U * 4294967296 + u1) / (v1 * 4294967296 + v0)) : q ≤ 4294967295 := by
  have := Kn.quot_small hv0 hv1 hU hu1
  have := h.2.2.1
  omega

set_option maxHeartbeats 1000000 in
theorem div64_core (hi lo y Y v1 v0 U L u1 u0 : Int) (n : Nat) (w : World) (hh : 1 ≤ hi) (hhy : hi < y) (_hl : 0 ≤ lo) (_hl1 : lo ≤ 18446744073709551615) (hy1 : y ≤ 9223372036854775807)
    (Hs : Hid (bitLen y.toNat = n)) (hn : n ≤ 63)
    (hY : IntKind.u64.wrap (y * 2 ^ (64 - n)) = Y) (hY0 : 0 ≤ Y) (hY1 : Y ≤ 18446744073709551615)
    (hv1 : Y / 4294967296 = v1) (hv0 : bits .and .u64 Y 4294967295 = v0)
    (hU : bits .or .u64 (IntKind.u64.wrap (hi * 2 ^ (64 - n))) (lo / 2 ^ (64 - (64 - n))) = U) (hL : IntKind.u64.wrap (lo * 2 ^ (64 - n)) = L)
    (hu1 : L / 4294967296 = u1) (hu0 : bits .and .u64 L 4294967295 = u0)
    (bU : 0 ≤ U) (bU1 : U ≤ 18446744073709551615) (bv1 : 1 ≤ v1) (bv11 : v1 ≤ 4294967295) (bv0 : 0 ≤ v0) (bv01 : v0 ≤ 4294967295) (bu1 : 0 ≤ u1) (bu11 : u1 ≤ 4294967295) (bu0 : 0 ≤ u0) (bu01 : u0 ≤ 4294967295)
    (hUY : Hid (U < v1 * 4294967296 + v0)) (hYv : Hid (v1 * 4294967296 + v0 = Y))
    (hyY : Hid (y * 2 ^ (64 - n) = Y)) (hN : Hid ((hi * 18446744073709551616 + lo) * 2 ^ (64 - n) = U * 18446744073709551616 + (u1 * 4294967296 + u0))) :
    Calls Try.prog 54 #[.int .u64 hi, .int .u64 lo, .int .u64 y] w fun e w' => e = .returned (.tuple #[.int .u64 ((hi * 18446744073709551616 + lo) / y), .int .u64 ((hi * 18446744073709551616 + lo) % y)]) ∧ w = w' := by
  go_enter Try.func54, Try.ntmps54
  go_wp2_with fail
  refine (lz64_any y w (by omega) (by omega)).mono ?_
  rintro e w' ⟨rfl, rfl⟩
  rw [Hs.out]
  go_upto_block 0 with (fail)
  go_cut [15, 16] (fun q _ wx => HalfEnd U v1 v0 u1 w q wx)
  case first =>
    go_wp2_with fail
    go_loop [15, 16] (fun q r => HalfRel U v1 v0 u1 q r) (fun q _ => (intOf q).toNat)
    case atStart =>
      obtain ⟨s1, s2⟩ := Kn.Inv.start (u1 := u1) bU bv0 bv1 bu1 bu11
      exact ⟨_, _, rfl, by rw [wrap_u, wrap_u, Kn.rest_div bU bU1 bv1], s1, by omega⟩
    case round =>
      obtain ⟨a, b, rfl, rfl, hinv, hb⟩ := hrel
      have ha0 := hinv.2.2.1
      have hb0 := hinv.2.1
      have hau := hinv.le bv1
      by_cases hgo : 4294967296 ≤ a ∨ b * 4294967296 + u1 < a * v0
      · obtain ⟨hi2, hbU, ha1⟩ := hinv.more rfl bv0 bv1 hUY.out bu11 bU bu1 hgo
        have H2 := hid hi2
        have Hm : Hid (Kn.Inv U v1 _ a b) := hinv
        clear hinv hi2
        by_cases h1 : 4294967296 ≤ a
        rotate_left
        · have hm : 0 ≤ a * v0 ∧ a * v0 ≤ 18446744065119617025 := prod_bound a v0 ha0 (by omega) bv0 bv01
          have h2 : b * 4294967296 + u1 < a * v0 := by omega
          clear hgo
          by_cases h3 : 4294967296 ≤ b + v1
          · go_wp2_with fail
            go_meet
            case rel => exact ⟨_, rfl, H2.out.over rfl bv0 bv01 bv1 hUY.out bu1 h3, by omega, half_lt H2.out bv0 bv01 bv1 hUY.out bu1 bu11 bU (H2.out.over rfl bv0 bv01 bv1 hUY.out bu1 h3), rfl⟩
          · go_wp2_with fail
            go_round
            case rel => exact ⟨_, _, rfl, rfl, H2.out, by omega⟩
            case measure => simp [intOf]; omega
        · clear hgo
          by_cases h3 : 4294967296 ≤ b + v1
          · go_wp2_with fail
            go_meet
            case rel => exact ⟨_, rfl, H2.out.over rfl bv0 bv01 bv1 hUY.out bu1 h3, by omega, half_lt H2.out bv0 bv01 bv1 hUY.out bu1 bu11 bU (H2.out.over rfl bv0 bv01 bv1 hUY.out bu1 h3), rfl⟩
          · go_wp2_with fail
            go_round
            case rel => exact ⟨_, _, rfl, rfl, H2.out, by omega⟩
            case measure => simp [intOf]; omega
      · have ha1 : a ≤ 4294967295 := by omega
        have h2 : a * v0 ≤ b * 4294967296 + u1 := by omega
        have hm : 0 ≤ a * v0 ∧ a * v0 ≤ 18446744065119617025 := prod_bound a v0 ha0 (by omega) bv0 bv01
        have Hm : Hid (a = (U * 4294967296 + u1) / (v1 * 4294967296 + v0)) := hinv.done rfl bv0 bv1 h2
        clear hgo hinv
        go_wp2_with fail
        go_meet
        case rel => exact ⟨_, rfl, Hm, by omega, by omega, rfl⟩
  case rest =>
    obtain ⟨q1, rfl, hq1, bq1, bq11, rfl⟩ := hcut
    obtain ⟨R, hR⟩ : ∃ R, IntKind.u64.wrap (IntKind.u64.wrap (IntKind.u64.wrap (U * 4294967296) + u1) - IntKind.u64.wrap (q1 * Y)) = R := ⟨_, rfl⟩
    have hRe : R = (U * 4294967296 + u1) % Y := by
      rw [← hR, wrap_u, wrap_u, wrap_u, wrap_u, hq1.out, hYv.out]
      exact Kn.rest_half (by omega) hY1
    have HRe := hid hRe
    have bUR : 0 ≤ R := by rw [hRe]; exact Int.emod_nonneg _ (by omega)
    have bURY : R < Y := by rw [hRe]; exact Int.emod_lt_of_pos _ (by omega)
    have hURY : Hid (R < v1 * 4294967296 + v0) := by rw [hYv.out]; exact bURY
    have bUR1 : R ≤ 18446744073709551615 := by omega
    clear hRe
    go_upto_block 2 with (fail)
    go_cut [18, 16] (fun q _ wx => HalfEnd R v1 v0 u0 w q wx)
    case first =>
      go_wp2_with fail
      go_loop [18, 16] (fun q r => HalfRel R v1 v0 u0 q r) (fun q _ => (intOf q).toNat)
      case atStart =>
        obtain ⟨s1, s2⟩ := Kn.Inv.start (u1 := u0) bUR bv0 bv1 bu0 bu01
        exact ⟨_, _, rfl, by rw [wrap_u, wrap_u, Kn.rest_div bUR bUR1 bv1], s1, by omega⟩
      case round =>
        obtain ⟨a, b, rfl, rfl, hinv, hb⟩ := hrel
        have ha0 := hinv.2.2.1
        have hb0 := hinv.2.1
        have hau := hinv.le bv1
        by_cases hgo : 4294967296 ≤ a ∨ b * 4294967296 + u0 < a * v0
        · obtain ⟨hi2, hbU, ha1⟩ := hinv.more rfl bv0 bv1 hURY.out bu01 bUR bu0 hgo
          have H2 := hid hi2
          have Hm : Hid (Kn.Inv R v1 _ a b) := hinv
          clear hinv hi2
          by_cases h1 : 4294967296 ≤ a
          rotate_left
          · have hm : 0 ≤ a * v0 ∧ a * v0 ≤ 18446744065119617025 := prod_bound a v0 ha0 (by omega) bv0 bv01
            have h2 : b * 4294967296 + u0 < a * v0 := by omega
            clear hgo
            by_cases h3 : 4294967296 ≤ b + v1
            · go_wp2_with fail
              go_meet
              case rel => exact ⟨_, rfl, H2.out.over rfl bv0 bv01 bv1 hURY.out bu0 h3, by omega, half_lt H2.out bv0 bv01 bv1 hURY.out bu0 bu01 bUR (H2.out.over rfl bv0 bv01 bv1 hURY.out bu0 h3), rfl⟩
            · go_wp2_with fail
              go_round
              case rel => exact ⟨_, _, rfl, rfl, H2.out, by omega⟩
              case measure => simp [intOf]; omega
          · clear hgo
            by_cases h3 : 4294967296 ≤ b + v1
            · go_wp2_with fail
              go_meet
              case rel => exact ⟨_, rfl, H2.out.over rfl bv0 bv01 bv1 hURY.out bu0 h3, by omega, half_lt H2.out bv0 bv01 bv1 hURY.out bu0 bu01 bUR (H2.out.over rfl bv0 bv01 bv1 hURY.out bu0 h3), rfl⟩
            · go_wp2_with fail
              go_round
              case rel => exact ⟨_, _, rfl, rfl, H2.out, by omega⟩
              case measure => simp [intOf]; omega
        · have ha1 : a ≤ 4294967295 := by omega
          have h2 : a * v0 ≤ b * 4294967296 + u0 := by omega
          have hm : 0 ≤ a * v0 ∧ a * v0 ≤ 18446744065119617025 := prod_bound a v0 ha0 (by omega) bv0 bv01
          have Hm : Hid (a = (R * 4294967296 + u0) / (v1 * 4294967296 + v0)) := hinv.done rfl bv0 bv1 h2
          clear hgo hinv
          go_wp2_with fail
          go_meet
          case rel => exact ⟨_, rfl, Hm, by omega, by omega, rfl⟩
    case rest =>
      obtain ⟨q0, rfl, hq0, bq0, bq01, rfl⟩ := hcut
      go_wp2_with fail
      go_ret2
      have hp : (0 : Int) < 2 ^ (64 - n) := Int.pow_pos (by omega)
      obtain ⟨c1, c2⟩ := Kn.both (U := U) (u1 := u1) (u0 := u0) (show 0 < Y by omega)
      obtain ⟨c3, c4⟩ := Kn.unshift (M := hi * 18446744073709551616 + lo) (y := y) hp
      rw [hN.out, hyY.out] at c3 c4
      refine ⟨ret_two ?_ ?_, rfl⟩
      · rw [← c3, c1, hq1.out, hq0.out, hYv.out, HRe.out]
      · rw [← c4, c2, wrap_u, wrap_u, wrap_u, wrap_u, hq0.out, hYv.out, Kn.rest_half (by omega) hY1, HRe.out]

theorem or_sum (a b : Int) (t : Nat) (ha : 0 ≤ a) (hb : 0 ≤ b) (hbt : b < 2 ^ t) (h : a * 2 ^ t + b ≤ 18446744073709551615) : bits .or .u64 (a * 2 ^ t) b = a * 2 ^ t + b := by
  obtain ⟨x, rfl⟩ := Int.eq_ofNat_of_zero_le ha
  obtain ⟨y, rfl⟩ := Int.eq_ofNat_of_zero_le hb
  have e : (x : Int) * 2 ^ t = ((2 ^ t * x : Nat) : Int) := by rw [Nat.mul_comm, Int.natCast_mul]; simp
  rw [e] at h ⊢
  have hy : y < 2 ^ t := by
    have : ((y : Nat) : Int) < ((2 ^ t : Nat) : Int) := by simpa using hbt
    omega
  rw [u64_or_nat _ _ (by omega) (by omega), ← Nat.two_pow_add_eq_or_of_lt hy]
  omega

/-- The quotient and the rest of a number of two words by a count that is greater than the upper one. -/
theorem div64_great (hi lo y : Int) (w : World) (hh : 1 ≤ hi) (hhy : hi < y) (hl : 0 ≤ lo) (hl1 : lo ≤ 18446744073709551615) (hy1 : y ≤ 9223372036854775807) :
    Calls Try.prog 54 #[.int .u64 hi, .int .u64 lo, .int .u64 y] w fun e w' => e = .returned (.tuple #[.int .u64 ((hi * 18446744073709551616 + lo) / y), .int .u64 ((hi * 18446744073709551616 + lo) % y)]) ∧ w = w' := by
  obtain ⟨n, hn⟩ : ∃ n : Nat, bitLen y.toNat = n := ⟨_, rfl⟩
  obtain ⟨hs1, hs2⟩ := bitLen_spec y.toNat
  rw [hn] at hs1 hs2
  have hs3 := hs2 (by omega)
  clear hs2
  have hn63 : n ≤ 63 := by
    refine Nat.le_of_not_lt fun hlt => ?_
    have h2 : (2 : Nat) ^ 63 ≤ 2 ^ (n - 1) := Nat.pow_le_pow_right (by omega) (by omega)
    have h5 : (2 : Nat) ^ 63 = 9223372036854775808 := rfl
    rw [h5] at h2
    omega
  have hn1 : 1 ≤ n := by
    refine Nat.pos_of_ne_zero fun e => ?_
    subst e
    simp at hs1
    omega
  obtain ⟨K, hK⟩ : ∃ K : Int, (2 : Int) ^ (64 - n) = K := ⟨_, rfl⟩
  obtain ⟨J, hJ⟩ : ∃ J : Int, (2 : Int) ^ n = J := ⟨_, rfl⟩
  obtain ⟨J2, hJ2⟩ : ∃ J2 : Int, (2 : Int) ^ (n - 1) = J2 := ⟨_, rfl⟩
  have hK0 : 0 < K := by rw [← hK]; exact Int.pow_pos (by omega)
  have hJ0 : 0 < J := by rw [← hJ]; exact Int.pow_pos (by omega)
  have hKJ : K * J = 18446744073709551616 := by
    rw [← hK, ← hJ, ← Int.pow_add, show 64 - n + n = 64 by omega]; rfl
  have hJJ : J = 2 * J2 := by
    rw [← hJ, ← hJ2, ← Int.pow_succ', show n - 1 + 1 = n by omega]
  have hyJ : y < J := by
    have : ((y.toNat : Nat) : Int) < ((2 ^ n : Nat) : Int) := by omega
    rw [← hJ]; simp at this; omega
  have hyJ2 : J2 ≤ y := by
    have : ((2 ^ (n - 1) : Nat) : Int) ≤ ((y.toNat : Nat) : Int) := by omega
    rw [← hJ2]; simp at this; omega
  have hY0 : 9223372036854775808 ≤ y * K := by
    have h1 : J2 * K ≤ y * K := Int.mul_le_mul_of_nonneg_right hyJ2 (by omega)
    have h2 : K * J = 2 * (J2 * K) := by rw [hJJ]; grind
    omega
  have hY1 : y * K < 18446744073709551616 := by
    have h1 : y * K < J * K := Int.mul_lt_mul_of_pos_right hyJ hK0
    rw [Int.mul_comm J K] at h1; omega
  have hhi0 : 0 ≤ hi * K := Int.mul_nonneg (by omega) (by omega)
  have hhi1 : hi * K < y * K := Int.mul_lt_mul_of_pos_right hhy hK0
  have hhi2 : hi * K + K ≤ y * K := by
    have h1 : (hi + 1) * K ≤ y * K := Int.mul_le_mul_of_nonneg_right (by omega) (by omega)
    rw [Int.add_mul, Int.one_mul] at h1; exact h1
  have hlJ : 0 ≤ lo / J := Int.ediv_nonneg hl (by omega)
  have hlK : lo / J < K := (Int.ediv_lt_iff_lt_mul hJ0).2 (by omega)
  have hsh := Kn.shifted (hi := hi) (lo := lo) hK0 hJ0 hKJ
  obtain ⟨Y, hY⟩ : ∃ Y, y * K = Y := ⟨_, rfl⟩
  obtain ⟨L, hL⟩ : ∃ L, lo * K % 18446744073709551616 = L := ⟨_, rfl⟩
  have hL0 : 0 ≤ L := by rw [← hL]; omega
  have hL1 : L < 18446744073709551616 := by rw [← hL]; omega
  rw [hL] at hsh
  rw [hY] at hY0 hY1 hhi1 hhi2
  have eU : bits .or .u64 (IntKind.u64.wrap (hi * 2 ^ (64 - n))) (lo / 2 ^ (64 - (64 - n))) = hi * K + lo / J := by
    rw [wrap_u, hK, Int.emod_eq_of_lt hhi0 (by omega), show 64 - (64 - n) = n by omega, hJ]
    have := or_sum hi (lo / J) (64 - n) (by omega) hlJ (by rw [hK]; exact hlK) (by rw [hK]; omega)
    rw [hK] at this; exact this
  have hv0 := and_low32 Y (by omega) (by omega)
  have hu0 := and_low32 L hL0 hL1
  refine div64_core hi lo y Y (Y / 4294967296) (Y % 4294967296) (hi * K + lo / J) L (L / 4294967296) (L % 4294967296) n w hh hhy hl hl1 hy1 hn hn63
    (by rw [wrap_u, hK, hY]; omega) (by omega) (by omega) rfl hv0 eU (by rw [wrap_u, hK]; exact hL) rfl hu0 (by omega) (by omega) (by omega) (by omega) (by omega) (by omega) (by omega) (by omega) (by omega) (by omega)
    (by show _ < _; omega) (by show _ = _; omega) (by show _ = _; rw [hK]; exact hY) (by show _ = _; rw [hK, hsh]; omega)
end Go.Proofs.Ytaihjcefgokjkaa
