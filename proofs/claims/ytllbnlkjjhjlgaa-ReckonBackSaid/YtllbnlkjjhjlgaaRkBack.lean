/- The walk of ReckonBack. -/
import Derived.Test.YtllbnlkjjhjlgaaRkLaws
import Derived.Deep.DeepCutAuto
namespace Go.Proofs.Ytllbnlkjjhjlgaa
open Go.RowKit Rk

namespace Rk
theorem back_add {a b : Int} (h : addOk a b = true) : subV (addV a b) b = a ∧ subOk (addV a b) b = true ∧ 0 ≤ addV a b ∧ addV a b ≤ 9223372036854775807 := by
  have hv : addV a b = a + b := by unfold addV; rw [if_pos h]
  simp only [addOk, decide_eq_true_eq] at h
  have ho : subOk (a + b) b = true := by simp only [subOk, decide_eq_true_eq]; omega
  rw [hv]
  refine ⟨by unfold subV; rw [if_pos ho]; omega, ho, by omega, by omega⟩
theorem back_mul {a b : Int} (h : mulOk a b = true) (hb : 0 < b) : divV (mulV a b) b = a ∧ divOk (mulV a b) b = true ∧ upV (mulV a b) b = a ∧ 0 ≤ mulV a b ∧ mulV a b ≤ 9223372036854775807 := by
  have hv : mulV a b = a * b := by unfold mulV; rw [if_pos h]
  simp only [mulOk, decide_eq_true_eq] at h
  have h0 : 0 ≤ a * b := Int.mul_nonneg h.1 h.2.1
  have ho : divOk (a * b) b = true := by simp only [divOk, decide_eq_true_eq]; omega
  have hq : a * b / b = a := Int.mul_ediv_cancel _ (by omega)
  have hr : a * b % b = 0 := Int.mul_emod_left _ _
  rw [hv]
  refine ⟨by unfold divV; rw [if_pos ho, hq], ho, by unfold upV; rw [if_pos ho, hr, if_neg (by omega), hq], h0, h.2.2⟩
theorem back_part {a b c : Int} (h0 : 0 ≤ a) (h1 : 0 ≤ b) (h2 : 0 < c) (h3 : b ≤ c) (ha : a ≤ 9223372036854775807) :
    partOk a b c = true ∧ partUpOk a (c - b) c = true ∧ 0 ≤ partV a b c ∧ partV a b c ≤ a ∧ partUpV a (c - b) c = a - partV a b c := by
  have a1 : asked a b c = true := by simp only [asked, decide_eq_true_eq]; omega
  have a2 : asked a (c - b) c = true := by simp only [asked, decide_eq_true_eq]; omega
  have n0 : 0 ≤ a * b := Int.mul_nonneg h0 h1
  have n1 : a * b ≤ a * c := Int.mul_le_mul_of_nonneg_left h3 h0
  have e1 := Int.emod_add_mul_ediv (a * b) c
  have e2 := Int.emod_nonneg (a * b) (show c ≠ 0 by omega)
  have e3 := Int.emod_lt_of_pos (a * b) h2
  have e4 : 0 ≤ a * b / c := Int.ediv_nonneg n0 (by omega)
  have e5 : a * b / c ≤ a := (Int.ediv_le_iff_le_mul h2).2 (by omega)
  have hup : upq (a * (c - b)) c = a - a * b / c := by
    have hx : a * (c - b) = (a - a * b / c) * c - a * b % c := by
      rw [Int.mul_sub, Int.sub_mul, Int.mul_comm c] at *; omega
    unfold upq
    by_cases hr : a * b % c = 0
    · rw [hx, hr, Int.sub_zero, Int.mul_emod_left, if_neg (by omega), Int.mul_ediv_cancel _ (by omega)]
    · have hx2 : a * (c - b) = (c - a * b % c) + (a - a * b / c - 1) * c := by
        rw [hx, Int.sub_mul (a - a * b / c) 1 c]; omega
      rw [hx2, Int.add_mul_emod_self_right, Int.add_mul_ediv_right _ _ (by omega), Int.emod_eq_of_lt (by omega) (by omega), Int.ediv_eq_zero_of_lt (by omega) (by omega), if_pos (by omega)]
      omega
  have hq : quo (a * b) c = a * b / c := by unfold quo; rw [if_neg (by omega)]
  have pv : partV a b c = a * b / c := by unfold partV; rw [if_pos a1, hq]
  refine ⟨?_, ?_, by rw [pv]; exact e4, by rw [pv]; exact e5, ?_⟩
  · unfold partOk; rw [a1]; simp only [quoOk, Bool.true_and, decide_eq_true_eq]; omega
  · unfold partUpOk; rw [a2, hup]; simp only [capOk, Bool.true_and, decide_eq_true_eq]; omega
  · unfold partUpV; rw [if_pos a2, hup, pv]; unfold capV; rw [if_pos (by omega)]
theorem back_order (a b c : Int) : orderOk a b c a = orderOk c a a b ∧ orderV a b c a = - orderV c a a b := by
  have h : orderOk a b c a = orderOk c a a b := by
    unfold orderOk; rw [decide_eq_decide]; omega
  refine ⟨h, ?_⟩
  unfold orderV
  rw [h]
  cases orderOk c a a b
  · simp
  · simp only [if_true]
    unfold sgn
    generalize a * b = x
    generalize c * a = y
    by_cases h1 : x < y
    · rw [if_pos h1, if_neg (by omega), if_pos h1]
    · by_cases h2 : y < x
      · rw [if_neg h1, if_pos h2, if_pos h2]; omega
      · rw [if_neg h1, if_neg h2, if_neg h2, if_neg h1]; omega
theorem orderV_bd (a b c d : Int) : -1 ≤ orderV a b c d ∧ orderV a b c d ≤ 1 := by
  unfold orderV sgn
  split
  · split
    · omega
    · split <;> omega
  · omega
end Rk

set_option maxRecDepth 100000 in
set_option maxHeartbeats 2000000 in
theorem ReckonBack_walk (a b c : Int) (w : World) (ha : -9223372036854775808 ≤ a) (ha1 : a ≤ 9223372036854775807) (hb : -9223372036854775808 ≤ b) (hb1 : b ≤ 9223372036854775807) (hc : -9223372036854775808 ≤ c) (hc1 : c ≤ 9223372036854775807) :
    Calls Try.prog 10 #[.int .i64 a, .int .i64 b, .int .i64 c] w fun e w' => e = .returned (.bool true) ∧ Below w.heap.size w w' := by
  have A1 := hid (back_add (a := a) (b := b))
  have A2 := hid (back_mul (a := a) (b := b))
  have A4 := hid (back_order a b c)
  obtain ⟨o1, eo1⟩ : ∃ o, orderOk c a a b = o := ⟨_, rfl⟩
  obtain ⟨o2, eo2⟩ : ∃ o, orderV c a a b = o := ⟨_, rfl⟩
  have bo := orderV_bd c a a b
  rw [eo2] at bo
  rw [eo1, eo2] at A4
  have O1 := hid eo1
  have O2 := hid eo2
  clear eo1 eo2
  go_enter Try.func10, Try.ntmps10
  go_wp2_with fail
  refine (add_any a b w ha ha1 hb hb1).mono ?_
  rintro e w' ⟨rfl, rfl⟩
  go_upto_if 31 with (fail)
  go_cut [6, 7, 8] (fun r _ _ wx => r = .bool false ∧ w = wx)
  case first =>
    cases ho : addOk a b
    · clear ho
      go_wp2_with fail
      go_meet
      case rel => exact ⟨rfl, rfl⟩
    · obtain ⟨c1, c2, c3, c4⟩ := A1.out ho
      have C1 := hid c1
      have C2 := hid c2
      clear c1 c2 ho
      go_wp2_with fail
      refine (sub_any _ b w (by omega) (by omega) hb hb1).mono ?_
      rintro e w' ⟨rfl, rfl⟩
      rw [C1.out, C2.out]
      go_wp2_with fail
      go_meet
      case rel => exact ⟨rfl, rfl⟩
  case rest =>
    obtain ⟨rfl, rfl⟩ := hcut
    go_wp2_with fail
    refine (mul_any a b w ha ha1 hb hb1).mono ?_
    rintro e w' ⟨rfl, rfl⟩
    obtain ⟨t, et⟩ : ∃ t, (mulOk a b && decide (0 < b)) = t := ⟨_, rfl⟩
    have ET := hid et
    clear et
    go_upto_region 7 with (fail)
    go_cut [12, 55] (fun _ r wx => r = .bool t ∧ w = wx)
    case first =>
      cases hm : mulOk a b <;> by_cases hb0 : 0 < b
      all_goals
        have e := ET.out
        simp [hm, hb0] at e
        subst e
        clear ET
        clear hm
        go_wp2_with fail
        go_meet
        case rel => exact ⟨rfl, rfl⟩
    case rest =>
    obtain ⟨rfl, rfl⟩ := hcut
    go_upto_if 55 with (fail)
    go_cut [6, 11, 12] (fun r _ _ wx => r = .bool false ∧ w = wx)
    case first =>
      cases t
      · go_wp2_with fail
        go_meet
        case rel => exact ⟨rfl, rfl⟩
      · have hm : mulOk a b = true := by have := ET.out; simp at this; exact this.1
        have hb0 : 0 < b := by have := ET.out; simp at this; exact this.2
        obtain ⟨c1, c2, c3, c4, c5⟩ := A2.out hm hb0
        have C1 := hid c1
        have C2 := hid c2
        have C3 := hid c3
        clear c1 c2 c3 hm
        go_wp2_with fail
        refine (div_any _ b w (by omega) (by omega) hb hb1).mono ?_
        rintro e w' ⟨rfl, rfl⟩
        rw [C1.out, C2.out]
        go_wp2_with fail
        refine (up_any _ b w (by omega) (by omega) hb hb1).mono ?_
        rintro e w' ⟨rfl, rfl⟩
        rw [C3.out, C2.out]
        go_wp2_with fail
        go_meet
        case rel => exact ⟨rfl, rfl⟩
    case rest =>
      obtain ⟨rfl, rfl⟩ := hcut
      obtain ⟨u, eu⟩ : ∃ t, (decide (0 ≤ a) && decide (0 ≤ b) && decide (0 < c) && decide (b ≤ c)) = t := ⟨_, rfl⟩
      have EU := hid eu
      clear eu
      go_upto_region 12 with (fail)
      go_cut [98] (fun r wx => r = .bool u ∧ w = wx)
      case first =>
        by_cases h1 : 0 ≤ a <;> by_cases h2 : 0 ≤ b <;> by_cases h3 : 0 < c <;> by_cases h4 : b ≤ c
        all_goals
          have e := EU.out
          simp [h1, h2, h3, h4] at e
          subst e
          clear EU
          go_wp2_with fail
          go_meet
          case rel => exact ⟨rfl, rfl⟩
      case rest =>
      obtain ⟨rfl, rfl⟩ := hcut
      go_upto_if 98 with (fail)
      go_cut [6, 17, 18, 19, 20] (fun r _ _ _ _ wx => r = .bool false ∧ Below w.heap.size w wx)
      case first =>
        cases u
        · go_wp2_with fail
          go_meet
          case rel => exact ⟨rfl, Below.refl _ _⟩
        have h := EU.out
        simp only [Bool.and_eq_true, decide_eq_true_eq] at h
        obtain ⟨⟨⟨h1, h2⟩, h3⟩, h4⟩ := h
        obtain ⟨p1, p2, p3, p4, p5⟩ := back_part h1 h2 h3 h4 ha1
        have P1 := hid p1
        have P2 := hid p2
        have P5 := hid p5
        clear p1 p2 p5
        go_wp2_with fail
        refine (part_any a b c w ha ha1 hb hb1 hc hc1).mono ?_
        rintro e w1 ⟨rfl, hd1⟩
        rw [P1.out]
        go_wp2_with fail
        refine (partup_any a _ c w1 ha ha1 (by omega) (by omega) hc hc1).mono ?_
        rintro e w2 ⟨rfl, hd2⟩
        rw [P2.out, P5.out]
        go_wp2_with fail
        go_meet
        case rel => exact ⟨rfl, (hd1.below _).trans (hd2.below _)⟩
      case rest =>
        obtain ⟨rfl, hbl⟩ := hcut
        have hs := hbl.size
        go_wp2_with fail
        refine (order_any a b c a wc ha ha1 hb hb1 hc hc1 ha ha1).mono ?_
        rintro e w' ⟨rfl, rfl⟩
        rw [A4.out.1, A4.out.2]
        go_wp2_with fail
        refine (order_any c a a b wc hc hc1 ha ha1 ha ha1 hb hb1).mono ?_
        rintro e w' ⟨rfl, rfl⟩
        rw [O1.out, O2.out]
        go_wp2_with fail
        refine (alive_any _).mono ?_
        rintro e wz ⟨rfl, hbz⟩
        go_wp2_with fail
        go_ret
        exact ⟨rfl, hbl.trans (hbz.mono (by omega))⟩
end Go.Proofs.Ytllbnlkjjhjlgaa
