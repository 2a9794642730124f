/- The walks of reckon's and the reference's Order, Log, Pow. -/
import Derived.Test.YtaihjcefgokjkaaRkRef
namespace Go.Proofs.Ytaihjcefgokjkaa
open Go.RowKit Rk

namespace Rk
def orderOk (a b c d : Int) : Bool := decide (0 ≤ a ∧ 0 ≤ b ∧ 0 ≤ c ∧ 0 ≤ d)
def orderV (a b c d : Int) : Int := if orderOk a b c d then sgn (a * b) (c * d) else 0
def logOk (n : Int) : Bool := decide (1 ≤ n)
def logV (n : Int) : Int := if logOk n then (bitLen n.toNat : Int) - 1 else 0
def powOk (n : Int) : Bool := decide (0 ≤ n ∧ n ≤ 62)
def powV (n : Int) : Int := if powOk n then p2 n.toNat else 0
theorem p2_le {a b : Nat} (h : a ≤ b) : p2 a ≤ p2 b := by
  induction b with
  | zero => have : a = 0 := by omega
            subst this; exact Int.le_refl _
  | succ b ih =>
    by_cases e : a = b + 1
    · subst e; exact Int.le_refl _
    · have h1 := ih (by omega); have h2 := p2_pos b; simp only [p2]; omega
theorem p2_pow (k : Nat) : p2 k = 2 ^ k := by
  induction k with
  | zero => rfl
  | succ k ih => simp only [p2, ih]; rw [Int.pow_succ]; omega
end Rk

set_option maxHeartbeats 1000000 in
theorem order_any (a b c d : Int) (w : World) (_ha : -9223372036854775808 ≤ a) (_ha1 : a ≤ 9223372036854775807) (_hb : -9223372036854775808 ≤ b) (_hb1 : b ≤ 9223372036854775807)
    (_hc : -9223372036854775808 ≤ c) (_hc1 : c ≤ 9223372036854775807) (_hd : -9223372036854775808 ≤ d) (_hd1 : d ≤ 9223372036854775807) :
    Calls Try.prog 40 #[.int .i64 a, .int .i64 b, .int .i64 c, .int .i64 d] w fun e w' => e = .returned (.tuple #[.int .i64 (orderV a b c d), .bool (orderOk a b c d)]) ∧ w = w' := by
  by_cases h : 0 ≤ a ∧ 0 ≤ b ∧ 0 ≤ c ∧ 0 ≤ d
  · have e1 : orderOk a b c d = true := by simp [orderOk]; exact h
    have e2 : orderV a b c d = sgn (a * b) (c * d) := by unfold orderV; rw [if_pos e1]
    rw [e1, e2]
    clear e1 e2
    obtain ⟨h1, h2, h3, h4⟩ := h
    have p0 : 0 ≤ a * b := Int.mul_nonneg h1 h2
    have r0 : 0 ≤ c * d := Int.mul_nonneg h3 h4
    obtain ⟨P, hP⟩ : ∃ P, a * b = P := ⟨_, rfl⟩
    obtain ⟨R, hR⟩ : ∃ R, c * d = R := ⟨_, rfl⟩
    rw [hP] at p0
    rw [hR] at r0
    obtain ⟨p, ep⟩ : ∃ p, P / 18446744073709551616 = p := ⟨_, rfl⟩
    obtain ⟨q, eq⟩ : ∃ q, P % 18446744073709551616 = q := ⟨_, rfl⟩
    obtain ⟨r, er⟩ : ∃ r, R / 18446744073709551616 = r := ⟨_, rfl⟩
    obtain ⟨s, es⟩ : ∃ s, R % 18446744073709551616 = s := ⟨_, rfl⟩
    have bp : 0 ≤ p := by omega
    have bq : 0 ≤ q ∧ q ≤ 18446744073709551615 := by omega
    have br : 0 ≤ r := by omega
    have bs : 0 ≤ s ∧ s ≤ 18446744073709551615 := by omega
    have HS : Hid (sgn P R = if p < r then -1 else if r < p then 1 else if q < s then -1 else if s < q then 1 else 0) := by
      show sgn P R = _
      unfold sgn
      by_cases c1 : p < r
      · rw [if_pos c1, if_pos (by omega)]
      · by_cases c2 : r < p
        · rw [if_neg c1, if_pos c2, if_neg (by omega), if_pos (by omega)]
        · by_cases c3 : q < s
          · rw [if_neg c1, if_neg c2, if_pos c3, if_pos (by omega)]
          · by_cases c4 : s < q
            · rw [if_neg c1, if_neg c2, if_neg c3, if_pos c4, if_neg (by omega), if_pos (by omega)]
            · rw [if_neg c1, if_neg c2, if_neg c3, if_neg c4, if_neg (by omega), if_neg (by omega)]
    rw [hP, hR]
    have HP := hid hP
    have HR := hid hR
    have Ep := hid ep
    have Eq := hid eq
    have Er := hid er
    have Es := hid es
    generalize sgn P R = S at *
    clear hP hR ep eq er es p0 r0
    by_cases c1 : p < r
    rotate_left
    by_cases c2 : r < p
    rotate_left
    by_cases c3 : q < s
    rotate_left
    by_cases c4 : s < q
    all_goals
      go_enter Try.func40, Try.ntmps40
      go_wp2_with (go_at_call 50; go_in)
      refine (mul64_any _ _ _ h1 h2 (by omega) (by omega)).mono ?_
      rintro e w' ⟨rfl, rfl⟩
      rw [HP.out, Ep.out, Eq.out]
      go_wp2_with fail
      refine (mul64_any _ _ _ h3 h4 (by omega) (by omega)).mono ?_
      rintro e w' ⟨rfl, rfl⟩
      rw [HR.out, Er.out, Es.out]
      go_wp2_with fail
      go_ret2
      refine ⟨ret_ib ?_ rfl, rfl⟩
      rw [HS.out]
      repeat (first | rw [if_pos (by omega)] | rw [if_neg (by omega)])
  · have e1 : orderOk a b c d = false := by simp [orderOk]; omega
    have e2 : orderV a b c d = 0 := by unfold orderV; rw [if_neg (by simp [e1])]
    rw [e1, e2]
    clear e1 e2
    by_cases h1 : 0 ≤ a <;> by_cases h2 : 0 ≤ b <;> by_cases h3 : 0 ≤ c <;> by_cases h4 : 0 ≤ d
    · exact absurd ⟨h1, h2, h3, h4⟩ h
    all_goals
      clear h
      go_enter Try.func40, Try.ntmps40
      go_wp2
      go_ret2
      exact ⟨rfl, rfl⟩

set_option maxHeartbeats 1000000 in
theorem r_order (a b c d : Int) (w : World) (_ha : -9223372036854775808 ≤ a) (ha1 : a ≤ 9223372036854775807) (_hb : -9223372036854775808 ≤ b) (hb1 : b ≤ 9223372036854775807)
    (_hc : -9223372036854775808 ≤ c) (hc1 : c ≤ 9223372036854775807) (_hd : -9223372036854775808 ≤ d) (hd1 : d ≤ 9223372036854775807) :
    Calls Try.prog 25 #[.int .i64 a, .int .i64 b, .int .i64 c, .int .i64 d] w fun e w' => e = .returned (.tuple #[.int .i64 (orderV a b c d), .bool (orderOk a b c d)]) ∧ Below w.heap.size w w' := by
  by_cases h : 0 ≤ a ∧ 0 ≤ b ∧ 0 ≤ c ∧ 0 ≤ d
  · have e1 : orderOk a b c d = true := by simp [orderOk]; exact h
    have e2 : orderV a b c d = sgn (a * b) (c * d) := by unfold orderV; rw [if_pos e1]
    rw [e1, e2]
    clear e1 e2
    obtain ⟨h1, h2, h3, h4⟩ := h
    go_enter Try.func25, Try.ntmps25
    go_wp2_with (go_at_call 41; go_in)
    refine (digits_any _ ha1 (by omega) _).mono ?_
    rintro e wp1 ⟨vp1, dp1, rfl, hop1, hdp1, hvp1, hlp1, hbp1⟩
    have hsp1 := hbp1.size
    have Vp1 := hid hvp1
    clear hvp1
    go_wp2_with fail
    refine (digits_any _ hb1 (by omega) _).mono ?_
    rintro e wp2 ⟨vp2, dp2, rfl, hop2, hdp2, hvp2, hlp2, hbp2⟩
    have hsp2 := hbp2.size
    have Vp2 := hid hvp2
    clear hvp2
    go_wp2_with fail
    refine (times_any _ (hop1.below hbp2 (Nat.le_refl _)) hop2 hdp1 hdp2 (by omega) (by omega)).mono ?_
    rintro e wp3 ⟨vp3, dp3, rfl, hop3, hdp3, hvp3, hlp3, hbp3⟩
    have hsp3 := hbp3.size
    have Vp3 : Hid (Rk.val dp3 = a * b) := by
      show Rk.val dp3 = a * b
      rw [hvp3, Vp1.out, Vp2.out, Int.max_eq_left (by omega), Int.max_eq_left (by omega)]
    clear hvp3
    have hbp := hid (hbp1.trans ((hbp2.mono (by omega)).trans (hbp3.mono (by omega))))
    go_wp2_with (go_at_call 41; go_in)
    refine (digits_any _ hc1 (by omega) _).mono ?_
    rintro e wq1 ⟨vq1, dq1, rfl, hoq1, hdq1, hvq1, hlq1, hbq1⟩
    have hsq1 := hbq1.size
    have Vq1 := hid hvq1
    clear hvq1
    go_wp2_with fail
    refine (digits_any _ hd1 (by omega) _).mono ?_
    rintro e wq2 ⟨vq2, dq2, rfl, hoq2, hdq2, hvq2, hlq2, hbq2⟩
    have hsq2 := hbq2.size
    have Vq2 := hid hvq2
    clear hvq2
    go_wp2_with fail
    refine (times_any _ (hoq1.below hbq2 (Nat.le_refl _)) hoq2 hdq1 hdq2 (by omega) (by omega)).mono ?_
    rintro e wq3 ⟨vq3, dq3, rfl, hoq3, hdq3, hvq3, hlq3, hbq3⟩
    have hsq3 := hbq3.size
    have Vq3 : Hid (Rk.val dq3 = c * d) := by
      show Rk.val dq3 = c * d
      rw [hvq3, Vq1.out, Vq2.out, Int.max_eq_left (by omega), Int.max_eq_left (by omega)]
    clear hvq3
    have hbq := hid (hbp.out.trans (((hbq1.trans ((hbq2.mono (by omega)).trans (hbq3.mono (by omega))))).mono (by omega)))
    go_wp2_with fail
    refine (less_any _ ((hop3.below hbq1 (Nat.le_refl _)).below (hbq2.trans (hbq3.mono (by omega))) (by omega)) hoq3 hdp3 hdq3 (by omega) (by omega)).mono ?_
    rintro e w' ⟨rfl, rfl⟩
    rw [Vp3.out, Vq3.out]
    go_wp2_with fail
    go_ret2
    exact ⟨rfl, hbq.out⟩
  · have e1 : orderOk a b c d = false := by simp [orderOk]; omega
    have e2 : orderV a b c d = 0 := by unfold orderV; rw [if_neg (by simp [e1])]
    rw [e1, e2]
    clear e1 e2
    by_cases h1 : 0 ≤ a <;> by_cases h2 : 0 ≤ b <;> by_cases h3 : 0 ≤ c <;> by_cases h4 : 0 ≤ d
    · exact absurd ⟨h1, h2, h3, h4⟩ h
    all_goals
      clear h
      go_enter Try.func25, Try.ntmps25
      go_wp2
      go_ret2
      exact ⟨rfl, Below.refl _ _⟩

def LogRel (n : Int) (m k : Value) : Prop := ∃ (a : Int) (j : Nat), m = .int .i64 a ∧ k = .int .i64 j ∧ 1 ≤ a ∧ a ≤ 9223372036854775807 ∧ bitLen a.toNat + j = bitLen n.toNat ∧ j ≤ 64

def PowRel (e : Int) (n i : Value) : Prop := ∃ (j : Nat), n = .int .i64 (p2 j) ∧ i = .int .i64 j ∧ (j : Int) ≤ e

end Go.Proofs.Ytaihjcefgokjkaa
