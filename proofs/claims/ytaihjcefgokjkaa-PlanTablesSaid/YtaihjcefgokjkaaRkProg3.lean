/- The walks of the package reckon: Part, PartUp. -/
import Derived.Test.YtaihjcefgokjkaaRkProg2
import Derived.Test.YtaihjcefgokjkaaRkMath
namespace Go.Proofs.Ytaihjcefgokjkaa
open Go.RowKit Rk

namespace Rk
/-- Are these three numbers of which a part may be asked? -/
def asked (n num den : Int) : Bool := decide (0 ≤ n ∧ 0 ≤ num ∧ 1 ≤ den)
def partV (n num den : Int) : Int := if asked n num den then quo (n * num) den else 0
def partOk (n num den : Int) : Bool := asked n num den && quoOk (n * num) den
/-- A quotient, rounded up. -/
def upq (x n : Int) : Int := if 0 < x % n then x / n + 1 else x / n
def partUpV (n num den : Int) : Int := if asked n num den then capV (upq (n * num) den) else 0
def partUpOk (n num den : Int) : Bool := asked n num den && capOk (upq (n * num) den)
theorem quo_cap (x n : Int) : quo x n = capV (x / n) := by unfold quo capV; split <;> split <;> omega
theorem quoOk_cap (x n : Int) : quoOk x n = capOk (x / n) := rfl
theorem far_quot {N den : Int} (hd : 1 ≤ den) (h : den ≤ N / 18446744073709551616) : 18446744073709551616 ≤ N / den :=
  Int.le_ediv_of_mul_le (by omega) (by omega)
theorem near_quot {N den : Int} (hd : 1 ≤ den) (h : N / 18446744073709551616 < den) : N / den < 18446744073709551616 :=
  (Int.ediv_lt_iff_lt_mul (by omega)).2 (by omega)
theorem upq_le (x n : Int) : x / n ≤ upq x n := by unfold upq; split <;> omega
theorem capV_no {n : Int} (h : 9223372036854775807 < n) : capV n = 0 ∧ capOk n = false := by simp [capV, capOk]; omega
end Rk

set_option maxHeartbeats 400000 in
theorem partup_any (n num den : Int) (w : World) (hn : -9223372036854775808 ≤ n) (hn1 : n ≤ 9223372036854775807) (hm : -9223372036854775808 ≤ num) (hm1 : num ≤ 9223372036854775807) (hd : -9223372036854775808 ≤ den) (hd1 : den ≤ 9223372036854775807) :
    Calls Try.prog 26 #[.int .i64 n, .int .i64 num, .int .i64 den] w fun e w' => e = .returned (.tuple #[.int .i64 (partUpV n num den), .bool (partUpOk n num den)]) ∧ Drawn w w' := by
  by_cases h : 0 ≤ n ∧ 0 ≤ num ∧ 1 ≤ den
  · have ha : asked n num den = true := by simp [asked]; exact h
    obtain ⟨N, hN⟩ : ∃ N, n * num = N := ⟨_, rfl⟩
    have hN0 : 0 ≤ N := by rw [← hN]; exact Int.mul_nonneg h.1 h.2.1
    obtain ⟨h1, h2, h3⟩ := h
    have e1 : partUpV n num den = capV (upq N den) := by unfold partUpV; rw [if_pos ha, hN]
    have e2 : partUpOk n num den = capOk (upq N den) := by unfold partUpOk; rw [ha, hN]; rfl
    rw [e1, e2]
    have HN := hid hN
    clear ha hN e1 e2
    by_cases hf : den ≤ N / 18446744073709551616
    · have hq := far_quot h3 hf
      have hu := upq_le N den
      obtain ⟨c1, c2⟩ := capV_no (n := upq N den) (by omega)
      rw [c1, c2]
      clear c1 c2 hq hu
      go_enter Try.func26, Try.ntmps26
      go_wp2_with fail
      refine (share_far n num den N w h1 hn1 h2 hm1 h3 hd1 HN hf).mono ?_
      rintro e w' ⟨rfl, rfl⟩
      go_wp2_with fail
      go_ret2
      exact ⟨rfl, Drawn.refl _⟩
    · have hq := near_quot h3 (Int.lt_of_not_ge hf)
      have hq0 : 0 ≤ N / den := Int.ediv_nonneg hN0 (by omega)
      have hr0 : 0 ≤ N % den := Int.emod_nonneg N (by omega)
      have hr1 : N % den < den := Int.emod_lt_of_pos N (by omega)
      have HU : Hid (upq N den = if 0 < N % den then N / den + 1 else N / den) := rfl
      generalize hQ : N / den = Q at *
      generalize hR : N % den = R at *
      generalize hUU : upq N den = U at *
      have HQ := hid hQ
      have HR := hid hR
      clear hQ hR hUU
      by_cases hb : 9223372036854775807 < Q
      · obtain ⟨c1, c2⟩ := capV_no (n := U) (by have := HU.out; split at this <;> omega)
        rw [c1, c2]
        clear c1 c2
        go_enter Try.func26, Try.ntmps26
        go_wp2_with fail
        refine (share_yes n num den N w h1 hn1 h2 hm1 h3 hd1 HN hN0 (by omega)).mono ?_
        rintro e w' ⟨rfl, k, rfl⟩
        rw [HQ.out, HR.out]
        go_wp2_with fail
        go_ret2
        exact ⟨rfl, k, rfl⟩
      · by_cases hrp : 0 < R
        · have hu : U = Q + 1 := by have := HU.out; rw [if_pos hrp] at this; exact this
          subst hu
          go_enter Try.func26, Try.ntmps26
          go_wp2_with fail
          refine (share_yes n num den N w h1 hn1 h2 hm1 h3 hd1 HN hN0 (by omega)).mono ?_
          rintro e w' ⟨rfl, k, rfl⟩
          rw [HQ.out, HR.out]
          go_wp2_with fail
          refine (count_any _ _ (by omega) (by omega)).mono ?_
          rintro e w' ⟨rfl, rfl⟩
          go_wp2_with fail
          go_ret2
          exact ⟨rfl, k, rfl⟩
        · have hu : U = Q := by have := HU.out; rw [if_neg hrp] at this; exact this
          subst hu
          go_enter Try.func26, Try.ntmps26
          go_wp2_with fail
          refine (share_yes n num den N w h1 hn1 h2 hm1 h3 hd1 HN hN0 (by omega)).mono ?_
          rintro e w' ⟨rfl, k, rfl⟩
          rw [HQ.out, HR.out]
          go_wp2_with fail
          refine (count_any _ _ (by omega) (by omega)).mono ?_
          rintro e w' ⟨rfl, rfl⟩
          go_wp2_with fail
          go_ret2
          exact ⟨rfl, k, rfl⟩
  · have ha : asked n num den = false := by simp [asked]; omega
    have e1 : partUpV n num den = 0 := by unfold partUpV; rw [if_neg (by simp [ha])]
    have e2 : partUpOk n num den = false := by unfold partUpOk; rw [ha]; rfl
    rw [e1, e2]
    clear ha e1 e2
    go_enter Try.func26, Try.ntmps26
    go_wp2_with fail
    refine (share_no n num den w hn hn1 hm hm1 hd hd1 h).mono ?_
    rintro e w' ⟨rfl, rfl⟩
    go_wp2_with fail
    go_ret2
    exact ⟨rfl, Drawn.refl _⟩
end Go.Proofs.Ytaihjcefgokjkaa
