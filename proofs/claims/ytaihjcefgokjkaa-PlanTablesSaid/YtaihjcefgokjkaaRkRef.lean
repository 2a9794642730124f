/- The walks of the reference's functions over numbers. -/
import Derived.Test.YtaihjcefgokjkaaRkProg3
import Derived.Test.YtaihjcefgokjkaaRkWalk4
namespace Go.Proofs.Ytaihjcefgokjkaa
open Go.RowKit Rk

theorem mul_quo {a b : Int} (h1 : 0 ≤ a) (h2 : 0 ≤ b) : mulV a b = quo (a * b) 1 ∧ mulOk a b = quoOk (a * b) 1 := by
  obtain ⟨c1, c2⟩ := mul_cap h1 h2
  rw [c1, c2, quo_cap, quoOk_cap]
  simp

theorem quoUp {x n : Int} : (quoOk x n = false → capV (upq x n) = 0 ∧ capOk (upq x n) = false ∧ quo x n = 0) ∧
    (quoOk x n = true → quoRest x n = false → capV (upq x n) = quo x n ∧ capOk (upq x n) = true) ∧
    (quoOk x n = true → quoRest x n = true → quo x n = 9223372036854775807 → capV (upq x n) = 0 ∧ capOk (upq x n) = false) ∧
    (quoOk x n = true → quoRest x n = true → quo x n ≠ 9223372036854775807 → capV (upq x n) = quo x n + 1 ∧ capOk (upq x n) = true) := by
  unfold quoOk quoRest quo upq capV capOk
  generalize x / n = q
  generalize x % n = r
  by_cases hq : 9223372036854775807 < q <;> by_cases hr : 0 < r <;> simp [hq, hr] <;> omega

set_option maxHeartbeats 1000000 in
theorem r_partup (n num den : Int) (w : World) (_hn : -9223372036854775808 ≤ n) (hn1 : n ≤ 9223372036854775807) (_hm : -9223372036854775808 ≤ num) (hm1 : num ≤ 9223372036854775807) (_hd : -9223372036854775808 ≤ den) (hd1 : den ≤ 9223372036854775807) :
    Calls Try.prog 28 #[.int .i64 n, .int .i64 num, .int .i64 den] w fun e w' => e = .returned (.tuple #[.int .i64 (partUpV n num den), .bool (partUpOk n num den)]) ∧ Below w.heap.size w w' := by
  by_cases h : 0 ≤ n ∧ 0 ≤ num ∧ 1 ≤ den
  · have ha : asked n num den = true := by simp [asked]; exact h
    obtain ⟨h1, h2, h3⟩ := h
    have e1 : partUpV n num den = capV (upq (n * num) den) := by unfold partUpV; rw [if_pos ha]
    have e2 : partUpOk n num den = capOk (upq (n * num) den) := by unfold partUpOk; rw [ha]; rfl
    rw [e1, e2]
    clear ha e1 e2
    obtain ⟨u1, u2, u3, u4⟩ := quoUp (x := n * num) (n := den)
    generalize hq : quo (n * num) den = q at *
    generalize hr : quoRest (n * num) den = r at *
    generalize ho : quoOk (n * num) den = o at *
    generalize capV (upq (n * num) den) = cv at *
    generalize capOk (upq (n * num) den) = co at *
    have Hq := hid hq
    have Hr := hid hr
    have Ho := hid ho
    have hqb : 0 ≤ q ∧ q ≤ 9223372036854775807 := by
      rw [← hq]; unfold quo
      have : 0 ≤ n * num / den := Int.ediv_nonneg (Int.mul_nonneg h1 h2) (by omega)
      split <;> omega
    have U1 := hid u1
    have U2 := hid u2
    have U3 := hid u3
    have U4 := hid u4
    clear u1 u2 u3 u4 hq hr ho
    go_enter Try.func28, Try.ntmps28
    go_wp2_with (go_at_call 41; go_in)
    refine (digits_any _ hn1 (by omega) _).mono ?_
    rintro e wp1 ⟨vp1, dp1, rfl, hop1, hdp1, hvp1, hlp1, hbp1⟩
    have hsp1 := hbp1.size
    have Vp1 := hid hvp1
    clear hvp1
    go_wp2_with fail
    refine (digits_any _ hm1 (by omega) _).mono ?_
    rintro e wp2 ⟨vp2, dp2, rfl, hop2, hdp2, hvp2, hlp2, hbp2⟩
    have hsp2 := hbp2.size
    have Vp2 := hid hvp2
    clear hvp2
    go_wp2_with fail
    refine (times_any _ (hop1.below hbp2 (Nat.le_refl _)) hop2 hdp1 hdp2 (by omega) (by omega)).mono ?_
    rintro e wp3 ⟨vp3, dp3, rfl, hop3, hdp3, hvp3, hlp3, hbp3⟩
    have hsp3 := hbp3.size
    have Vp3 : Hid (Rk.val dp3 = n * num) := by
      show Rk.val dp3 = n * num
      rw [hvp3, Vp1.out, Vp2.out, Int.max_eq_left (by omega), Int.max_eq_left (by omega)]
    clear hvp3
    go_wp2_with fail
    refine (quot_any den _ hop3 hdp3 (by omega) h3 hd1).mono ?_
    rintro e w4 ⟨rfl, hb4⟩
    rw [Vp3.out, Hq.out, Hr.out, Ho.out]
    have hbb := (hbp1.trans ((hbp2.mono (by omega)).trans (hbp3.mono (by omega)))).trans (hb4.mono (by omega))
    cases o
    · obtain ⟨rfl, rfl, rfl⟩ := U1.out rfl
      go_wp2_with fail
      go_ret2
      exact ⟨rfl, hbb⟩
    · cases r
      · obtain ⟨rfl, rfl⟩ := U2.out rfl rfl
        go_wp2_with fail
        go_ret2
        exact ⟨rfl, hbb⟩
      · by_cases hqm : q = 9223372036854775807
        · obtain ⟨rfl, rfl⟩ := U3.out rfl rfl hqm
          go_wp2_with fail
          go_ret2
          exact ⟨rfl, hbb⟩
        · obtain ⟨rfl, rfl⟩ := U4.out rfl rfl hqm
          have hq1 : q + 1 ≤ 9223372036854775807 := by omega
          go_wp2_with fail
          go_ret2
          exact ⟨rfl, hbb⟩

  · have ha : asked n num den = false := by simp [asked]; omega
    have e1 : partUpV n num den = 0 := by unfold partUpV; rw [if_neg (by simp [ha])]
    have e2 : partUpOk n num den = false := by unfold partUpOk; rw [ha]; rfl
    rw [e1, e2]
    clear ha e1 e2
    by_cases h1 : 0 ≤ n <;> by_cases h2 : 0 ≤ num <;> by_cases h3 : 1 ≤ den
    · exact absurd ⟨h1, h2, h3⟩ h
    all_goals
      clear h
      go_enter Try.func28, Try.ntmps28
      go_wp2
      go_ret2
      exact ⟨rfl, Below.refl _ _⟩
end Go.Proofs.Ytaihjcefgokjkaa
