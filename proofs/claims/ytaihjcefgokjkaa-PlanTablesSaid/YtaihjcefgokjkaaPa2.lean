/- The walks of plan.Error, Right, Least, K, Within, and of their references. -/
import Derived.Test.YtaihjcefgokjkaaPa1
namespace Go.Proofs.Ytaihjcefgokjkaa
open Go.RowKit Rk

namespace Rk
theorem err_bd {l k n : Int} (h : errOk l k n = true) : 0 ≤ l * (n / k) ∧ l * (n / k) ≤ 3458764513820540880 ∧ 0 ≤ n / k ∧ n / k ≤ 72057594037927935 ∧ 1 ≤ l ∧ l ≤ 48 ∧ 1 ≤ k ∧ k ≤ 1048576 ∧ 0 ≤ n ∧ n ≤ 72057594037927935 := by
  simp only [errOk, uniB, isK, Bool.and_eq_true, decide_eq_true_eq] at h
  obtain ⟨⟨⟨a1, a2⟩, b1, b2⟩, c1, c2⟩ := h
  have h1 : 0 ≤ n / k := Int.ediv_nonneg c1 (by omega)
  have h2 : n / k ≤ n := Int.ediv_le_self _ c1
  have h3 : 0 ≤ l * (n / k) := Int.mul_nonneg (by omega) h1
  have h4 : l * (n / k) ≤ 48 * 72057594037927935 := Int.mul_le_mul a2 (by omega) h1 (by omega)
  exact ⟨h3, by omega, h1, by omega, a1, a2, b1, b2, c1, c2⟩
theorem errV_bd (l k n : Int) : 0 ≤ errV l k n ∧ errV l k n ≤ 3458764513820540880 := by
  unfold errV
  split
  · rename_i h; have := err_bd h; omega
  · omega
end Rk

set_option maxRecDepth 100000 in
set_option maxHeartbeats 1000000 in
theorem pa_error (l k n : Int) (w : World) (bl : In64 l) (bk : In64 k) (bn : In64 n) :
    Calls Try.prog 19 #[.int .i64 l, .int .i64 k, .int .i64 n] w fun e w' => e = .returned (.tuple #[.int .i64 (errV l k n), .bool (errOk l k n)]) ∧ w = w' := by
  have U := hid (pa_universe l w bl)
  have M := hid (pa_may k w)
  have D := hid (div_any n k w bn.1 bn.2 bk.1 bk.2)
  obtain ⟨n1, n2⟩ := bn
  have HO : Hid (errOk l k n = (uniB l && isK k && decide (0 ≤ n ∧ n ≤ 72057594037927935))) := rfl
  have HB := hid (@err_bd l k n)
  obtain ⟨u, eu⟩ : ∃ u, uniB l = u := ⟨_, rfl⟩
  obtain ⟨m, em⟩ : ∃ m, isK k = m := ⟨_, rfl⟩
  rw [eu] at U HO
  rw [em] at M HO
  clear eu em
  have HV : Hid (errV l k n = if errOk l k n then l * (n / k) else 0) := rfl
  obtain ⟨o, eo⟩ : ∃ o, errOk l k n = o := ⟨_, rfl⟩
  rw [eo] at HO HV HB ⊢
  cases u
  · have e := HO.out; simp at e; subst e
    have ev := HV.out
    simp only [Bool.false_eq_true, if_false] at ev
    rw [ev]
    clear HO HV ev eo HB
    go_enter Try.func19, Try.ntmps19
    go_wp2_with fail
    refine U.out.mono ?_
    rintro e w' ⟨rfl, rfl⟩
    go_wp2_with fail
    go_ret2
    exact ⟨rfl, rfl⟩
  cases m
  · have e := HO.out; simp at e; subst e
    have ev := HV.out
    simp only [Bool.false_eq_true, if_false] at ev
    rw [ev]
    clear HO HV ev eo HB
    go_enter Try.func19, Try.ntmps19
    go_wp2_with fail
    refine U.out.mono ?_
    rintro e w' ⟨rfl, rfl⟩
    go_wp2_with fail
    refine M.out.mono ?_
    rintro e w' ⟨rfl, rfl⟩
    go_wp2_with fail
    go_ret2
    exact ⟨rfl, rfl⟩
  by_cases h0 : 0 ≤ n
  · by_cases h1 : n ≤ 72057594037927935
    · have e := HO.out
      rw [decide_eq_true ⟨h0, h1⟩] at e
      simp at e; subst e
      have ev := HV.out
      simp only [if_true] at ev
      obtain ⟨b1, b2, b3, b4, b5, b6, b7, b8, _, _⟩ := HB.out rfl
      have M2 := hid (mul_any l (n / k) w (by omega) (by omega) (by omega) (by omega))
      have dv : divV n k = n / k := by unfold divV divOk; rw [if_pos (by simp; omega)]
      have mo : mulOk l (n / k) = true := by simp [mulOk]; omega
      have mv : mulV l (n / k) = l * (n / k) := by unfold mulV; rw [mo]; rfl
      rw [mo, mv] at M2
      rw [dv] at D
      rw [ev]
      clear HO HV ev eo HB dv mo mv
      generalize l * (n / k) = P at *
      generalize n / k = q at *
      go_enter Try.func19, Try.ntmps19
      go_wp2_with fail
      refine U.out.mono ?_
      rintro e w' ⟨rfl, rfl⟩
      go_wp2_with fail
      refine M.out.mono ?_
      rintro e w' ⟨rfl, rfl⟩
      go_wp2_with fail
      refine D.out.mono ?_
      rintro e w' ⟨rfl, rfl⟩
      go_wp2_with fail
      refine M2.out.mono ?_
      rintro e w' ⟨rfl, rfl⟩
      go_wp2_with fail
      go_ret2
      exact ⟨rfl, rfl⟩
    · have e := HO.out
      rw [decide_eq_false (by omega)] at e
      simp at e; subst e
      have ev := HV.out
      simp only [Bool.false_eq_true, if_false] at ev
      rw [ev]
      clear HO HV ev eo HB
      go_enter Try.func19, Try.ntmps19
      go_wp2_with fail
      refine U.out.mono ?_
      rintro e w' ⟨rfl, rfl⟩
      go_wp2_with fail
      refine M.out.mono ?_
      rintro e w' ⟨rfl, rfl⟩
      go_wp2_with fail
      go_ret2
      exact ⟨rfl, rfl⟩
  · have e := HO.out
    rw [decide_eq_false (by omega)] at e
    simp at e; subst e
    have ev := HV.out
    simp only [Bool.false_eq_true, if_false] at ev
    rw [ev]
    clear HO HV ev eo HB
    go_enter Try.func19, Try.ntmps19
    go_wp2_with fail
    refine U.out.mono ?_
    rintro e w' ⟨rfl, rfl⟩
    go_wp2_with fail
    refine M.out.mono ?_
    rintro e w' ⟨rfl, rfl⟩
    go_wp2_with fail
    go_ret2
    exact ⟨rfl, rfl⟩
set_option maxRecDepth 100000 in
set_option maxHeartbeats 1000000 in
theorem r_error (l k n : Int) (w : World) (_bl : In64 l) (_bk : In64 k) (bn : In64 n) :
    Calls Try.prog 20 #[.int .i64 l, .int .i64 k, .int .i64 n] w fun e w' => e = .returned (.tuple #[.int .i64 (errV l k n), .bool (errOk l k n)]) ∧ w = w' := by
  have U := hid (r_isL l w)
  have M := hid (r_isK k w)
  obtain ⟨n1, n2⟩ := bn
  have HO : Hid (errOk l k n = (uniB l && isK k && decide (0 ≤ n ∧ n ≤ 72057594037927935))) := rfl
  have HB := hid (@err_bd l k n)
  obtain ⟨u, eu⟩ : ∃ u, uniB l = u := ⟨_, rfl⟩
  obtain ⟨m, em⟩ : ∃ m, isK k = m := ⟨_, rfl⟩
  rw [eu] at U HO
  rw [em] at M HO
  clear eu em
  have HV : Hid (errV l k n = if errOk l k n then l * (n / k) else 0) := rfl
  obtain ⟨o, eo⟩ : ∃ o, errOk l k n = o := ⟨_, rfl⟩
  rw [eo] at HO HV HB ⊢
  cases u
  · have e := HO.out; simp at e; subst e
    have ev := HV.out
    simp only [Bool.false_eq_true, if_false] at ev
    rw [ev]
    clear HO HV ev eo HB
    go_enter Try.func20, Try.ntmps20
    go_wp2_with fail
    refine U.out.mono ?_
    rintro e w' ⟨rfl, rfl⟩
    go_wp2_with fail
    go_ret2
    exact ⟨rfl, rfl⟩
  cases m
  · have e := HO.out; simp at e; subst e
    have ev := HV.out
    simp only [Bool.false_eq_true, if_false] at ev
    rw [ev]
    clear HO HV ev eo HB
    go_enter Try.func20, Try.ntmps20
    go_wp2_with fail
    refine U.out.mono ?_
    rintro e w' ⟨rfl, rfl⟩
    go_wp2_with fail
    refine M.out.mono ?_
    rintro e w' ⟨rfl, rfl⟩
    go_wp2_with fail
    go_ret2
    exact ⟨rfl, rfl⟩
  by_cases h0 : 0 ≤ n
  · by_cases h1 : n ≤ 72057594037927935
    · have e := HO.out
      rw [decide_eq_true ⟨h0, h1⟩] at e
      simp at e; subst e
      have ev := HV.out
      simp only [if_true] at ev
      obtain ⟨b1, b2, b3, b4, b5, b6, b7, b8, _, _⟩ := HB.out rfl
      rw [ev]
      clear HO HV ev eo HB
      obtain ⟨P, eP⟩ : ∃ P, l * (n / k) = P := ⟨_, rfl⟩
      have EP := hid eP
      have e64 : IntKind.i64.wrap (l * (n / k)) = l * (n / k) := IntWalk.i64_in _ ⟨by omega, by omega⟩
      have e65 : wrap64 (l * (n / k)) = l * (n / k) := IntWalk.wrap64_in _ ⟨by omega, by omega⟩
      clear eP
      go_enter Try.func20, Try.ntmps20
      go_wp2_with fail
      refine U.out.mono ?_
      rintro e w' ⟨rfl, rfl⟩
      go_wp2_with fail
      refine M.out.mono ?_
      rintro e w' ⟨rfl, rfl⟩
      go_wp2_with fail
      go_ret2
      exact ⟨rfl, rfl⟩
    · have e := HO.out
      rw [decide_eq_false (by omega)] at e
      simp at e; subst e
      have ev := HV.out
      simp only [Bool.false_eq_true, if_false] at ev
      rw [ev]
      clear HO HV ev eo HB
      go_enter Try.func20, Try.ntmps20
      go_wp2_with fail
      refine U.out.mono ?_
      rintro e w' ⟨rfl, rfl⟩
      go_wp2_with fail
      refine M.out.mono ?_
      rintro e w' ⟨rfl, rfl⟩
      go_wp2_with fail
      go_ret2
      exact ⟨rfl, rfl⟩
  · have e := HO.out
    rw [decide_eq_false (by omega)] at e
    simp at e; subst e
    have ev := HV.out
    simp only [Bool.false_eq_true, if_false] at ev
    rw [ev]
    clear HO HV ev eo HB
    go_enter Try.func20, Try.ntmps20
    go_wp2_with fail
    refine U.out.mono ?_
    rintro e w' ⟨rfl, rfl⟩
    go_wp2_with fail
    refine M.out.mono ?_
    rintro e w' ⟨rfl, rfl⟩
    go_wp2_with fail
    go_ret2
    exact ⟨rfl, rfl⟩
end Go.Proofs.Ytaihjcefgokjkaa
