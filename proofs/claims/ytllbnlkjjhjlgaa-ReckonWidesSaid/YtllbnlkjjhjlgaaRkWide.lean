/- The walks of Plus, Over, and of the reference's Bits. -/
import Derived.Test.YtllbnlkjjhjlgaaRkLaws
import Derived.Laws.Externs
import Derived.Laws.ResultCell
namespace Go.Proofs.Ytllbnlkjjhjlgaa
open Go.RowKit Rk

theorem run_add (x y c : Int) (hx : 0 ≤ x) (hy : 0 ≤ y) (hc0 : 0 ≤ c) (hc : c ≤ 1) (w : World) :
    (callFunc 47 #[.int .u64 x, .int .u64 y, .int .u64 c]).run Try.prog w =
      .ok (.value (.tuple #[.int .u64 ((x + y + c) % 18446744073709551616), .int .u64 ((x + y + c) / 18446744073709551616)])) w := by
  rw [run_callFunc_extern Try.func47 (by kernel_rfl) (by kernel_rfl) (by kernel_rfl) (e := add64Entry) (by kernel_rfl), run_add64 x y c hx hy hc0 hc]
  rfl

/-- The number of a wide number. -/
def Rk.wide (a b : Int) : Int := b * 18446744073709551616 + a

set_option maxHeartbeats 1000000 in
theorem plus_any (x y a b : Int) (w : World) (hx : 0 ≤ x) (hx1 : x ≤ 18446744073709551615) (hy : 0 ≤ y) (hy1 : y ≤ 18446744073709551615)
    (ha : 0 ≤ a) (ha1 : a ≤ 9223372036854775807) (hb : 0 ≤ b) (hb1 : b ≤ 9223372036854775807) :
    Calls Try.prog 32 #[.agg #[.int .u64 x, .int .u64 y], .int .i64 a, .int .i64 b] w fun e w' => Below w.heap.size w w' ∧
      e = if wide x y + a * b < 340282366920938463463374607431768211456 then .returned (.tuple #[.agg #[.int .u64 ((wide x y + a * b) % 18446744073709551616), .int .u64 ((wide x y + a * b) / 18446744073709551616)], .bool true])
        else .returned (.tuple #[.agg #[.int .u64 0, .int .u64 0], .bool false]) := by
  have p0 : 0 ≤ a * b := Int.mul_nonneg ha hb
  obtain ⟨P, hP⟩ : ∃ P, a * b = P := ⟨_, rfl⟩
  have hPb : P ≤ 9223372036854775807 * 9223372036854775807 := by rw [← hP]; exact Int.mul_le_mul ha1 hb1 hb (by omega)
  rw [hP] at p0
  obtain ⟨hi, eh⟩ : ∃ p, P / 18446744073709551616 = p := ⟨_, rfl⟩
  obtain ⟨lo, el⟩ : ∃ q, P % 18446744073709551616 = q := ⟨_, rfl⟩
  obtain ⟨s0, es0⟩ : ∃ q, (x + lo + 0) % 18446744073709551616 = q := ⟨_, rfl⟩
  obtain ⟨c0, ec0⟩ : ∃ q, (x + lo + 0) / 18446744073709551616 = q := ⟨_, rfl⟩
  obtain ⟨s1, es1⟩ : ∃ q, (y + hi + c0) % 18446744073709551616 = q := ⟨_, rfl⟩
  obtain ⟨c1, ec1⟩ : ∃ q, (y + hi + c0) / 18446744073709551616 = q := ⟨_, rfl⟩
  have bh : 0 ≤ hi := by omega
  have bl : 0 ≤ lo ∧ lo ≤ 18446744073709551615 := by omega
  have bc0 : 0 ≤ c0 ∧ c0 ≤ 1 := by omega
  have bc1 : 0 ≤ c1 := by omega
  have k1 := fun w => run_add x lo 0 hx bl.1 (by omega) (by omega) w
  have k2 := fun w => run_add y hi c0 hy bh bc0.1 bc0.2 w
  rw [es0, ec0] at k1
  rw [es1, ec1] at k2
  have HW : Hid (wide x y + P = c1 * 340282366920938463463374607431768211456 + s1 * 18446744073709551616 + s0) := by show wide x y + P = _; unfold wide; omega
  have hs0 : 0 ≤ s0 ∧ s0 ≤ 18446744073709551615 := by omega
  have hs1 : 0 ≤ s1 ∧ s1 ≤ 18446744073709551615 := by omega
  rw [hP]
  generalize wide x y + P = T at *
  have HP := hid hP
  have EH := hid eh
  have EL := hid el
  clear hP eh el es0 ec0 es1 ec1 hPb p0
  by_cases hc : 0 < c1
  · rw [if_neg (by have := HW.out; omega)]
    go_enter Try.func32, Try.ntmps32
    go_wp2_with (go_at_call 44; go_in)
    refine (mul64_any _ _ _ ha hb (by omega) (by omega)).mono ?_
    rintro e w' ⟨rfl, rfl⟩
    rw [HP.out, EH.out, EL.out]
    go_wp2_with fail
    refine bodyPost_ret (v := .tuple #[.agg #[.int .u64 0, .int .u64 0], .bool false]) (by simp [results, Try.results32, go_sem]) rfl ⟨?_, rfl⟩
    repeat (first | exact Below.refl _ _ | refine Below.alloc ?_ (by simp) _ | refine Below.setCell ?_ (by simp) _)
  · rw [if_pos (by have := HW.out; omega)]
    obtain ⟨e1, e2⟩ : T % 18446744073709551616 = s0 ∧ T / 18446744073709551616 = s1 := by have := HW.out; omega
    rw [e1, e2]
    clear e1 e2
    go_enter Try.func32, Try.ntmps32
    go_wp2_with (go_at_call 44; go_in)
    refine (mul64_any _ _ _ ha hb (by omega) (by omega)).mono ?_
    rintro e w' ⟨rfl, rfl⟩
    rw [HP.out, EH.out, EL.out]
    go_wp2_with fail
    refine bodyPost_ret (v := .tuple #[.agg #[.int .u64 s0, .int .u64 s1], .bool true]) (by simp [results, Try.results32, go_sem]) rfl ⟨?_, rfl⟩
    repeat (first | exact Below.refl _ _ | refine Below.alloc ?_ (by simp) _ | refine Below.setCell ?_ (by simp) _)

set_option maxHeartbeats 1000000 in
theorem plus_no (x y a b : Int) (w : World) (_ha : -9223372036854775808 ≤ a) (_ha1 : a ≤ 9223372036854775807) (_hb : -9223372036854775808 ≤ b) (_hb1 : b ≤ 9223372036854775807) (h : ¬ (0 ≤ a ∧ 0 ≤ b)) :
    Calls Try.prog 32 #[.agg #[.int .u64 x, .int .u64 y], .int .i64 a, .int .i64 b] w fun e w' => Below w.heap.size w w' ∧
      e = .returned (.tuple #[.agg #[.int .u64 0, .int .u64 0], .bool false]) := by
  by_cases h1 : 0 ≤ a <;> by_cases h2 : 0 ≤ b
  · exact absurd ⟨h1, h2⟩ h
  all_goals
    clear h
    go_enter Try.func32, Try.ntmps32
    go_wp2
    refine bodyPost_ret (v := .tuple #[.agg #[.int .u64 0, .int .u64 0], .bool false]) (by simp [results, Try.results32, go_sem]) rfl ⟨?_, rfl⟩
    repeat (first | exact Below.refl _ _ | refine Below.alloc ?_ (by simp) _ | refine Below.setCell ?_ (by simp) _)

namespace Rk
def overOk (T n : Int) : Bool := decide (1 ≤ n) && quoOk T n
def overV (T n : Int) : Int := if decide (1 ≤ n) then quo T n else 0
def overRest (T n : Int) : Bool := decide (1 ≤ n) && quoRest T n
end Rk

theorem ret_ibb {a c : Int} {x y u v : Bool} (h1 : a = c) (h2 : x = u) (h3 : y = v) : Ending.returned (.tuple #[.int .i64 a, .bool x, .bool y]) = .returned (.tuple #[.int .i64 c, .bool u, .bool v]) := by rw [h1, h2, h3]

set_option maxHeartbeats 1000000 in
theorem over_any (x y n : Int) (w : World) (hx : 0 ≤ x) (hx1 : x ≤ 18446744073709551615) (hy : 0 ≤ y) (_hy1 : y ≤ 18446744073709551615) (_hn : -9223372036854775808 ≤ n) (hn1 : n ≤ 9223372036854775807) :
    Calls Try.prog 36 #[.agg #[.int .u64 x, .int .u64 y], .int .i64 n] w fun e w' => Below w.heap.size w w' ∧
      e = .returned (.tuple #[.int .i64 (overV (wide x y) n), .bool (overRest (wide x y) n), .bool (overOk (wide x y) n)]) := by
  have HV : Hid (overV (wide x y) n = if decide (1 ≤ n) then quo (wide x y) n else 0) := rfl
  have HR : Hid (overRest (wide x y) n = (decide (1 ≤ n) && quoRest (wide x y) n)) := rfl
  have HO : Hid (overOk (wide x y) n = (decide (1 ≤ n) && quoOk (wide x y) n)) := rfl
  generalize overV (wide x y) n = V at *
  generalize overRest (wide x y) n = R at *
  generalize overOk (wide x y) n = O at *
  by_cases h1 : 1 ≤ n
  · obtain ⟨T, hT⟩ : ∃ T, wide x y = T := ⟨_, rfl⟩
    rw [hT] at HV HR HO
    have eT : y * 18446744073709551616 + x = T := hT
    have HT := hid eT
    by_cases h2 : n ≤ y
    · have hq : 18446744073709551616 ≤ T / n := Int.le_ediv_of_mul_le (by omega) (by omega)
      have Hq := hid hq
      clear hT eT hq
      go_enter Try.func36, Try.ntmps36
      go_wp2_with fail
      go_ret3
      refine ⟨?_, ret_ibb ?_ ?_ ?_⟩
      · repeat (first | exact Below.refl _ _ | refine Below.alloc ?_ (by simp) _ | refine Below.setCell ?_ (by simp) _)
      · rw [HV.out]; unfold quo; have := Hq.out; rw [if_pos (by simpa using h1), if_pos (by omega)]
      · rw [HR.out]; unfold quoRest; have := Hq.out; rw [if_pos (by omega)]; simp
      · rw [HO.out]; unfold quoOk; have := Hq.out; rw [decide_eq_false (by omega : ¬ T / n ≤ 9223372036854775807)]; simp
    · have hT0 : 0 ≤ T := by omega
      have hq0 : 0 ≤ T / n := Int.ediv_nonneg hT0 (by omega)
      have hq1 : T / n < 18446744073709551616 := (Int.ediv_lt_iff_lt_mul (by omega)).2 (by omega)
      have hr0 : 0 ≤ T % n := Int.emod_nonneg T (by omega)
      have HV' : Hid (V = if 9223372036854775807 < T / n then 0 else T / n) := by have := HV.out; rw [if_pos (by simpa using h1)] at this; exact this
      have HR' : Hid (R = if 9223372036854775807 < T / n then false else decide (0 < T % n)) := by have := HR.out; rw [decide_eq_true h1, Bool.true_and] at this; exact this
      have HO' : Hid (O = decide (T / n ≤ 9223372036854775807)) := by have := HO.out; rw [decide_eq_true h1, Bool.true_and] at this; exact this
      clear HV HR HO
      obtain ⟨q, eq⟩ : ∃ q, T / n = q := ⟨_, rfl⟩
      obtain ⟨r, er⟩ : ∃ r, T % n = r := ⟨_, rfl⟩
      rw [eq] at HV' HR' HO' hq0 hq1
      rw [er] at HR' hr0
      have Eq := hid eq
      have Er := hid er
      clear hT eT eq er hT0
      by_cases h3 : q ≤ 9223372036854775807
      · have c1 := hid (show capV q = q from by unfold capV; rw [if_pos h3])
        have c2 := hid (show capOk q = true from by simp [capOk, h3])
        go_enter Try.func36, Try.ntmps36
        go_wp2_with fail
        refine (div64_any y x n _ hy (by omega) hx hx1 hn1).mono ?_
        rintro e w' ⟨rfl, k, rfl⟩
        rw [HT.out, Eq.out, Er.out]
        go_wp2_with fail
        refine (count_any q _ hq0 (by omega)).mono ?_
        rintro e w' ⟨rfl, rfl⟩
        rw [c1.out, c2.out]
        go_wp2_with fail
        go_ret3
        refine ⟨below_drewN ((Below.refl _ _).alloc (Nat.le_refl _) _) k, ret_ibb ?_ ?_ ?_⟩
        · rw [HV'.out, if_neg (by omega)]
        · rw [HR'.out, if_neg (by omega)]
        · rw [HO'.out, decide_eq_true h3]
      · have c1 := hid (show capV q = 0 from by unfold capV; rw [if_neg h3])
        have c2 := hid (show capOk q = false from by simp [capOk]; omega)
        go_enter Try.func36, Try.ntmps36
        go_wp2_with fail
        refine (div64_any y x n _ hy (by omega) hx hx1 hn1).mono ?_
        rintro e w' ⟨rfl, k, rfl⟩
        rw [HT.out, Eq.out, Er.out]
        go_wp2_with fail
        refine (count_any q _ hq0 (by omega)).mono ?_
        rintro e w' ⟨rfl, rfl⟩
        rw [c1.out, c2.out]
        go_wp2_with fail
        go_ret3
        refine ⟨below_drewN ((Below.refl _ _).alloc (Nat.le_refl _) _) k, ret_ibb ?_ ?_ ?_⟩
        · rw [HV'.out, if_pos (by omega)]
        · rw [HR'.out, if_pos (by omega)]
        · rw [HO'.out, decide_eq_false (by omega)]
  · go_enter Try.func36, Try.ntmps36
    go_wp2_with fail
    go_ret3
    refine ⟨?_, ret_ibb ?_ ?_ ?_⟩
    · repeat (first | exact Below.refl _ _ | refine Below.alloc ?_ (by simp) _ | refine Below.setCell ?_ (by simp) _)
    · rw [HV.out, if_neg (by simp; omega)]
    · rw [HR.out, decide_eq_false (by omega)]; simp
    · rw [HO.out, decide_eq_false (by omega)]; simp
end Go.Proofs.Ytllbnlkjjhjlgaa
