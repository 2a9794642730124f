/- The walks of the reference's Plus and Over, and of ReckonWides. -/
import Derived.Test.YtllbnlkjjhjlgaaRkWide2
namespace Go.Proofs.Ytllbnlkjjhjlgaa
open Go.RowKit Rk

theorem wide_most : wide 18446744073709551615 18446744073709551615 = 340282366920938463463374607431768211455 := by decide

def PlusYes (T : Int) (w : World) (e : Ending) (w' : World) : Prop := ∃ v zs, e = .returned (.tuple #[v, .bool true]) ∧ Own w' w.heap.size v zs ∧ Dig zs ∧ Rk.val zs = T ∧ zs.length ≤ 1000 ∧ Below w.heap.size w w'

set_option maxHeartbeats 2000000 in
theorem r_plus_yes (x y a b : Int) (w : World) (hx : 0 ≤ x) (hx1 : x ≤ 18446744073709551615) (hy : 0 ≤ y) (hy1 : y ≤ 18446744073709551615)
    (h1 : 0 ≤ a) (ha1 : a ≤ 9223372036854775807) (h2 : 0 ≤ b) (hb1 : b ≤ 9223372036854775807) (hT : wide x y + a * b < 340282366920938463463374607431768211456) :
    Calls Try.prog 33 #[.agg #[.int .u64 x, .int .u64 y], .int .i64 a, .int .i64 b] w (PlusYes (wide x y + a * b) w) := by
  have HT := hid hT
  clear hT
  go_enter Try.func33, Try.ntmps33
  go_wp2_with (go_at_call 40; go_in)
  refine (bits_any x y _ hx hx1 hy hy1).mono ?_
  rintro e w1 ⟨v1, d1, rfl, ho1, hd1, hv1, hl1, hb1'⟩
  have hs1 := hb1'.size
  simp at hs1
  have V1 := hid hv1
  clear hv1
  go_wp2_with (go_at_call 40; go_in)
  refine (digits_any _ ha1 (by omega) _).mono ?_
  rintro e wp1 ⟨vp1, dp1, rfl, hop1, hdp1, hvp1, hlp1, hbp1⟩
  have hsp1 := hbp1.size
  have Vp1 := hid hvp1
  clear hvp1
  go_wp2_with fail
  refine (digits_any _ hb1 (by omega) _).mono ?_
  rintro e wp2 ⟨vp2, dp2, rfl, hop2, hdp2, hvp2, hlp2, hbp2⟩
  have hsp2 := hbp2.size
  have Vp2 := hid hvp2
  clear hvp2
  go_wp2_with fail
  refine (times_any _ (hop1.below hbp2 (Nat.le_refl _)) hop2 hdp1 hdp2 (by omega) (by omega)).mono ?_
  rintro e wp3 ⟨vp3, dp3, rfl, hop3, hdp3, hvp3, hlp3, hbp3⟩
  have hsp3 := hbp3.size
  have Vp3 : Hid (Rk.val dp3 = a * b) := by
    show Rk.val dp3 = a * b
    rw [hvp3, Vp1.out, Vp2.out, Int.max_eq_left (by omega), Int.max_eq_left (by omega)]
  clear hvp3
  have hbp : Below w1.heap.size w1 wp3 := hbp1.trans ((hbp2.mono (by omega)).trans (hbp3.mono (by omega)))
  go_wp2_with fail
  refine (sum_any _ (ho1.below hbp (Nat.le_refl _)) hop3 hd1 hdp3 (by omega) (by omega)).mono ?_
  rintro e w4 ⟨v4, d4, rfl, ho4, hd4, hv4, hl4, hb4⟩
  have hs4 := hb4.size
  have V4 : Hid (Rk.val d4 = wide x y + a * b) := by show _ = _; rw [hv4, V1.out, Vp3.out]
  have hl5 : d4.length ≤ 257 := by omega
  clear hv4 hl4
  have hbw : Below (w.heap.size + 2) ((w.alloc (.cells #[.int .u64 x, .int .u64 y] 33)).alloc (.cells #[.int .u64 18446744073709551615, .int .u64 18446744073709551615] 33)) w4 :=
    (hb1'.mono (by simp)).trans ((hbp.mono (by omega)).trans (hb4.mono (by omega)))
  have hm0 : w4.cell? ⟨w.heap.size + 1, 0, none⟩ = some (.int .u64 18446744073709551615) := by rw [hbw.cell (p := ⟨w.heap.size + 1, 0, none⟩) (by simp)]; simp [World.cell?_alloc_at]
  have hm1 : w4.cell? ⟨w.heap.size + 1, 1, none⟩ = some (.int .u64 18446744073709551615) := by rw [hbw.cell (p := ⟨w.heap.size + 1, 1, none⟩) (by simp)]; simp [World.cell?_alloc_at]
  go_wp2_with fail
  refine (bits_any _ _ _ (by omega) (by omega) (by omega) (by omega)).mono ?_
  rintro e w5 ⟨v5, d5, rfl, ho5, hd5, hv5, hl6, hb5⟩
  have hs5 := hb5.size
  rw [wide_most] at hv5
  have V5 := hid hv5
  clear hv5 hm0 hm1
  go_wp2_with fail
  refine (less_any _ (ho4.below hb5 (Nat.le_refl _)) ho5 hd4 hd5 (by omega) (by omega)).mono ?_
  rintro e w' ⟨rfl, rfl⟩
  rw [V4.out, V5.out]
  have hbf : Below w.heap.size w w5 := (((Below.refl _ _).alloc (Nat.le_refl _) _).alloc (by simp) _).trans ((hbw.mono (by omega)).trans (hb5.mono (by omega)))
  have hs : ¬ 0 < sgn (wide x y + a * b) 340282366920938463463374607431768211455 := by
    have := sgn_le (a := wide x y + a * b) (b := 340282366920938463463374607431768211455)
    have := HT.out
    omega
  generalize sgn (wide x y + a * b) 340282366920938463463374607431768211455 = S at *
  go_wp2_with fail
  go_ret2
  exact ⟨_, d4, rfl, (ho4.below hb5 (Nat.le_refl _)).mono (by omega), hd4, V4.out, by omega, hbf⟩

set_option maxHeartbeats 2000000 in
theorem r_plus_far (x y a b : Int) (w : World) (hx : 0 ≤ x) (hx1 : x ≤ 18446744073709551615) (hy : 0 ≤ y) (hy1 : y ≤ 18446744073709551615)
    (h1 : 0 ≤ a) (ha1 : a ≤ 9223372036854775807) (h2 : 0 ≤ b) (hb1 : b ≤ 9223372036854775807) (hT : 340282366920938463463374607431768211456 ≤ wide x y + a * b) :
    Calls Try.prog 33 #[.agg #[.int .u64 x, .int .u64 y], .int .i64 a, .int .i64 b] w fun e w' => e = .returned (.tuple #[.slice none 0 0, .bool false]) ∧ Below w.heap.size w w' := by
  have HT := hid hT
  clear hT
  go_enter Try.func33, Try.ntmps33
  go_wp2_with (go_at_call 40; go_in)
  refine (bits_any x y _ hx hx1 hy hy1).mono ?_
  rintro e w1 ⟨v1, d1, rfl, ho1, hd1, hv1, hl1, hb1'⟩
  have hs1 := hb1'.size
  simp at hs1
  have V1 := hid hv1
  clear hv1
  go_wp2_with (go_at_call 40; go_in)
  refine (digits_any _ ha1 (by omega) _).mono ?_
  rintro e wp1 ⟨vp1, dp1, rfl, hop1, hdp1, hvp1, hlp1, hbp1⟩
  have hsp1 := hbp1.size
  have Vp1 := hid hvp1
  clear hvp1
  go_wp2_with fail
  refine (digits_any _ hb1 (by omega) _).mono ?_
  rintro e wp2 ⟨vp2, dp2, rfl, hop2, hdp2, hvp2, hlp2, hbp2⟩
  have hsp2 := hbp2.size
  have Vp2 := hid hvp2
  clear hvp2
  go_wp2_with fail
  refine (times_any _ (hop1.below hbp2 (Nat.le_refl _)) hop2 hdp1 hdp2 (by omega) (by omega)).mono ?_
  rintro e wp3 ⟨vp3, dp3, rfl, hop3, hdp3, hvp3, hlp3, hbp3⟩
  have hsp3 := hbp3.size
  have Vp3 : Hid (Rk.val dp3 = a * b) := by
    show Rk.val dp3 = a * b
    rw [hvp3, Vp1.out, Vp2.out, Int.max_eq_left (by omega), Int.max_eq_left (by omega)]
  clear hvp3
  have hbp : Below w1.heap.size w1 wp3 := hbp1.trans ((hbp2.mono (by omega)).trans (hbp3.mono (by omega)))
  go_wp2_with fail
  refine (sum_any _ (ho1.below hbp (Nat.le_refl _)) hop3 hd1 hdp3 (by omega) (by omega)).mono ?_
  rintro e w4 ⟨v4, d4, rfl, ho4, hd4, hv4, hl4, hb4⟩
  have hs4 := hb4.size
  have V4 : Hid (Rk.val d4 = wide x y + a * b) := by show _ = _; rw [hv4, V1.out, Vp3.out]
  have hl5 : d4.length ≤ 257 := by omega
  clear hv4 hl4
  have hbw : Below (w.heap.size + 2) ((w.alloc (.cells #[.int .u64 x, .int .u64 y] 33)).alloc (.cells #[.int .u64 18446744073709551615, .int .u64 18446744073709551615] 33)) w4 :=
    (hb1'.mono (by simp)).trans ((hbp.mono (by omega)).trans (hb4.mono (by omega)))
  have hm0 : w4.cell? ⟨w.heap.size + 1, 0, none⟩ = some (.int .u64 18446744073709551615) := by rw [hbw.cell (p := ⟨w.heap.size + 1, 0, none⟩) (by simp)]; simp [World.cell?_alloc_at]
  have hm1 : w4.cell? ⟨w.heap.size + 1, 1, none⟩ = some (.int .u64 18446744073709551615) := by rw [hbw.cell (p := ⟨w.heap.size + 1, 1, none⟩) (by simp)]; simp [World.cell?_alloc_at]
  go_wp2_with fail
  refine (bits_any _ _ _ (by omega) (by omega) (by omega) (by omega)).mono ?_
  rintro e w5 ⟨v5, d5, rfl, ho5, hd5, hv5, hl6, hb5⟩
  have hs5 := hb5.size
  rw [wide_most] at hv5
  have V5 := hid hv5
  clear hv5 hm0 hm1
  go_wp2_with fail
  refine (less_any _ (ho4.below hb5 (Nat.le_refl _)) ho5 hd4 hd5 (by omega) (by omega)).mono ?_
  rintro e w' ⟨rfl, rfl⟩
  rw [V4.out, V5.out]
  have hbf : Below w.heap.size w w5 := (((Below.refl _ _).alloc (Nat.le_refl _) _).alloc (by simp) _).trans ((hbw.mono (by omega)).trans (hb5.mono (by omega)))
  have hs : 0 < sgn (wide x y + a * b) 340282366920938463463374607431768211455 := by
    have := sgn_le (a := wide x y + a * b) (b := 340282366920938463463374607431768211455)
    have := HT.out
    omega
  generalize sgn (wide x y + a * b) 340282366920938463463374607431768211455 = S at *
  go_wp2_with fail
  go_ret2
  exact ⟨rfl, hbf⟩

set_option maxHeartbeats 1000000 in
theorem r_plus_no (x y a b : Int) (w : World) (_ha : -9223372036854775808 ≤ a) (_ha1 : a ≤ 9223372036854775807) (_hb : -9223372036854775808 ≤ b) (_hb1 : b ≤ 9223372036854775807) (h : ¬ (0 ≤ a ∧ 0 ≤ b)) :
    Calls Try.prog 33 #[.agg #[.int .u64 x, .int .u64 y], .int .i64 a, .int .i64 b] w fun e w' => e = .returned (.tuple #[.slice none 0 0, .bool false]) ∧ Below w.heap.size w w' := by
  by_cases h1 : 0 ≤ a <;> by_cases h2 : 0 ≤ b
  · exact absurd ⟨h1, h2⟩ h
  all_goals
    clear h
    go_enter Try.func33, Try.ntmps33
    go_wp2
    go_ret2
    refine ⟨rfl, ?_⟩
    repeat (first | exact Below.refl _ _ | refine Below.alloc ?_ (by simp) _ | refine Below.setCell ?_ (by simp) _)

set_option maxHeartbeats 1000000 in
theorem r_over (x y n : Int) (w : World) (hx : 0 ≤ x) (hx1 : x ≤ 18446744073709551615) (hy : 0 ≤ y) (hy1 : y ≤ 18446744073709551615) (_hn : -9223372036854775808 ≤ n) (hn1 : n ≤ 9223372036854775807) :
    Calls Try.prog 37 #[.agg #[.int .u64 x, .int .u64 y], .int .i64 n] w fun e w' => Below w.heap.size w w' ∧
      e = .returned (.tuple #[.int .i64 (overV (wide x y) n), .bool (overRest (wide x y) n), .bool (overOk (wide x y) n)]) := by
  by_cases h1 : 1 ≤ n
  · have HV := hid (show overV (wide x y) n = quo (wide x y) n from by unfold overV; rw [if_pos (by simpa using h1)])
    have HR := hid (show overRest (wide x y) n = quoRest (wide x y) n from by unfold overRest; rw [decide_eq_true h1]; rfl)
    have HO := hid (show overOk (wide x y) n = quoOk (wide x y) n from by unfold overOk; rw [decide_eq_true h1]; rfl)
    go_enter Try.func37, Try.ntmps37
    go_wp2_with fail
    refine (bits_any x y _ hx hx1 hy hy1).mono ?_
    rintro e w1 ⟨v1, d1, rfl, ho1, hd1, hv1, hl1, hb1⟩
    have hs1 := hb1.size
    simp at hs1
    have V1 := hid hv1
    clear hv1
    go_wp2_with fail
    refine (quot_any n _ ho1 hd1 (by omega) h1 hn1).mono ?_
    rintro e w2 ⟨rfl, hb2⟩
    rw [V1.out]
    go_wp2_with fail
    go_ret3
    refine ⟨((Below.refl _ _).alloc (Nat.le_refl _) _).trans ((hb1.mono (by simp)).trans (hb2.mono (by omega))), ret_ibb HV.out.symm HR.out.symm HO.out.symm⟩
  · go_enter Try.func37, Try.ntmps37
    go_wp2_with fail
    go_ret3
    refine ⟨?_, ret_ibb ?_ ?_ ?_⟩
    · repeat (first | exact Below.refl _ _ | refine Below.alloc ?_ (by simp) _ | refine Below.setCell ?_ (by simp) _)
    · unfold overV; rw [if_neg (by simp; omega)]
    · unfold overRest; rw [decide_eq_false (by omega)]; simp
    · unfold overOk; rw [decide_eq_false (by omega)]; simp
end Go.Proofs.Ytllbnlkjjhjlgaa
