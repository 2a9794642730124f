/- The walks of the statements of layer 1. -/
import Derived.Test.YtllbnlkjjhjlgaaRkProg4
namespace Go.Proofs.Ytllbnlkjjhjlgaa
open Go.RowKit Rk

theorem Drawn.below {w w' : World} (h : Drawn w w') (B : Nat) : Below B w w' := by obtain ⟨n, rfl⟩ := h; exact below_drewN (Below.refl _ _) n

set_option maxHeartbeats 400000 in
theorem alive_any (w : World) : Calls Try.prog 15 #[] w fun e w' => e = .returned (.bool true) ∧ Below w.heap.size w w' := by
  have h1 : partV 10 1 3 = 3 := by decide
  have h2 : partOk 10 1 3 = true := by decide
  have h3 : partUpV 10 1 3 = 4 := by decide
  have h4 : partUpOk 10 1 3 = true := by decide
  have h5 : partV 9223372036854775807 9223372036854775807 9223372036854775807 = 9223372036854775807 := by decide
  have h6 : partOk 9223372036854775807 9223372036854775807 9223372036854775807 = true := by decide
  have H1 := hid h1
  have H2 := hid h2
  have H3 := hid h3
  have H4 := hid h4
  have H5 := hid h5
  have H6 := hid h6
  clear h1 h2 h3 h4 h5 h6
  go_enter Try.func15, Try.ntmps15
  go_wp2_with fail
  refine (part_any 10 1 3 w (by omega) (by omega) (by omega) (by omega) (by omega) (by omega)).mono ?_
  rintro e w1 ⟨rfl, hd1⟩
  rw [H1.out, H2.out]
  go_wp2_with fail
  refine (partup_any 10 1 3 w1 (by omega) (by omega) (by omega) (by omega) (by omega) (by omega)).mono ?_
  rintro e w2 ⟨rfl, hd2⟩
  rw [H3.out, H4.out]
  go_wp2_with fail
  refine (part_any 9223372036854775807 9223372036854775807 9223372036854775807 w2 (by omega) (by omega) (by omega) (by omega) (by omega) (by omega)).mono ?_
  rintro e w3 ⟨rfl, hd3⟩
  rw [H5.out, H6.out]
  go_wp2_with fail
  go_ret
  exact ⟨rfl, ((hd1.below _).trans (hd2.below _)).trans (hd3.below _)⟩

set_option maxHeartbeats 1000000 in
theorem ReckonSums_walk (a b : Int) (w : World) (ha : -9223372036854775808 ≤ a) (ha1 : a ≤ 9223372036854775807) (hb : -9223372036854775808 ≤ b) (hb1 : b ≤ 9223372036854775807) :
    Calls Try.prog 5 #[.int .i64 a, .int .i64 b] w fun e w' => e = .returned (.bool true) ∧ Below w.heap.size w w' := by
  obtain ⟨x0, e0⟩ : ∃ x, addV a b = x := ⟨_, rfl⟩
  have E0 := hid e0
  clear e0
  obtain ⟨x1, e1⟩ : ∃ x, addOk a b = x := ⟨_, rfl⟩
  have E1 := hid e1
  clear e1
  obtain ⟨x2, e2⟩ : ∃ x, subV a b = x := ⟨_, rfl⟩
  have E2 := hid e2
  clear e2
  obtain ⟨x3, e3⟩ : ∃ x, subOk a b = x := ⟨_, rfl⟩
  have E3 := hid e3
  clear e3
  go_enter Try.func5, Try.ntmps5
  go_wp2_with fail
  refine (add_any a b _ ha ha1 hb hb1).mono ?_
  rintro e w' ⟨rfl, rfl⟩
  rw [E0.out, E1.out]
  go_wp2_with fail
  refine (r_add a b _ ha ha1 hb hb1).mono ?_
  rintro e w' ⟨rfl, rfl⟩
  rw [E0.out, E1.out]
  go_wp2_with fail
  refine (sub_any a b _ ha ha1 hb hb1).mono ?_
  rintro e w' ⟨rfl, rfl⟩
  rw [E2.out, E3.out]
  go_wp2_with fail
  refine (r_sub a b _ ha ha1 hb hb1).mono ?_
  rintro e w' ⟨rfl, rfl⟩
  rw [E2.out, E3.out]
  go_wp2_with fail
  refine (alive_any _).mono ?_
  rintro e wz ⟨rfl, hbz⟩
  go_wp2_with fail
  go_ret
  exact ⟨rfl, (hbz.mono (by omega))⟩

set_option maxHeartbeats 1000000 in
theorem ReckonProducts_walk (a b : Int) (w : World) (ha : -9223372036854775808 ≤ a) (ha1 : a ≤ 9223372036854775807) (hb : -9223372036854775808 ≤ b) (hb1 : b ≤ 9223372036854775807) :
    Calls Try.prog 4 #[.int .i64 a, .int .i64 b] w fun e w' => e = .returned (.bool true) ∧ Below w.heap.size w w' := by
  obtain ⟨x0, e0⟩ : ∃ x, mulV a b = x := ⟨_, rfl⟩
  have E0 := hid e0
  clear e0
  obtain ⟨x1, e1⟩ : ∃ x, mulOk a b = x := ⟨_, rfl⟩
  have E1 := hid e1
  clear e1
  go_enter Try.func4, Try.ntmps4
  go_wp2_with fail
  refine (mul_any a b _ ha ha1 hb hb1).mono ?_
  rintro e w' ⟨rfl, rfl⟩
  rw [E0.out, E1.out]
  go_wp2_with fail
  refine (r_mul a b _ ha ha1 hb hb1).mono ?_
  rintro e w1 ⟨rfl, hb1⟩
  have hs1 := hb1.size
  rw [E0.out, E1.out]
  go_wp2_with fail
  refine (alive_any _).mono ?_
  rintro e wz ⟨rfl, hbz⟩
  go_wp2_with fail
  go_ret
  exact ⟨rfl, ((hb1.mono (by omega)).trans (hbz.mono (by omega)))⟩

set_option maxHeartbeats 1000000 in
theorem ReckonParts_walk (a b : Int) (w : World) (ha : -9223372036854775808 ≤ a) (ha1 : a ≤ 9223372036854775807) (hb : -9223372036854775808 ≤ b) (hb1 : b ≤ 9223372036854775807) :
    Calls Try.prog 7 #[.int .i64 a, .int .i64 b] w fun e w' => e = .returned (.bool true) ∧ Below w.heap.size w w' := by
  obtain ⟨x0, e0⟩ : ∃ x, divV a b = x := ⟨_, rfl⟩
  have E0 := hid e0
  clear e0
  obtain ⟨x1, e1⟩ : ∃ x, divOk a b = x := ⟨_, rfl⟩
  have E1 := hid e1
  clear e1
  obtain ⟨x2, e2⟩ : ∃ x, upV a b = x := ⟨_, rfl⟩
  have E2 := hid e2
  clear e2
  go_enter Try.func7, Try.ntmps7
  go_wp2_with fail
  refine (div_any a b _ ha ha1 hb hb1).mono ?_
  rintro e w' ⟨rfl, rfl⟩
  rw [E0.out, E1.out]
  go_wp2_with fail
  refine (r_div a b _ ha ha1 hb hb1).mono ?_
  rintro e w' ⟨rfl, rfl⟩
  rw [E0.out, E1.out]
  go_wp2_with fail
  refine (up_any a b _ ha ha1 hb hb1).mono ?_
  rintro e w' ⟨rfl, rfl⟩
  rw [E2.out, E1.out]
  go_wp2_with fail
  refine (r_up a b _ ha ha1 hb hb1).mono ?_
  rintro e w' ⟨rfl, rfl⟩
  rw [E2.out, E1.out]
  go_wp2_with fail
  refine (alive_any _).mono ?_
  rintro e wz ⟨rfl, hbz⟩
  go_wp2_with fail
  go_ret
  exact ⟨rfl, (hbz.mono (by omega))⟩

set_option maxHeartbeats 1000000 in
theorem ReckonShares_walk (n num den : Int) (w : World) (hn : -9223372036854775808 ≤ n) (hn1 : n ≤ 9223372036854775807) (hnum : -9223372036854775808 ≤ num) (hnum1 : num ≤ 9223372036854775807) (hden : -9223372036854775808 ≤ den) (hden1 : den ≤ 9223372036854775807) :
    Calls Try.prog 3 #[.int .i64 n, .int .i64 num, .int .i64 den] w fun e w' => e = .returned (.bool true) ∧ Below w.heap.size w w' := by
  obtain ⟨x0, e0⟩ : ∃ x, partV n num den = x := ⟨_, rfl⟩
  have E0 := hid e0
  clear e0
  obtain ⟨x1, e1⟩ : ∃ x, partOk n num den = x := ⟨_, rfl⟩
  have E1 := hid e1
  clear e1
  obtain ⟨x2, e2⟩ : ∃ x, partUpV n num den = x := ⟨_, rfl⟩
  have E2 := hid e2
  clear e2
  obtain ⟨x3, e3⟩ : ∃ x, partUpOk n num den = x := ⟨_, rfl⟩
  have E3 := hid e3
  clear e3
  go_enter Try.func3, Try.ntmps3
  go_wp2_with fail
  refine (part_any n num den _ hn hn1 hnum hnum1 hden hden1).mono ?_
  rintro e w1 ⟨rfl, hb1⟩
  have hs1 := (hb1.below 0).size
  rw [E0.out, E1.out]
  go_wp2_with fail
  refine (r_part n num den _ hn hn1 hnum hnum1 hden hden1).mono ?_
  rintro e w2 ⟨rfl, hb2⟩
  have hs2 := hb2.size
  rw [E0.out, E1.out]
  go_wp2_with fail
  refine (partup_any n num den _ hn hn1 hnum hnum1 hden hden1).mono ?_
  rintro e w3 ⟨rfl, hb3⟩
  have hs3 := (hb3.below 0).size
  rw [E2.out, E3.out]
  go_wp2_with fail
  refine (r_partup n num den _ hn hn1 hnum hnum1 hden hden1).mono ?_
  rintro e w4 ⟨rfl, hb4⟩
  have hs4 := hb4.size
  rw [E2.out, E3.out]
  go_wp2_with fail
  refine (alive_any _).mono ?_
  rintro e wz ⟨rfl, hbz⟩
  go_wp2_with fail
  go_ret
  exact ⟨rfl, (((((hb1.below _).trans (hb2.mono (by omega))).trans (hb3.below _)).trans (hb4.mono (by omega))).trans (hbz.mono (by omega)))⟩

set_option maxHeartbeats 1000000 in
theorem ReckonPowers_walk (n e : Int) (w : World) (hn : -9223372036854775808 ≤ n) (hn1 : n ≤ 9223372036854775807) (he : -9223372036854775808 ≤ e) (he1 : e ≤ 9223372036854775807) :
    Calls Try.prog 6 #[.int .i64 n, .int .i64 e] w fun e w' => e = .returned (.bool true) ∧ Below w.heap.size w w' := by
  obtain ⟨x0, e0⟩ : ∃ x, logV n = x := ⟨_, rfl⟩
  have E0 := hid e0
  clear e0
  obtain ⟨x1, e1⟩ : ∃ x, logOk n = x := ⟨_, rfl⟩
  have E1 := hid e1
  clear e1
  obtain ⟨x2, e2⟩ : ∃ x, powV e = x := ⟨_, rfl⟩
  have E2 := hid e2
  clear e2
  obtain ⟨x3, e3⟩ : ∃ x, powOk e = x := ⟨_, rfl⟩
  have E3 := hid e3
  clear e3
  go_enter Try.func6, Try.ntmps6
  go_wp2_with fail
  refine (log_any n _ hn hn1).mono ?_
  rintro e w' ⟨rfl, rfl⟩
  rw [E0.out, E1.out]
  go_wp2_with fail
  refine (r_log n _ hn hn1).mono ?_
  rintro e w' ⟨rfl, rfl⟩
  rw [E0.out, E1.out]
  go_wp2_with fail
  refine (pow_any e _ he he1).mono ?_
  rintro e w' ⟨rfl, rfl⟩
  rw [E2.out, E3.out]
  go_wp2_with fail
  refine (r_pow e _ he he1).mono ?_
  rintro e w' ⟨rfl, rfl⟩
  rw [E2.out, E3.out]
  go_wp2_with fail
  refine (alive_any _).mono ?_
  rintro e wz ⟨rfl, hbz⟩
  go_wp2_with fail
  go_ret
  exact ⟨rfl, (hbz.mono (by omega))⟩

end Go.Proofs.Ytllbnlkjjhjlgaa
