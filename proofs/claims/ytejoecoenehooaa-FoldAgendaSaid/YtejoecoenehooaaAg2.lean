/- The walks of bits.Len64, reckon.Log, twig.Depth, fold.ahead, the reference's Ahead. -/
import Derived.Test.YtejoecoenehooaaAg1
namespace Go.Proofs.Ytejoecoenehooaa
open Go.RowKit Nl

theorem w64_in (n : Int) (h0 : 0 ≤ n) (h1 : n ≤ 9223372036854775807) : wrap64 n = n := IntWalk.wrap64_in n ⟨by omega, by omega⟩
theorem len_small (x : Int) (hx : 0 ≤ x) (hx1 : x < 256) : wrap64 (wrap64 ((bitLen x.toNat : Nat) : Int)) = (bitLen x.toNat : Nat) := by
  have := bitLen_le8 x.toNat (by omega)
  rw [w64_in ((bitLen x.toNat : Nat) : Int) (by omega) (by omega), w64_in _ (by omega) (by omega)]
theorem len_close (c K : Nat) (hK : 2 ^ c = K) (x y : Int) (hy : 0 < y) (hy1 : y < 256) (hx : x.toNat / K = y.toNat) (hc : c ≤ 56) :
    wrap64 ((c : Int) + wrap64 ((bitLen y.toNat : Nat) : Int)) = (bitLen x.toNat : Nat) := by
  have h8 := bitLen_le8 y.toNat (by omega)
  subst hK
  rw [w64_in ((bitLen y.toNat : Nat) : Int) (by omega) (by omega), w64_in _ (by omega) (by omega)]
  have := bitLen_shift x.toNat c (by rw [hx]; omega)
  rw [this, hx]
  omega

set_option maxRecDepth 100000 in
set_option maxHeartbeats 400000 in
theorem len64_any (a : Int) (w : World) (ha : 0 ≤ a) (ha1 : a ≤ 18446744073709551615) :
    Calls Try.prog 153 #[.int .u64 a] w fun e w' => e = .returned (.int .i64 (bitLen a.toNat)) ∧ w = w' := by
  go_enter Try.func153, Try.ntmps153
  go_wp2
  all_goals go_ret
  all_goals refine ⟨ret_int ?_, rfl⟩
  all_goals rw [len8tab_get]
  · exact len_close 56 72057594037927936 rfl a _ (by omega) (by omega) (by omega) (by omega)
  · exact len_close 48 281474976710656 rfl a _ (by omega) (by omega) (by omega) (by omega)
  · exact len_close 40 1099511627776 rfl a _ (by omega) (by omega) (by omega) (by omega)
  · exact len_close 32 4294967296 rfl a _ (by omega) (by omega) (by omega) (by omega)
  · exact len_close 24 16777216 rfl a _ (by omega) (by omega) (by omega) (by omega)
  · exact len_close 16 65536 rfl a _ (by omega) (by omega) (by omega) (by omega)
  · exact len_close 8 256 rfl a _ (by omega) (by omega) (by omega) (by omega)
  · exact len_small a (by omega) (by omega)

set_option maxRecDepth 100000 in
set_option maxHeartbeats 1000000 in
theorem t_depth (n : Int) (w : World) (bn : In64 n) :
    Calls Try.prog 116 #[.int .i64 n] w fun e w' => e = .returned (.tuple #[.int .i64 (depV n), .bool (depOk n)]) ∧ w = w' := by
  obtain ⟨b1, b2⟩ := bn
  by_cases h : 1 ≤ n
  · have hb := bitLen_le63 n b2
    have HV : Hid (depV n = (bitLen n.toNat : Int) - 1) := by show depV n = _; unfold depV depOk; rw [if_pos (by simpa using h)]
    have HO : Hid (depOk n = true) := by show depOk n = true; simp [depOk, h]
    generalize depV n = V at *
    generalize depOk n = O at *
    generalize hq : bitLen n.toNat = q at *
    have Hq := hid hq
    clear hq
    go_enter Try.func116, Try.ntmps116
    go_wp2_with (go_at_call 140; go_in)
    refine (len64_any n w (by omega) (by omega)).mono ?_
    rintro e w' ⟨rfl, rfl⟩
    rw [Hq.out]
    go_wp2_with fail
    go_ret2
    exact ⟨ret_ib HV.out.symm HO.out.symm, rfl⟩
  · have e1 : depV n = 0 := by unfold depV depOk; rw [if_neg (by simpa using h)]
    have e2 : depOk n = false := by simp [depOk]; omega
    rw [e1, e2]
    clear e1 e2
    go_enter Try.func116, Try.ntmps116
    go_wp2_with (go_at_call 140; go_in)
    go_ret2
    exact ⟨rfl, rfl⟩

set_option maxRecDepth 100000 in
set_option maxHeartbeats 1000000 in
theorem f_ahead (a b : Int) (w : World) (ba : In64 a) (bb : In64 b) :
    Calls Try.prog 71 #[.int .i64 a, .int .i64 b] w fun e w' => e = .returned (.bool (aheadB a b)) ∧ w = w' := by
  have D1 := hid (fun W : World => t_depth a W ba)
  have D2 := hid (fun W : World => t_depth b W bb)
  have HR : Hid (aheadB a b = decide (depV b < depV a ∨ (depV a = depV b ∧ a < b))) := rfl
  have n1 := dep_nn a
  have n2 := dep_nn b
  generalize aheadB a b = R at *
  generalize depV a = x at *
  generalize depV b = y at *
  by_cases h : x = y
  · have hxy : (x == y) = true := by simpa using h
    have e := HR.out
    have e2 : R = decide (a < b) := by rw [e]; simp [h]
    have E2 := hid e2
    subst h
    clear e e2 HR
    go_enter Try.func71, Try.ntmps71
    go_wp2_with fail
    refine (D1.out w).mono ?_
    rintro e w' ⟨rfl, rfl⟩
    go_wp2_with fail
    refine (D2.out w).mono ?_
    rintro e w' ⟨rfl, rfl⟩
    go_wp2_with fail
    go_ret
    exact ⟨ret_bool E2.out.symm, rfl⟩
  · have hxy : (x == y) = false := by simpa using h
    have e := HR.out
    have e2 : R = decide (y < x) := by rw [e]; simp [h]
    have E2 := hid e2
    clear e e2 HR h
    go_enter Try.func71, Try.ntmps71
    go_wp2_with fail
    refine (D1.out w).mono ?_
    rintro e w' ⟨rfl, rfl⟩
    go_wp2_with fail
    refine (D2.out w).mono ?_
    rintro e w' ⟨rfl, rfl⟩
    go_wp2_with fail
    go_ret
    exact ⟨ret_bool E2.out.symm, rfl⟩

set_option maxRecDepth 100000 in
set_option maxHeartbeats 1000000 in
theorem r_ahead (a b : Int) (w : World) (ba : In64 a) (bb : In64 b) :
    Calls Try.prog 70 #[.int .i64 a, .int .i64 b] w fun e w' => e = .returned (.bool (aheadB a b)) ∧ w = w' := by
  have D1 := hid (fun W : World => r_depth a W ba.1 ba.2)
  have D2 := hid (fun W : World => r_depth b W bb.1 bb.2)
  have HR : Hid (aheadB a b = decide (depV b < depV a ∨ (depV a = depV b ∧ a < b))) := rfl
  have n1 := dep_nn a
  have n2 := dep_nn b
  generalize aheadB a b = R at *
  generalize depV a = x at *
  generalize depV b = y at *
  rcases Int.lt_trichotomy y x with h | h | h
  · have e2 : R = true := by rw [HR.out]; simp [h]
    subst e2
    clear HR
    go_enter Try.func70, Try.ntmps70
    go_wp2_with fail
    refine (D1.out w).mono ?_
    rintro e w' ⟨rfl, rfl⟩
    go_wp2_with fail
    refine (D2.out w).mono ?_
    rintro e w' ⟨rfl, rfl⟩
    go_wp2_with fail
    go_ret
    exact ⟨rfl, rfl⟩
  · have e2 : R = decide (a < b) := by rw [HR.out]; simp [h]
    have E2 := hid e2
    subst h
    clear HR e2
    go_enter Try.func70, Try.ntmps70
    go_wp2_with fail
    refine (D1.out w).mono ?_
    rintro e w' ⟨rfl, rfl⟩
    go_wp2_with fail
    refine (D2.out w).mono ?_
    rintro e w' ⟨rfl, rfl⟩
    go_wp2_with fail
    go_ret
    exact ⟨ret_bool E2.out.symm, rfl⟩
  · have e2 : R = false := by rw [HR.out]; simp; omega
    have hxy : (x == y) = false := by simp; omega
    subst e2
    clear HR
    go_enter Try.func70, Try.ntmps70
    go_wp2_with fail
    refine (D1.out w).mono ?_
    rintro e w' ⟨rfl, rfl⟩
    go_wp2_with fail
    refine (D2.out w).mono ?_
    rintro e w' ⟨rfl, rfl⟩
    go_wp2_with fail
    go_ret
    exact ⟨ret_bool (by simp; omega), rfl⟩
end Go.Proofs.Ytejoecoenehooaa
