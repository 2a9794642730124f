/- The walk of ReckonOrders. -/
import Derived.Test.YtllbnlkjjhjlgaaRkLaws
namespace Go.Proofs.Ytllbnlkjjhjlgaa
open Go.RowKit Rk

set_option maxHeartbeats 1000000 in
theorem ReckonOrders_walk (a b c d : Int) (w : World) (ha : -9223372036854775808 ≤ a) (ha1 : a ≤ 9223372036854775807) (hb : -9223372036854775808 ≤ b) (hb1 : b ≤ 9223372036854775807)
    (hc : -9223372036854775808 ≤ c) (hc1 : c ≤ 9223372036854775807) (hd : -9223372036854775808 ≤ d) (hd1 : d ≤ 9223372036854775807) :
    Calls Try.prog 8 #[.agg #[.int .i64 a, .int .i64 b, .int .i64 c, .int .i64 d]] w fun e w' => e = .returned (.bool true) ∧ Below w.heap.size w w' := by
  obtain ⟨x, ex⟩ : ∃ x, orderV a b c d = x := ⟨_, rfl⟩
  obtain ⟨y, ey⟩ : ∃ y, orderOk a b c d = y := ⟨_, rfl⟩
  have EX := hid ex
  have EY := hid ey
  clear ex ey
  go_enter Try.func8, Try.ntmps8
  go_wp2_with fail
  refine (order_any a b c d _ ha ha1 hb hb1 hc hc1 hd hd1).mono ?_
  rintro e w' ⟨rfl, rfl⟩
  rw [EX.out, EY.out]
  go_wp2_with fail
  refine (r_order a b c d _ ha ha1 hb hb1 hc hc1 hd hd1).mono ?_
  rintro e w1 ⟨rfl, hb2⟩
  have hs1 := hb2.size
  rw [EX.out, EY.out]
  go_wp2_with fail
  refine (alive_any _).mono ?_
  rintro e wz ⟨rfl, hbz⟩
  go_wp2_with fail
  go_ret
  simp at hs1
  exact ⟨rfl, ((Below.refl _ _).alloc (Nat.le_refl _) _).trans ((hb2.mono (by simp)).trans (hbz.mono (by omega)))⟩
end Go.Proofs.Ytllbnlkjjhjlgaa
