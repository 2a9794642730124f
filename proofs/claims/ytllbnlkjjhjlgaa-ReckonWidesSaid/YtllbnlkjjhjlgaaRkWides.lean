/- The walk of ReckonWides. -/
import Derived.Test.YtllbnlkjjhjlgaaRkWide3
namespace Go.Proofs.Ytllbnlkjjhjlgaa
open Go.RowKit Rk

theorem wide_zero (w : World) : (Op.equalIn 10000 34 (.agg #[.int .u64 0, .int .u64 0]) (.agg #[.int .u64 0, .int .u64 0])).run Try.prog w = .ok true w := by kernel_rfl

set_option maxRecDepth 100000 in
set_option maxHeartbeats 2000000 in
theorem ReckonWides_no (x y a b : Int) (w : World) (hx : 0 ≤ x) (hx1 : x ≤ 18446744073709551615) (hy : 0 ≤ y) (hy1 : y ≤ 18446744073709551615)
    (ha : -9223372036854775808 ≤ a) (ha1 : a ≤ 9223372036854775807) (hb : -9223372036854775808 ≤ b) (hb1 : b ≤ 9223372036854775807) (h : ¬ (0 ≤ a ∧ 0 ≤ b)) :
    Calls Try.prog 9 #[.agg #[.int .u64 x, .int .u64 y], .int .i64 a, .int .i64 b] w fun e w' => e = .returned (.bool true) ∧ Below w.heap.size w w' := by
  obtain ⟨q, eq⟩ : ∃ q, overV (wide x y) a = q := ⟨_, rfl⟩
  obtain ⟨r, er⟩ : ∃ q, overRest (wide x y) a = q := ⟨_, rfl⟩
  obtain ⟨o, eo⟩ : ∃ q, overOk (wide x y) a = q := ⟨_, rfl⟩
  have Eq := hid eq
  have Er := hid er
  have Eo := hid eo
  clear eq er eo
  have hzero := wide_zero
  go_enter Try.func9, Try.ntmps9
  go_wp2_with fail
  refine (plus_no x y a b _ ha ha1 hb hb1 h).mono ?_
  rintro e w1 ⟨hb1', rfl⟩
  have hs1 := hb1'.size
  simp at hs1
  have hlt : w.heap.size < w1.heap.size := by omega
  have hc0 : w1.cell? ⟨w.heap.size, 0, none⟩ = some (.int .u64 x) := by rw [hb1'.cell (p := ⟨w.heap.size, 0, none⟩) (by simp)]; simp
  have hc1 : w1.cell? ⟨w.heap.size, 1, none⟩ = some (.int .u64 y) := by rw [hb1'.cell (p := ⟨w.heap.size, 1, none⟩) (by simp)]; simp
  have hbA : Below w.heap.size w w1 := ((Below.refl _ _).alloc (Nat.le_refl _) _).trans (hb1'.mono (by simp))
  go_wp2_with fail
  refine (r_plus_no x y a b _ ha ha1 hb hb1 h).mono ?_
  rintro e w2 ⟨rfl, hb2⟩
  have hs2 := hb2.size
  simp at hs2
  have hc0' : w2.cell? ⟨w.heap.size, 0, none⟩ = some (.int .u64 x) := by rw [hb2.cell (p := ⟨w.heap.size, 0, none⟩) (by simp; omega)]; simpa [World.cell?_alloc_past _ _ _ hlt] using hc0
  have hc1' : w2.cell? ⟨w.heap.size, 1, none⟩ = some (.int .u64 y) := by rw [hb2.cell (p := ⟨w.heap.size, 1, none⟩) (by simp; omega)]; simpa [World.cell?_alloc_past _ _ _ hlt] using hc1
  have hm0 : w2.cell? ⟨w1.heap.size, 0, none⟩ = some (.int .u64 0) := by rw [hb2.cell (p := ⟨w1.heap.size, 0, none⟩) (by simp)]; simp
  have hm1 : w2.cell? ⟨w1.heap.size, 1, none⟩ = some (.int .u64 0) := by rw [hb2.cell (p := ⟨w1.heap.size, 1, none⟩) (by simp)]; simp
  have hbB : Below w.heap.size w w2 := (hbA.alloc (by omega) _).trans (hb2.mono (by simp; omega))
  clear hc0 hc1
  go_wp2_with fail
  refine (over_any x y a _ hx hx1 hy hy1 ha ha1).mono ?_
  rintro e w8 ⟨hb8, rfl⟩
  rw [Eq.out, Er.out, Eo.out]
  have hs8 := hb8.size
  have hd0 : w8.cell? ⟨w.heap.size, 0, none⟩ = some (.int .u64 x) := by rw [hb8.cell (p := ⟨w.heap.size, 0, none⟩) (by show w.heap.size < _; omega)]; exact hc0'
  have hd1 : w8.cell? ⟨w.heap.size, 1, none⟩ = some (.int .u64 y) := by rw [hb8.cell (p := ⟨w.heap.size, 1, none⟩) (by show w.heap.size < _; omega)]; exact hc1'
  go_wp2_with fail
  refine (r_over x y a _ hx hx1 hy hy1 ha ha1).mono ?_
  rintro e w9 ⟨hb9, rfl⟩
  rw [Eq.out, Er.out, Eo.out]
  have hs9 := hb9.size
  go_wp2_with fail
  refine (alive_any _).mono ?_
  rintro e wz ⟨rfl, hbz⟩
  go_wp2_with fail
  go_ret
  exact ⟨rfl, hbB.trans ((hb8.mono (by omega)).trans ((hb9.mono (by omega)).trans (hbz.mono (by omega))))⟩

set_option maxRecDepth 100000 in
set_option maxHeartbeats 2000000 in
theorem ReckonWides_far (x y a b : Int) (w : World) (hx : 0 ≤ x) (hx1 : x ≤ 18446744073709551615) (hy : 0 ≤ y) (hy1 : y ≤ 18446744073709551615)
    (ha : -9223372036854775808 ≤ a) (ha1 : a ≤ 9223372036854775807) (_hb : -9223372036854775808 ≤ b) (hb1 : b ≤ 9223372036854775807) (h1 : 0 ≤ a) (h2 : 0 ≤ b) (hT : 340282366920938463463374607431768211456 ≤ wide x y + a * b) :
    Calls Try.prog 9 #[.agg #[.int .u64 x, .int .u64 y], .int .i64 a, .int .i64 b] w fun e w' => e = .returned (.bool true) ∧ Below w.heap.size w w' := by
  obtain ⟨q, eq⟩ : ∃ q, overV (wide x y) a = q := ⟨_, rfl⟩
  obtain ⟨r, er⟩ : ∃ q, overRest (wide x y) a = q := ⟨_, rfl⟩
  obtain ⟨o, eo⟩ : ∃ q, overOk (wide x y) a = q := ⟨_, rfl⟩
  have Eq := hid eq
  have Er := hid er
  have Eo := hid eo
  clear eq er eo
  have HT := hid hT
  clear hT
  have hzero := wide_zero
  go_enter Try.func9, Try.ntmps9
  go_wp2_with fail
  refine (plus_any x y a b _ hx hx1 hy hy1 h1 ha1 h2 hb1).mono ?_
  rintro e w1 ⟨hb1', he⟩
  rw [if_neg (by have := HT.out; omega)] at he
  subst he
  have hs1 := hb1'.size
  simp at hs1
  have hlt : w.heap.size < w1.heap.size := by omega
  have hc0 : w1.cell? ⟨w.heap.size, 0, none⟩ = some (.int .u64 x) := by rw [hb1'.cell (p := ⟨w.heap.size, 0, none⟩) (by simp)]; simp
  have hc1 : w1.cell? ⟨w.heap.size, 1, none⟩ = some (.int .u64 y) := by rw [hb1'.cell (p := ⟨w.heap.size, 1, none⟩) (by simp)]; simp
  have hbA : Below w.heap.size w w1 := ((Below.refl _ _).alloc (Nat.le_refl _) _).trans (hb1'.mono (by simp))
  go_wp2_with fail
  refine (r_plus_far x y a b _ hx hx1 hy hy1 h1 ha1 h2 hb1 HT.out).mono ?_
  rintro e w2 ⟨rfl, hb2⟩
  have hs2 := hb2.size
  simp at hs2
  have hc0' : w2.cell? ⟨w.heap.size, 0, none⟩ = some (.int .u64 x) := by rw [hb2.cell (p := ⟨w.heap.size, 0, none⟩) (by simp; omega)]; simpa [World.cell?_alloc_past _ _ _ hlt] using hc0
  have hc1' : w2.cell? ⟨w.heap.size, 1, none⟩ = some (.int .u64 y) := by rw [hb2.cell (p := ⟨w.heap.size, 1, none⟩) (by simp; omega)]; simpa [World.cell?_alloc_past _ _ _ hlt] using hc1
  have hm0 : w2.cell? ⟨w1.heap.size, 0, none⟩ = some (.int .u64 0) := by rw [hb2.cell (p := ⟨w1.heap.size, 0, none⟩) (by simp)]; simp
  have hm1 : w2.cell? ⟨w1.heap.size, 1, none⟩ = some (.int .u64 0) := by rw [hb2.cell (p := ⟨w1.heap.size, 1, none⟩) (by simp)]; simp
  have hbB : Below w.heap.size w w2 := (hbA.alloc (by omega) _).trans (hb2.mono (by simp; omega))
  clear hc0 hc1
  go_wp2_with fail
  refine (over_any x y a _ hx hx1 hy hy1 ha ha1).mono ?_
  rintro e w8 ⟨hb8, rfl⟩
  rw [Eq.out, Er.out, Eo.out]
  have hs8 := hb8.size
  have hd0 : w8.cell? ⟨w.heap.size, 0, none⟩ = some (.int .u64 x) := by rw [hb8.cell (p := ⟨w.heap.size, 0, none⟩) (by show w.heap.size < _; omega)]; exact hc0'
  have hd1 : w8.cell? ⟨w.heap.size, 1, none⟩ = some (.int .u64 y) := by rw [hb8.cell (p := ⟨w.heap.size, 1, none⟩) (by show w.heap.size < _; omega)]; exact hc1'
  go_wp2_with fail
  refine (r_over x y a _ hx hx1 hy hy1 ha ha1).mono ?_
  rintro e w9 ⟨hb9, rfl⟩
  rw [Eq.out, Er.out, Eo.out]
  have hs9 := hb9.size
  go_wp2_with fail
  refine (alive_any _).mono ?_
  rintro e wz ⟨rfl, hbz⟩
  go_wp2_with fail
  go_ret
  exact ⟨rfl, hbB.trans ((hb8.mono (by omega)).trans ((hb9.mono (by omega)).trans (hbz.mono (by omega))))⟩

set_option maxRecDepth 100000 in
set_option maxHeartbeats 2000000 in
theorem ReckonWides_yes (x y a b : Int) (w : World) (hx : 0 ≤ x) (hx1 : x ≤ 18446744073709551615) (hy : 0 ≤ y) (hy1 : y ≤ 18446744073709551615)
    (ha : -9223372036854775808 ≤ a) (ha1 : a ≤ 9223372036854775807) (_hb : -9223372036854775808 ≤ b) (hb1 : b ≤ 9223372036854775807) (h1 : 0 ≤ a) (h2 : 0 ≤ b) (hT : wide x y + a * b < 340282366920938463463374607431768211456) :
    Calls Try.prog 9 #[.agg #[.int .u64 x, .int .u64 y], .int .i64 a, .int .i64 b] w fun e w' => e = .returned (.bool true) ∧ Below w.heap.size w w' := by
  obtain ⟨q, eq⟩ : ∃ q, overV (wide x y) a = q := ⟨_, rfl⟩
  obtain ⟨r, er⟩ : ∃ q, overRest (wide x y) a = q := ⟨_, rfl⟩
  obtain ⟨o, eo⟩ : ∃ q, overOk (wide x y) a = q := ⟨_, rfl⟩
  have Eq := hid eq
  have Er := hid er
  have Eo := hid eo
  clear eq er eo
  have HT := hid hT
  clear hT
  have hT0 : 0 ≤ wide x y + a * b := by
    have := Int.mul_nonneg h1 h2
    unfold wide; omega
  obtain ⟨m0, em0⟩ : ∃ q, (wide x y + a * b) % 18446744073709551616 = q := ⟨_, rfl⟩
  obtain ⟨m1, em1⟩ : ∃ q, (wide x y + a * b) / 18446744073709551616 = q := ⟨_, rfl⟩
  have bm0 : 0 ≤ m0 ∧ m0 ≤ 18446744073709551615 := by omega
  have bm1 : 0 ≤ m1 ∧ m1 ≤ 18446744073709551615 := by have := HT.out; omega
  have EM : Hid (wide m0 m1 = wide x y + a * b) := by show wide m0 m1 = _; unfold wide at *; omega
  have Em0 := hid em0
  have Em1 := hid em1
  clear em0 em1 hT0
  have hzero := wide_zero
  go_enter Try.func9, Try.ntmps9
  go_wp2_with fail
  refine (plus_any x y a b _ hx hx1 hy hy1 h1 ha1 h2 hb1).mono ?_
  rintro e w1 ⟨hb1', he⟩
  rw [if_pos HT.out, Em0.out, Em1.out] at he
  subst he
  have hs1 := hb1'.size
  simp at hs1
  have hlt : w.heap.size < w1.heap.size := by omega
  have hc0 : w1.cell? ⟨w.heap.size, 0, none⟩ = some (.int .u64 x) := by rw [hb1'.cell (p := ⟨w.heap.size, 0, none⟩) (by simp)]; simp
  have hc1 : w1.cell? ⟨w.heap.size, 1, none⟩ = some (.int .u64 y) := by rw [hb1'.cell (p := ⟨w.heap.size, 1, none⟩) (by simp)]; simp
  have hbA : Below w.heap.size w w1 := ((Below.refl _ _).alloc (Nat.le_refl _) _).trans (hb1'.mono (by simp))
  go_wp2_with fail
  refine (r_plus_yes x y a b _ hx hx1 hy hy1 h1 ha1 h2 hb1 HT.out).mono ?_
  rintro e w2 ⟨vn, zn, rfl, hon, hzn, hvn, hln, hb2⟩
  have Vn := hid hvn
  clear hvn
  have hs2 := hb2.size
  simp at hs2
  have hc0' : w2.cell? ⟨w.heap.size, 0, none⟩ = some (.int .u64 x) := by rw [hb2.cell (p := ⟨w.heap.size, 0, none⟩) (by simp; omega)]; simpa [World.cell?_alloc_past _ _ _ hlt] using hc0
  have hc1' : w2.cell? ⟨w.heap.size, 1, none⟩ = some (.int .u64 y) := by rw [hb2.cell (p := ⟨w.heap.size, 1, none⟩) (by simp; omega)]; simpa [World.cell?_alloc_past _ _ _ hlt] using hc1
  have hm0 : w2.cell? ⟨w1.heap.size, 0, none⟩ = some (.int .u64 m0) := by rw [hb2.cell (p := ⟨w1.heap.size, 0, none⟩) (by simp)]; simp
  have hm1 : w2.cell? ⟨w1.heap.size, 1, none⟩ = some (.int .u64 m1) := by rw [hb2.cell (p := ⟨w1.heap.size, 1, none⟩) (by simp)]; simp
  have hbB : Below w.heap.size w w2 := (hbA.alloc (by omega) _).trans (hb2.mono (by simp; omega))
  clear hc0 hc1
  go_wp2_with fail
  refine (bits_any m0 m1 _ bm0.1 bm0.2 bm1.1 bm1.2).mono ?_
  rintro e w3 ⟨v3, z3, rfl, ho3, hz3, hv3, hl3, hb3⟩
  have hs3 := hb3.size
  have V3 := hid hv3
  clear hv3
  go_wp2_with fail
  refine (less_any _ ho3 (hon.below hb3 (Nat.le_refl _)) hz3 hzn (by omega) (by omega)).mono ?_
  rintro e w' ⟨rfl, rfl⟩
  rw [V3.out, Vn.out, sgn_eq EM.out]
  have hc0'' := hc0'
  have hc1'' := hc1'
  clear hc0' hc1' hm0 hm1
  have hc0' : w3.cell? ⟨w.heap.size, 0, none⟩ = some (.int .u64 x) := by rw [hb3.cell (p := ⟨w.heap.size, 0, none⟩) (by show w.heap.size < _; omega)]; exact hc0''
  have hc1' : w3.cell? ⟨w.heap.size, 1, none⟩ = some (.int .u64 y) := by rw [hb3.cell (p := ⟨w.heap.size, 1, none⟩) (by show w.heap.size < _; omega)]; exact hc1''
  clear hc0'' hc1''
  go_wp2_with fail
  refine (over_any x y a _ hx hx1 hy hy1 ha ha1).mono ?_
  rintro e w8 ⟨hb8, rfl⟩
  rw [Eq.out, Er.out, Eo.out]
  have hs8 := hb8.size
  have hd0 : w8.cell? ⟨w.heap.size, 0, none⟩ = some (.int .u64 x) := by rw [hb8.cell (p := ⟨w.heap.size, 0, none⟩) (by show w.heap.size < _; omega)]; exact hc0'
  have hd1 : w8.cell? ⟨w.heap.size, 1, none⟩ = some (.int .u64 y) := by rw [hb8.cell (p := ⟨w.heap.size, 1, none⟩) (by show w.heap.size < _; omega)]; exact hc1'
  go_wp2_with fail
  refine (r_over x y a _ hx hx1 hy hy1 ha ha1).mono ?_
  rintro e w9 ⟨hb9, rfl⟩
  rw [Eq.out, Er.out, Eo.out]
  have hs9 := hb9.size
  go_wp2_with fail
  refine (alive_any _).mono ?_
  rintro e wz ⟨rfl, hbz⟩
  go_wp2_with fail
  go_ret
  exact ⟨rfl, hbB.trans ((hb3.mono (by omega)).trans <| (hb8.mono (by omega)).trans ((hb9.mono (by omega)).trans (hbz.mono (by omega))))⟩

theorem ReckonWides_walk (x y a b : Int) (w : World) (hx : 0 ≤ x) (hx1 : x ≤ 18446744073709551615) (hy : 0 ≤ y) (hy1 : y ≤ 18446744073709551615)
    (ha : -9223372036854775808 ≤ a) (ha1 : a ≤ 9223372036854775807) (hb : -9223372036854775808 ≤ b) (hb1 : b ≤ 9223372036854775807) :
    Calls Try.prog 9 #[.agg #[.int .u64 x, .int .u64 y], .int .i64 a, .int .i64 b] w fun e w' => e = .returned (.bool true) ∧ Below w.heap.size w w' := by
  by_cases h : 0 ≤ a ∧ 0 ≤ b
  · by_cases hT : wide x y + a * b < 340282366920938463463374607431768211456
    · exact ReckonWides_yes x y a b w hx hx1 hy hy1 ha ha1 hb hb1 h.1 h.2 hT
    · exact ReckonWides_far x y a b w hx hx1 hy hy1 ha ha1 hb hb1 h.1 h.2 (by omega)
  · exact ReckonWides_no x y a b w hx hx1 hy hy1 ha ha1 hb hb1 h
end Go.Proofs.Ytllbnlkjjhjlgaa
