/- Plain facts: a number of two words divided by one word, half a word at a time (no program in sight). -/
namespace Go.Proofs.Ytaihjcefgokjkaa
namespace Kn

/-- What the loop for one half of a quotient has come to: q is not too small, and r is what q leaves of the upper part. -/
def Inv (U v1 Q q r : Int) : Prop := q * v1 + r = U ∧ 0 ≤ r ∧ 0 ≤ q ∧ Q ≤ q

section
variable {U v1 v0 u1 q r : Int}

theorem quot_small (hv0 : 0 ≤ v0) (hv1 : 1 ≤ v1) (hU : U < v1 * 4294967296 + v0) (hu1 : u1 ≤ 4294967295) :
    (U * 4294967296 + u1) / (v1 * 4294967296 + v0) < 4294967296 := by
  refine (Int.ediv_lt_iff_lt_mul (by omega)).2 ?_
  generalize v1 * 4294967296 + v0 = Y at *
  omega

theorem Inv.start (hU : 0 ≤ U) (hv0 : 0 ≤ v0) (hv1 : 1 ≤ v1) (hu0 : 0 ≤ u1) (hu1 : u1 ≤ 4294967295) :
    Inv U v1 ((U * 4294967296 + u1) / (v1 * 4294967296 + v0)) (U / v1) (U % v1) ∧ U % v1 < v1 := by
  have h1 := Int.emod_add_mul_ediv U v1
  have h2 := Int.emod_nonneg U (show v1 ≠ 0 by omega)
  have h3 := Int.emod_lt_of_pos U (show 0 < v1 by omega)
  have h4 : 0 ≤ U / v1 := Int.ediv_nonneg hU (by omega)
  refine ⟨⟨by rw [Int.mul_comm]; omega, h2, h4, ?_⟩, h3⟩
  refine Int.le_ediv_of_mul_le (by omega) ?_
  have h5 := Int.ediv_mul_le (U * 4294967296 + u1) (show v1 * 4294967296 + v0 ≠ 0 by omega)
  have h6 : 0 ≤ (U * 4294967296 + u1) / (v1 * 4294967296 + v0) := Int.ediv_nonneg (by omega) (by omega)
  generalize (U * 4294967296 + u1) / (v1 * 4294967296 + v0) = Q at *
  have h7 : Q * (v1 * 4294967296 + v0) = Q * v1 * 4294967296 + Q * v0 := by grind
  have h8 : 0 ≤ Q * v0 := Int.mul_nonneg h6 hv0
  omega

theorem Inv.le {Q : Int} (hv1 : 1 ≤ v1) (h : Inv U v1 Q q r) : q ≤ U := by
  obtain ⟨h1, h2, h3, h4⟩ := h
  have : q * 1 ≤ q * v1 := Int.mul_le_mul_of_nonneg_left hv1 h3
  omega

theorem Inv.more {Q : Int} (hQ : Q = (U * 4294967296 + u1) / (v1 * 4294967296 + v0)) (hv0 : 0 ≤ v0) (hv1 : 1 ≤ v1) (hU : U < v1 * 4294967296 + v0) (hu1 : u1 ≤ 4294967295) (hU0 : 0 ≤ U) (hu0 : 0 ≤ u1)
    (h : Inv U v1 Q q r) (hc : 4294967296 ≤ q ∨ r * 4294967296 + u1 < q * v0) : Inv U v1 Q (q - 1) (r + v1) ∧ r + v1 ≤ U ∧ 1 ≤ q := by
  obtain ⟨h1, h2, h3, h4⟩ := h
  have hQ0 : 0 ≤ Q := by rw [hQ]; exact Int.ediv_nonneg (by omega) (by omega)
  have hlt : Q < q := by
    rcases hc with hc | hc
    · have := quot_small hv0 hv1 hU hu1; omega
    · rw [hQ]
      refine (Int.ediv_lt_iff_lt_mul (by omega)).2 ?_
      have e : q * (v1 * 4294967296 + v0) = q * v1 * 4294967296 + q * v0 := by grind
      rw [e, ← h1]; omega
  have e1 : (q - 1) * v1 + (r + v1) = U := by rw [Int.sub_mul]; omega
  have e2 : 0 ≤ (q - 1) * v1 := Int.mul_nonneg (by omega) (by omega)
  exact ⟨⟨e1, by omega, by omega, by omega⟩, by omega, by omega⟩

theorem Inv.done {Q : Int} (hQ : Q = (U * 4294967296 + u1) / (v1 * 4294967296 + v0)) (hv0 : 0 ≤ v0) (hv1 : 1 ≤ v1) (h : Inv U v1 Q q r) (hc : q * v0 ≤ r * 4294967296 + u1) : q = Q := by
  obtain ⟨h1, h2, h3, h4⟩ := h
  refine Int.le_antisymm ?_ h4
  rw [hQ]
  refine Int.le_ediv_of_mul_le (by omega) ?_
  have e : q * (v1 * 4294967296 + v0) = q * v1 * 4294967296 + q * v0 := by grind
  rw [e, ← h1]; omega

theorem Inv.over {Q : Int} (hQ : Q = (U * 4294967296 + u1) / (v1 * 4294967296 + v0)) (hv0 : 0 ≤ v0) (hv01 : v0 ≤ 4294967295) (hv1 : 1 ≤ v1) (hU : U < v1 * 4294967296 + v0) (hu0 : 0 ≤ u1)
    (h : Inv U v1 Q q r) (hc : 4294967296 ≤ r) : q = Q := by
  refine h.done hQ hv0 hv1 ?_
  obtain ⟨h1, h2, h3, h4⟩ := h
  have hq : q < 4294967296 := by
    refine Int.lt_of_not_ge fun hge => ?_
    have : 4294967296 * v1 ≤ q * v1 := Int.mul_le_mul_of_nonneg_right hge (by omega)
    omega
  have : q * v0 ≤ 4294967295 * 4294967295 := Int.mul_le_mul (by omega) hv01 hv0 (by omega)
  omega

/-- What is left behind one half. -/
theorem rest_half {Y : Int} (hY : 0 < Y) (hY1 : Y ≤ 18446744073709551615) : ((U * 4294967296 % 18446744073709551616 + u1) % 18446744073709551616 - ((U * 4294967296 + u1) / Y) * Y % 18446744073709551616) % 18446744073709551616 = (U * 4294967296 + u1) % Y := by
  have h1 := Int.emod_add_mul_ediv (U * 4294967296 + u1) Y
  have h2 := Int.emod_nonneg (U * 4294967296 + u1) (show Y ≠ 0 by omega)
  have h3 := Int.emod_lt_of_pos (U * 4294967296 + u1) hY
  rw [Int.mul_comm Y] at h1
  generalize (U * 4294967296 + u1) / Y * Y = A at *
  generalize (U * 4294967296 + u1) % Y = R at *
  omega
end

theorem rest_div {U v : Int} (hU : 0 ≤ U) (hU1 : U ≤ 18446744073709551615) (hv : 1 ≤ v) : (U - (U / v * v) % 18446744073709551616) % 18446744073709551616 = U % v := by
  have h1 := Int.emod_add_mul_ediv U v
  have h2 := Int.emod_nonneg U (show v ≠ 0 by omega)
  have h3 : 0 ≤ U / v * v := Int.mul_nonneg (Int.ediv_nonneg hU (by omega)) (by omega)
  rw [Int.mul_comm v] at h1
  generalize U / v * v = A at *
  generalize U % v = R at *
  omega

/-- Both halves together. -/
theorem both {U u1 u0 Y : Int} (hY : 0 < Y) : (U * 18446744073709551616 + (u1 * 4294967296 + u0)) / Y = (U * 4294967296 + u1) / Y * 4294967296 + ((U * 4294967296 + u1) % Y * 4294967296 + u0) / Y ∧
    (U * 18446744073709551616 + (u1 * 4294967296 + u0)) % Y = ((U * 4294967296 + u1) % Y * 4294967296 + u0) % Y := by
  have h1 := Int.emod_add_mul_ediv (U * 4294967296 + u1) Y
  generalize hQ : (U * 4294967296 + u1) / Y = Q1 at *
  generalize (U * 4294967296 + u1) % Y = R1 at *
  have e : U * 18446744073709551616 + (u1 * 4294967296 + u0) = (R1 * 4294967296 + u0) + Q1 * 4294967296 * Y := by
    have : U * 18446744073709551616 + (u1 * 4294967296 + u0) = (U * 4294967296 + u1) * 4294967296 + u0 := by omega
    rw [this, ← h1]; grind
  rw [e]
  constructor
  · rw [Int.add_mul_ediv_right _ _ (by omega)]; omega
  · exact Int.add_mul_emod_self_right _ _ _

/-- The numbers shifted: K is the power by which they are shifted, J the one by which the lower word's upper bits come down. -/
theorem shifted {hi lo K J : Int} (hK : 0 < K) (hJ : 0 < J) (hKJ : K * J = 18446744073709551616) :
    (hi * 18446744073709551616 + lo) * K = (hi * K + lo / J) * 18446744073709551616 + lo * K % 18446744073709551616 := by
  have h1 := Int.emod_add_mul_ediv lo J
  have h2 := Int.emod_nonneg lo (show J ≠ 0 by omega)
  have h3 := Int.emod_lt_of_pos lo hJ
  have e : lo * K = lo % J * K + (lo / J) * 18446744073709551616 := by
    rw [← hKJ]
    generalize lo / J = a at *
    generalize lo % J = b at *
    rw [← h1]; grind
  have h4 : lo % J * K < 18446744073709551616 := by
    rw [← hKJ, Int.mul_comm K J]; exact Int.mul_lt_mul_of_pos_right h3 hK
  have h5 : 0 ≤ lo % J * K := Int.mul_nonneg h2 (by omega)
  have e2 : lo * K % 18446744073709551616 = lo % J * K := by
    rw [e, Int.add_mul_emod_self_right]; exact Int.emod_eq_of_lt h5 h4
  rw [e2]
  generalize lo % J * K = c at *
  have e3 : (hi * 18446744073709551616 + lo) * K = hi * K * 18446744073709551616 + lo * K := by grind
  rw [e3, e]; omega

theorem unshift {M y K : Int} (hK : 0 < K) : M * K / (y * K) = M / y ∧ M * K % (y * K) / K = M % y := by
  constructor
  · rw [Int.mul_ediv_mul_of_pos_left _ _ hK]
  · rw [Int.mul_comm M K, Int.mul_comm y K, Int.mul_emod_mul_of_pos _ _ hK, Int.mul_ediv_cancel_left _ (by omega)]
end Kn
end Go.Proofs.Ytaihjcefgokjkaa
