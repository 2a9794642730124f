/- The walk of the reference's Quot. -/
import Derived.Test.YtaihjcefgokjkaaRkWalk3
namespace Go.Proofs.Ytaihjcefgokjkaa
open Go.RowKit Rk

def QuotRel (w : World) (x n : Int) (q b : Value) (wr : World) : Prop :=
  ∃ (qq bb t : Int), q = .int .i64 qq ∧ b = .int .i64 bb ∧ 0 ≤ bb ∧ BitOf bb t ∧ Quoted x n qq t ∧ Below w.heap.size w wr

set_option maxHeartbeats 1000000 in
theorem quot_any {v : Value} {B : Nat} {xs : List Int} (n : Int) (w : World) (hown : Own w B v xs) (hx : Dig xs) (hl : xs.length ≤ 10000) (hn : 1 ≤ n) (hn1 : n ≤ 9223372036854775807) :
    Calls Try.prog 47 #[v, .int .i64 n] w fun e w' =>
      e = .returned (.tuple #[.int .i64 (quo (Rk.val xs) n), .bool (quoRest (Rk.val xs) n), .bool (quoOk (Rk.val xs) n)]) ∧ Below w.heap.size w w' := by
  have hx0 := (val_bd hx).1
  obtain ⟨x, ex⟩ : ∃ x, Rk.val xs = x := ⟨_, rfl⟩
  rw [ex] at hx0 ⊢
  have Ex := hid ex
  clear ex
  go_enter Try.func47, Try.ntmps47
  go_wp2_with fail
  go_loopw [7, 8] (fun q b wr => QuotRel w x n q b wr) (fun _ b _ => (intOf b).toNat)
  case atStart => exact ⟨0, _, _, rfl, rfl, by omega, .inr ⟨62, by decide, rfl⟩, ⟨by omega, by decide, by omega, .inl (by decide)⟩, Below.refl _ _⟩
  case round =>
    obtain ⟨q, b, t, rfl, rfl, hb0, hbit0, hq0, hbl⟩ := hrel
    have hwr := hbl.size
    have hbit := hid hbit0
    have hq := hid hq0
    obtain ⟨q1, q2, q3, q4⟩ := hq0
    clear q4 hbit0
    by_cases h1 : 0 < b
    · obtain ⟨e1, hbit2⟩ := hbit.out.next h1
      have hbit' := hid hbit2
      clear hbit hbit2
      have E1 := hid e1
      have hqb : q + b ≤ 9223372036854775807 := by omega
      clear e1 q2 q3
      go_wp2_with fail
      refine (digits_any _ hqb (by omega) _).mono ?_
      rintro e w1 ⟨v1, d1, rfl, ho1, hd1, hv1, hl1, hb1⟩
      have hs1 := hb1.size
      have V1 := hid hv1
      clear hv1
      go_wp2_with fail
      refine (digits_any _ hn1 (by omega) _).mono ?_
      rintro e w2 ⟨v2, d2, rfl, ho2, hd2, hv2, hl2, hb2⟩
      have hs2 := hb2.size
      have V2 := hid hv2
      clear hv2
      go_wp2_with fail
      refine (times_any _ (ho1.below hb2 (Nat.le_refl _)) ho2 hd1 hd2 (by omega) (by omega)).mono ?_
      rintro e w3 ⟨v3, d3, rfl, ho3, hd3, hv3, hl3, hb3⟩
      have hs3 := hb3.size
      have V3 : Hid (Rk.val d3 = (q + b) * n) := by
        show Rk.val d3 = (q + b) * n
        rw [hv3, V1.out, V2.out, Int.max_eq_left (by omega), Int.max_eq_left (by omega)]
      clear hv3
      have hbt : Below w.heap.size w w3 := hbl.trans ((hb1.mono hwr).trans ((hb2.mono (by omega)).trans (hb3.mono (by omega))))
      go_wp2_with fail
      refine (less_any _ ho3 (hown.below hbt (Nat.le_refl _)) hd3 hx (by omega) (by omega)).mono ?_
      rintro e w4 ⟨rfl, rfl⟩
      rw [V3.out, Ex.out]
      by_cases h2 : (q + b) * n ≤ x
      · have H2 := hid h2
        have h3 := sgn_le.2 h2
        clear h2
        go_wp2_with fail
        go_roundw
        case rel => exact ⟨_, _, b, rfl, rfl, by omega, hbit'.out, by have := hq.out; rw [E1.out] at this; exact this.take h1 H2.out, hbt⟩
        case measure => simp [intOf]; omega
      · have H2 := hid h2
        have h3 := mt sgn_le.1 h2
        clear h2
        go_wp2_with fail
        go_roundw
        case rel => exact ⟨_, _, b, rfl, rfl, by omega, hbit'.out, by have := hq.out; rw [E1.out] at this; exact this.pass h1 (by have := H2.out; omega), hbt⟩
        case measure => simp [intOf]; omega
    · have et := hid (hbit.out.end' h1)
      have hq' : Hid (Quoted x n q 1) := by have := hq.out; rw [et.out] at this; exact this
      clear hbit hq et
      have hqm : q ≤ 9223372036854775807 := by have := hq'.out.2.1; omega
      clear q2 q3
      go_wp2_with fail
      refine (digits_any _ hqm (by omega) _).mono ?_
      rintro e w1 ⟨v1, d1, rfl, ho1, hd1, hv1, hl1, hb1⟩
      have hs1 := hb1.size
      have V1 := hid hv1
      clear hv1
      go_wp2_with fail
      refine (digits_any _ hn1 (by omega) _).mono ?_
      rintro e w2 ⟨v2, d2, rfl, ho2, hd2, hv2, hl2, hb2⟩
      have hs2 := hb2.size
      have V2 := hid hv2
      clear hv2
      go_wp2_with fail
      refine (times_any _ (ho1.below hb2 (Nat.le_refl _)) ho2 hd1 hd2 (by omega) (by omega)).mono ?_
      rintro e w3 ⟨v3, d3, rfl, ho3, hd3, hv3, hl3, hb3⟩
      have hs3 := hb3.size
      have V3 : Hid (Rk.val d3 = q * n) := by
        show Rk.val d3 = q * n
        rw [hv3, V1.out, V2.out, Int.max_eq_left (by omega), Int.max_eq_left (by omega)]
      clear hv3
      have hbt : Below w.heap.size w w3 := hbl.trans ((hb1.mono hwr).trans ((hb2.mono (by omega)).trans (hb3.mono (by omega))))
      go_wp2_with fail
      refine (digits_any _ hn1 (by omega) _).mono ?_
      rintro e w4 ⟨v4, d4, rfl, ho4, hd4, hv4, hl4, hb4⟩
      have hs4 := hb4.size
      have V4 := hid hv4
      clear hv4
      go_wp2_with fail
      refine (sum_any _ (ho3.below hb4 (Nat.le_refl _)) ho4 hd3 hd4 (by omega) (by omega)).mono ?_
      rintro e w5 ⟨v5, d5, rfl, ho5, hd5, hv5, hl5, hb5⟩
      have hs5 := hb5.size
      have V5 : Hid (Rk.val d5 = q * n + n) := by
        show Rk.val d5 = q * n + n
        rw [hv5, V3.out, V4.out, Int.max_eq_left (by omega)]
      clear hv5
      have hbu : Below w.heap.size w w5 := hbt.trans ((hb4.mono (by omega)).trans (hb5.mono (by omega)))
      go_wp2_with fail
      refine (less_any _ ho5 (hown.below hbu (Nat.le_refl _)) hd5 hx (by omega) (by omega)).mono ?_
      rintro e w6 ⟨rfl, rfl⟩
      rw [V5.out, Ex.out]
      by_cases h2 : q * n + n ≤ x
      · have H2 := hid h2
        have h3 := sgn_le.2 h2
        have hfar := hid (hq'.out.far hn h2)
        clear h2
        go_wp2_with fail
        go_ret3
        refine ⟨?_, hbu⟩
        unfold quo quoRest quoOk
        rw [if_pos hfar.out, if_pos hfar.out, decide_eq_false (by have := hfar.out; omega)]
        rfl
      · have h3 := mt sgn_le.1 h2
        have hnear := hid (hq'.out.near hn h2)
        have ho3' := (ho3.below hb4 (Nat.le_refl _)).below hb5 (Nat.le_refl _)
        clear h2
        go_wp2_with fail
        refine (less_any _ ho3' (hown.below hbu (Nat.le_refl _)) hd3 hx (by omega) (by omega)).mono ?_
        rintro e w6 ⟨rfl, rfl⟩
        rw [V3.out, Ex.out]
        go_wp2_with fail
        go_ret3
        obtain ⟨n1, n2, n3⟩ := hnear.out
        refine ⟨?_, hbu⟩
        unfold quo quoRest quoOk
        rw [if_neg (by omega), if_neg (by omega), decide_eq_true (by omega : x / n ≤ 9223372036854775807), n1]
        have : decide (sgn (q * n) x < 0) = decide (0 < x % n) := by
          rw [decide_eq_decide, sgn_neg]; exact n3
        rw [this]
        rfl
end Go.Proofs.Ytaihjcefgokjkaa
