/- The walks of the reference's Times. -/
import Derived.Test.YtaihjcefgokjkaaRkWalk2
namespace Go.Proofs.Ytaihjcefgokjkaa
open Go.RowKit Rk

def TimesRel (w : World) (xs ys : List Int) (out i : Value) (wr : World) : Prop :=
  ∃ (k : Nat) (zs : List Int), i = .int .i64 k ∧ k ≤ ys.length ∧ zs.length ≤ xs.length + k + 1 ∧ Own wr w.heap.size out zs ∧ Dig zs ∧ Rk.val zs = Rk.val xs * Rk.val (ys.take k) ∧ Below w.heap.size w wr

def ZerosRel (wr : World) (k : Nat) (row i : Value) (w1 : World) : Prop :=
  ∃ j : Nat, i = .int .i64 j ∧ j ≤ k ∧ Own w1 wr.heap.size row (List.replicate j 0) ∧ Below wr.heap.size wr w1

def RowRel (wr : World) (xs : List Int) (k : Nat) (d : Int) (row carry i : Value) (w1 : World) : Prop :=
  ∃ (j : Nat) (c : Int) (zs : List Int), i = .int .i64 j ∧ carry = .int .i64 c ∧ 0 ≤ c ∧ c ≤ 998 ∧ zs.length = k + j ∧ (j ≤ xs.length ∨ (j = xs.length + 1 ∧ c = 0)) ∧
    Own w1 wr.heap.size row zs ∧ Dig zs ∧ Rk.val zs + pw (k + j) * (c + Rk.val (xs.drop j) * d) = pw k * (Rk.val xs * d) ∧ Below wr.heap.size wr w1

set_option maxHeartbeats 1000000 in
theorem times_any {va vb : Value} {Ba Bb : Nat} {xs ys : List Int} (w : World) (ha : Own w Ba va xs) (hb : Own w Bb vb ys) (hx : Dig xs) (hy : Dig ys) (hlx : xs.length ≤ 10000) (hly : ys.length ≤ 10000) :
    Calls Try.prog 43 #[va, vb] w (IsNum (Rk.val xs * Rk.val ys) (xs.length + ys.length + 1) w) := by
  obtain ⟨pa, ca, rfl⟩ := ha.val
  obtain ⟨pb, cb, rfl⟩ := hb.val
  go_enter Try.func43, Try.ntmps43
  go_wp2_with fail
  go_loopw [5, 6] (fun out i wr => TimesRel w xs ys out i wr) (fun _ i _ => ys.length - (intOf i).toNat)
  case atStart => exact ⟨0, [], rfl, by omega, by simp, Own.nil _ _, Dig.nil, by simp [Rk.val], Below.refl _ _⟩
  case round =>
    obtain ⟨k, zs, rfl, hk, hlz, hown, hz, hv0, hbl⟩ := hrel
    have hv := hid hv0
    have hwr := hbl.size
    clear hv0
    by_cases h1 : k < ys.length
    · obtain ⟨wo, rfl⟩ : ∃ wo : World, wo = wr := ⟨_, rfl⟩
      go_wp2_with fail
      go_loopw [7, 8] (fun row i w1 => ZerosRel wo k row i w1) (fun _ i _ => k - (intOf i).toNat)
      case atStart => exact ⟨0, rfl, by omega, Own.nil _ _, Below.refl _ _⟩
      case round =>
        obtain ⟨j, rfl, hjk, hrow, hb1⟩ := hrel
        have hw1 := hb1.size
        by_cases h2 : j < k
        · go_wp2_with (at_builtin; refine append1 (c := 0) _ _ hrow (by simp; omega) (by omega) rfl rfl rfl rfl rfl ?_; intro v' w1 hown1 hgrow hnn)
          go_roundw
          case rel => exact ⟨j + 1, by go_num, by omega, by rw [List.replicate_succ']; exact hown1, hb1.grown hgrow (by omega) hrow.lt⟩
          case measure => simp [intOf]; omega
        · obtain rfl : j = k := by omega
          obtain ⟨wq, rfl⟩ : ∃ wq : World, wq = wr := ⟨_, rfl⟩
          obtain ⟨d, ed⟩ : ∃ d, ys.getD j 0 = d := ⟨_, rfl⟩
          have hd9 : 0 ≤ d ∧ d ≤ 999 := ed ▸ hy.getD j
          have Ed := hid ed
          clear ed
          go_wp2_with fail
          go_loopw [7, 9, 10] (fun row carry i w1 => RowRel wo xs j d row carry i w1) (fun _ _ i _ => xs.length + 1 - (intOf i).toNat)
          case atStart => exact ⟨0, 0, _, rfl, rfl, by omega, by omega, by simp, .inl (by omega), hrow, dig_zeros j, by simp [val_zeros], hb1⟩
          case round =>
            obtain ⟨m, c, rs, rfl, rfl, hc0, hc1, hlr0, hml0, hrow, hr, hvr0, hb1⟩ := hrel
            have hw1 := hb1.size
            obtain ⟨a, ea⟩ : ∃ a, xs.getD m 0 = a := ⟨_, rfl⟩
            have ha9 : 0 ≤ a ∧ a ≤ 999 := ea ▸ hx.getD m
            have Ea := hid ea
            have Ha0 : Hid (xs.length ≤ m → a = 0) := fun h => by rw [← ea]; simp [List.getD, List.getElem?_eq_none h]
            have hst := hid (step_row hx hr hd9 hlr0 ⟨hc0, hc1⟩ hvr0)
            have hm1 : m ≤ 10001 := by omega
            have hrl : rs.length < 1048576 := by omega
            have hlr := hid hlr0
            have hml := hid hml0
            have hvr := hid hvr0
            have hbw := hid (hbl.trans (hb1.mono hwr))
            clear hlr0 hml0 hvr0 ea
            by_cases h3 : m < xs.length
            rotate_left
            by_cases h4 : 0 < c
            rotate_left
            · go_wp2_with fail
              refine (sum_any wr (hown.below hb1 (Nat.le_refl _)) hrow hz hr (by omega) (by have := hlr.out; have := hml.out; omega)).mono ?_
              rintro e w' ⟨v', xs', rfl, hown2, hz2, hv2, hl2, hb2⟩
              have hbw2 := hid (hbw.out.trans (hb2.mono (by omega)))
              have Hv2 := hid hv2
              have Hl2 := hid hl2
              clear hv2 hl2
              go_wp2_with fail
              go_roundw
              case rel =>
                refine ⟨j + 1, _, by go_num, by omega, ?_, hown2.mono (by omega), hz2, ?_, hbw2.out⟩
                · have := Hl2.out; have := hlr.out; have := hml.out; omega
                · rw [Hv2.out, take_snoc_getD ys j h1, val_snoc, List.length_take, Nat.min_eq_left (by omega), Ed.out, hv.out]
                  have hq := hvr.out
                  rw [val_drop_len xs m (by omega), show c = 0 by omega] at hq
                  simp only [Int.zero_mul, Int.add_zero, Int.mul_zero] at hq
                  rw [hq]; grind
              case measure => simp [intOf]; omega
            all_goals
              obtain ⟨g, rfl, hcell⟩ := Own.at (hb.below hbw.out (Nat.le_refl _)) h1 Ed.out
              have hmul : 0 ≤ a * d ∧ a * d ≤ 998001 := ⟨Int.mul_nonneg ha9.1 hd9.1, Int.mul_le_mul ha9.2 hd9.2 hd9.1 (by omega)⟩
              go_wp2_with fail
              go_quiet ((go_at_call 52; exact quietly (digit_any m a _ ((ha.below hbw.out (Nat.le_refl _)).drewN _) Ea (by omega) (by omega))))
              have hown1 := hrow.drewN nq
              go_wp2_with (at_builtin; refine append1 (c := (c + a * d) % 1000) _ _ hown1 (by omega) (by simp; omega) rfl rfl rfl rfl rfl ?_; intro v' w1 hown2 hgrow hnn)
              obtain ⟨s1, s2, s3, s4⟩ := hst.out
              rw [Ea.out] at s1 s2 s3 s4
              go_roundw
              case rel => exact ⟨m + 1, _, _, by go_num, rfl, s2, s3, by simp [hlr.out]; omega, by have := hml.out; have := Ha0.out; grind, hown2, s1, s4, (below_drewN hb1 nq).grown hgrow (by simp; omega) hown1.lt⟩
              case measure => simp [intOf]; have := hml.out; omega
    · go_wp2_with fail
      go_ret
      obtain rfl : k = ys.length := by omega
      refine ⟨_, _, rfl, hown, hz, ?_, by omega, hbl⟩
      rw [hv.out, List.take_of_length_le (Nat.le_refl _)]
end Go.Proofs.Ytaihjcefgokjkaa
