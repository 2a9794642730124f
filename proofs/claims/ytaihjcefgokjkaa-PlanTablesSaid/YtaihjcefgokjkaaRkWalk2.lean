/- The walks of the reference's Sum and Less. -/
import Derived.Test.YtaihjcefgokjkaaRkWalk1
import Derived.Test.YtaihjcefgokjkaaRkBits
namespace Go.Proofs.Ytaihjcefgokjkaa
open Go.RowKit Rk

theorem Own.val {w : World} {B : Nat} {v : Value} {xs : List Int} (h : Own w B v xs) : ∃ p cap, v = .slice p xs.length cap := by
  rcases h.shape with ⟨h1, h2⟩ | ⟨g, cap, h1, _⟩
  · exact ⟨none, 0, by subst h2; exact h1⟩
  · exact ⟨_, cap, h1⟩

def SumRel (w : World) (xs ys : List Int) (out carry i : Value) (wr : World) : Prop :=
  ∃ (k : Nat) (c : Int) (zs : List Int), i = .int .i64 k ∧ carry = .int .i64 c ∧ 0 ≤ c ∧ c ≤ 1 ∧ zs.length = k ∧ (k ≤ max xs.length ys.length ∨ (k = max xs.length ys.length + 1 ∧ c = 0)) ∧
    Own wr w.heap.size out zs ∧ Dig zs ∧ Rk.val zs + pw k * (c + Rk.val (xs.drop k) + Rk.val (ys.drop k)) = Rk.val xs + Rk.val ys ∧ Below w.heap.size w wr

set_option maxHeartbeats 1000000 in
theorem sum_any {va vb : Value} {Ba Bb : Nat} {xs ys : List Int} (w : World) (ha : Own w Ba va xs) (hb : Own w Bb vb ys) (hx : Dig xs) (hy : Dig ys) (hlx : xs.length ≤ 100000) (hly : ys.length ≤ 100000) :
    Calls Try.prog 53 #[va, vb] w (IsNum (Rk.val xs + Rk.val ys) (max xs.length ys.length + 1) w) := by
  obtain ⟨pa, ca, rfl⟩ := ha.val
  obtain ⟨pb, cb, rfl⟩ := hb.val
  go_enter Try.func53, Try.ntmps53
  go_wp2_with fail
  go_loopw [5, 6, 7] (fun out carry i wr => SumRel w xs ys out carry i wr) (fun _ _ i _ => max xs.length ys.length + 1 - (intOf i).toNat)
  case atStart => exact ⟨0, 0, [], rfl, rfl, by omega, by omega, rfl, .inl (by omega), Own.nil _ _, Dig.nil, by simp [Rk.val, pw], Below.refl _ _⟩
  case round =>
    obtain ⟨k, c, zs, rfl, rfl, hc0, hc1, hzk, hkm, hown, hz, hv0, hbl⟩ := hrel
    have hv := hid hv0
    have hzk' := hid hzk
    have hk1 : k ≤ 100001 := by omega
    have hwr := hbl.size
    have hzl : zs.length < 1048576 := by omega
    have hkm' := hid hkm
    clear hv0 hzk hkm
    obtain ⟨a, ea⟩ : ∃ a, xs.getD k 0 = a := ⟨_, rfl⟩
    obtain ⟨b, eb⟩ : ∃ b, ys.getD k 0 = b := ⟨_, rfl⟩
    have ha9 : 0 ≤ a ∧ a ≤ 999 := ea ▸ hx.getD k
    have hb9 : 0 ≤ b ∧ b ≤ 999 := eb ▸ hy.getD k
    have Ha0 : Hid (xs.length ≤ k → a = 0) := fun h => by rw [← ea]; simp [List.getD, List.getElem?_eq_none h]
    have Hb0 : Hid (ys.length ≤ k → b = 0) := fun h => by rw [← eb]; simp [List.getD, List.getElem?_eq_none h]
    have Ea := hid ea
    have Eb := hid eb
    have hst := hid (step_sum hx hy hz hzk'.out ⟨hc0, hc1⟩ hv.out)
    clear ea eb
    by_cases h1 : k < xs.length
    rotate_left
    by_cases h2 : k < ys.length
    rotate_left
    by_cases h3 : 0 < c
    rotate_left
    · go_wp2_with fail
      go_ret
      refine ⟨_, _, rfl, hown, hz, ?_, ?_, hbl⟩
      · have := hv.out
        rw [val_drop_len xs k (by omega), val_drop_len ys k (by omega), show c = 0 by omega] at this
        simpa using this
      · have := hkm'.out; have := hzk'.out; omega
    all_goals
      go_wp2_with fail
      refine (digit_any k a _ (ha.below hbl (Nat.le_refl _)) Ea (by omega) (by omega)).mono ?_
      rintro e w' ⟨rfl, rfl⟩
      go_wp2_with fail
      refine (digit_any k b _ (hb.below hbl (Nat.le_refl _)) Eb (by omega) (by omega)).mono ?_
      rintro e w' ⟨rfl, rfl⟩
      go_wp2_with (at_builtin; refine append1 (c := (c + a + b) % 1000) _ _ hown (by omega) (by omega) rfl rfl rfl rfl rfl ?_; intro v' w1 hown1 hgrow hnn)
      obtain ⟨s1, s2, s3, s4⟩ := hst.out
      rw [Ea.out, Eb.out] at s1 s2 s3 s4
      go_roundw
      case rel => exact ⟨k + 1, _, _, by go_num, rfl, s2, s3, by simp [hzk'.out], by have := hkm'.out; have := Ha0.out; have := Hb0.out; omega, hown1, s1, s4, hbl.grown hgrow (by omega) hown.lt⟩
      case measure => simp [intOf]; have := hkm'.out; omega

def LessRel (xs ys : List Int) (N : Nat) (i : Value) : Prop :=
  ∃ m : Int, i = .int .i64 m ∧ -1 ≤ m ∧ m < N ∧ Rk.val (xs.drop (m + 1).toNat) = Rk.val (ys.drop (m + 1).toNat)

set_option maxHeartbeats 1000000 in
theorem less_any {va vb : Value} {Ba Bb : Nat} {xs ys : List Int} (w : World) (ha : Own w Ba va xs) (hb : Own w Bb vb ys) (hx : Dig xs) (hy : Dig ys) (hlx : xs.length ≤ 100000) (hly : ys.length ≤ 100000) :
    Calls Try.prog 42 #[va, vb] w fun e w' => e = .returned (.int .i64 (sgn (Rk.val xs) (Rk.val ys))) ∧ w = w' := by
  obtain ⟨pa, ca, rfl⟩ := ha.val
  obtain ⟨pb, cb, rfl⟩ := hb.val
  by_cases hxy : xs.length < ys.length
  all_goals
    go_enter Try.func42, Try.ntmps42
    go_wp2_with fail
    go_loop [6] (fun i => LessRel xs ys (max xs.length ys.length) i) (fun i => (intOf i + 1).toNat)
    case atStart =>
      refine ⟨_, rfl, by omega, by omega, ?_⟩
      rw [val_drop_len xs _ (by omega), val_drop_len ys _ (by omega)]
    case round =>
      obtain ⟨m, rfl, hm0, hm1, hv0⟩ := hrel
      have hv := hid hv0
      clear hv0
      by_cases hm : 0 ≤ m
      · obtain ⟨k, rfl⟩ := Int.eq_ofNat_of_zero_le hm
        obtain ⟨a, ea⟩ : ∃ a, xs.getD k 0 = a := ⟨_, rfl⟩
        obtain ⟨b, eb⟩ : ∃ b, ys.getD k 0 = b := ⟨_, rfl⟩
        have Ea := hid ea
        have Eb := hid eb
        have hkm := hid hm1
        have hk : k ≤ 100000 := by omega
        clear ea eb hm1
        by_cases h1 : a < b
        · go_wp2_with fail
          refine (digit_any k a _ ha Ea (by omega) (by omega)).mono ?_
          rintro e w' ⟨rfl, rfl⟩
          go_wp2_with fail
          refine (digit_any k b _ hb Eb (by omega) (by omega)).mono ?_
          rintro e w' ⟨rfl, rfl⟩
          go_wp2_with fail
          go_ret
          exact ⟨ret_int (sgn_lt hx hy hv.out (by rw [Ea.out, Eb.out]; exact h1)).symm, rfl⟩
        · by_cases h2 : b < a
          · go_wp2_with fail
            refine (digit_any k a _ ha Ea (by omega) (by omega)).mono ?_
            rintro e w' ⟨rfl, rfl⟩
            go_wp2_with fail
            refine (digit_any k b _ hb Eb (by omega) (by omega)).mono ?_
            rintro e w' ⟨rfl, rfl⟩
            go_wp2_with fail
            refine (digit_any k a _ ha Ea (by omega) (by omega)).mono ?_
            rintro e w' ⟨rfl, rfl⟩
            go_wp2_with fail
            refine (digit_any k b _ hb Eb (by omega) (by omega)).mono ?_
            rintro e w' ⟨rfl, rfl⟩
            go_wp2_with fail
            go_ret
            exact ⟨ret_int (sgn_gt hx hy hv.out (by rw [Ea.out, Eb.out]; exact h2)).symm, rfl⟩
          · go_wp2_with fail
            refine (digit_any k a _ ha Ea (by omega) (by omega)).mono ?_
            rintro e w' ⟨rfl, rfl⟩
            go_wp2_with fail
            refine (digit_any k b _ hb Eb (by omega) (by omega)).mono ?_
            rintro e w' ⟨rfl, rfl⟩
            go_wp2_with fail
            refine (digit_any k a _ ha Ea (by omega) (by omega)).mono ?_
            rintro e w' ⟨rfl, rfl⟩
            go_wp2_with fail
            refine (digit_any k b _ hb Eb (by omega) (by omega)).mono ?_
            rintro e w' ⟨rfl, rfl⟩
            go_wp2_with fail
            go_round
            case rel =>
              refine ⟨_, rfl, by omega, by have := hkm.out; omega, ?_⟩
              rw [show ((k : Int) - 1 + 1).toNat = k from by omega, val_drop xs k, val_drop ys k, Ea.out, Eb.out]
              have := hv.out
              rw [show ((k : Int) + 1).toNat = k + 1 from by omega] at this
              omega
            case measure => simp [intOf]
      · go_wp2_with fail
        go_ret
        refine ⟨ret_int (sgn_eq ?_).symm, rfl⟩
        have := hv.out
        rw [show (m + 1).toNat = 0 from by omega] at this
        simpa using this
end Go.Proofs.Ytaihjcefgokjkaa
