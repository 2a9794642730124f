/- The walk of the reference's Node. -/
import Derived.Test.YthdljlclcepnhaaGreatSh5
namespace Go.Proofs.YthdljlclcepnhaaGreat
open Go.RowKit Sh Nl

theorem Sh.up_top {n x : Nat} (hx : x < 2 ^ n) : upV (n : Int) (x : Int) (n + 1) = 0 := by
  rw [up_step, (up_rep hx (Nat.le_refl n)).1, Nat.div_eq_of_lt hx, Nat.sub_self]
  rfl
def RnRel (n x : Nat) (hi : Int) (v : Value) : Prop := ∃ j, j ≤ n + 1 ∧ v = .int .i64 (upV (n : Int) (x : Int) j) ∧ Hid (∀ i, i < j → hitB (x : Int) hi i = false)
set_option maxRecDepth 100000 in
set_option maxHeartbeats 1000000 in
theorem r_node (L lo hi : Int) (w : World) (bL : In64 L) (bl : In64 lo) (bh : In64 hi) :
    Calls Tryz.prog 19 #[.int .i64 L, .int .i64 lo, .int .i64 hi] w (NodePost L lo hi w) := by
  have LF1 := hid (r_leaf L lo w bL bl)
  cases h1 : leafB L lo with
  | false =>
    have P := hid (node_no (w := w) (w' := w) (lo := lo) (hi := hi) (.inl h1) (Below.refl _ _))
    rw [h1] at LF1
    clear h1
    generalize leafV L lo = v1 at *
    go_enter Tryz.func19, Tryz.ntmps19
    go_wp2_with fail
    refine LF1.out.mono ?_
    rintro e w' ⟨rfl, rfl⟩
    go_wp2_with fail
    go_ret2
    exact P.out
  | true =>
    obtain ⟨n, x, rfl, rfl, hn1, hn, hx⟩ := Sh.leaf_rep h1
    have e1 : leafV (n : Int) (x : Int) = upV (n : Int) (x : Int) 0 := by
      unfold leafV upV; rw [if_pos h1, Int.pow_zero, Int.ediv_one]
    rw [h1, e1] at LF1
    have R0 : Hid (RnRel n x hi (.int .i64 (upV (n : Int) (x : Int) 0))) := ⟨0, by omega, rfl, (fun i h => absurd h (by omega))⟩
    clear h1 e1
    generalize upV (n : Int) (x : Int) 0 = u0 at *
    go_enter Tryz.func19, Tryz.ntmps19
    go_wp2_with fail
    refine LF1.out.mono ?_
    rintro e w' ⟨rfl, rfl⟩
    go_wp2_with fail
    go_loop [8] (fun v => RnRel n x hi v) (fun v => (intOf v).toNat)
    case atStart => exact R0.out
    case round =>
      obtain ⟨j, hj, rfl, hno⟩ := hrel
      by_cases hjn : j = n + 1
      · subst hjn
        have P := hid (node_no (w := w) (w' := w) (L := (n : Int)) (lo := (x : Int)) (hi := hi) (.inr (fun i h => hno.out i (by rw [Int.toNat_natCast] at h; omega))) (Below.refl _ _))
        have hz := up_top hx
        rw [hz]
        clear hz hno
        go_wp2_with fail
        go_ret2
        exact P.out
      · have hj' : j ≤ n := by omega
        have EN := hid (r_ends _ _ w (up_right hn1 hn hx hj'))
        have UH := hid (up_hit hi hx hj')
        have UP := hid (up_step n x j)
        have YES := hid (fun hh => node_yes (hi := hi) (w := w) (w' := w) hn1 hn hx hj' hh (Below.refl _ _))
        obtain ⟨b1, b2⟩ := up_bd hx hj' hn
        generalize upV (n : Int) (x : Int) j = u at *
        have g1 : decide ((1 : Int) ≤ u) = true := decide_eq_true b1
        go_wp2_with fail
        refine EN.out.mono ?_
        rintro e w' ⟨rfl, rfl⟩
        generalize endsLo (n : Int) u = a at *
        generalize endsHi (n : Int) u = b at *
        by_cases q : a = (x : Int) ∧ b = hi
        · have P := YES.out (UH.out.1 q)
          clear YES UH EN
          obtain ⟨rfl, rfl⟩ := q
          go_wp2_with fail
          go_ret2
          exact P
        · have N1 : hitB (x : Int) hi j = false := by simpa using fun h => q (UH.out.2 h)
          have RR : Hid (RnRel n x hi (.int .i64 (u / 2))) := ⟨j + 1, by omega, by rw [UP.out], (fun i h => by
            by_cases e : i = j
            · rw [e]; exact N1
            · exact hno.out i (by omega))⟩
          clear YES UH EN UP hno N1
          by_cases q1 : a = (x : Int)
          · have q2 : ¬ b = hi := fun h => q ⟨q1, h⟩
            have z1 : (a == (x : Int)) = true := by simpa using q1
            have z2 : (b == hi) = false := by simpa using q2
            clear q
            go_wp2_with fail
            go_round
            case rel => exact RR.out
            case measure => simp [intOf]; omega
          · have z1 : (a == (x : Int)) = false := by simpa using q1
            clear q
            go_wp2_with fail
            go_round
            case rel => exact RR.out
            case measure => simp [intOf]; omega
end Go.Proofs.YthdljlclcepnhaaGreat
