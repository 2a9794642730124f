/- The walks of Graft and Prune, and of the reference's. -/
import Derived.Test.YtnakieopnobjmaaGreatRC
import Derived.Test.YtnakieopnobjmaaGreatBF
namespace Go.Proofs.YtnakieopnobjmaaGreat
open Go.RowKit Nl

theorem Nl.nat_rep {l id : Int} (h : rightB l id = true) : ∃ d x : Nat, id = (x : Int) ∧ depV id = (d : Int) ∧ depOk id = true ∧ (d : Int) ≤ l ∧ l ≤ 48 ∧ 2 ^ d ≤ x ∧ x < 2 ^ (d + 1) := by
  obtain ⟨b1, b2, b3⟩ := right_pos1 h
  obtain ⟨d, i, rfl, hi, hd⟩ := dep_rep b1
  rw [right_rep hi b2 b3] at h
  have h := of_decide_eq_true h
  refine ⟨d, 2 ^ d + i, rfl, hd, decide_eq_true b1, h, b3, by omega, ?_⟩
  rw [Nat.pow_succ]; omega
theorem Nl.graft_val {d x n : Nat} (h : depV (x : Int) = (d : Int)) : graftV (n : Int) (x : Int) = (x : Int) - 2 ^ d + 2 ^ (d + n) := by
  unfold graftV depN; rw [h]; simp
theorem Nl.prune_val {d x n : Nat} (h : depV (x : Int) = (d : Int)) : pruneV (n : Int) (x : Int) = (x : Int) / 2 ^ (d - n) := by
  unfold pruneV depN; rw [h]; simp

set_option maxRecDepth 100000 in
set_option maxHeartbeats 1000000 in
theorem t_graft {l id by_ : Int} (w : World) (h : rightB l id = true) (hb : 0 ≤ by_) (hl : l + by_ ≤ 48) :
    Calls Tryz.prog 50 #[.int .i64 id, .int .i64 by_] w fun e w' => e = .returned (.tuple #[.int .i64 (graftV by_ id), .bool true]) ∧ Below w.heap.size w w' := by
  obtain ⟨d, x, rfl, hd, hok, hdl, hl2, hx1, hx2⟩ := nat_rep h
  obtain ⟨n, rfl⟩ := Int.eq_ofNat_of_zero_le hb
  obtain ⟨p1, p2⟩ := pow48 (n := d) (by omega)
  obtain ⟨q1, q2⟩ := pow48 (n := d + n) (by omega)
  have hxb : (x : Int) < 562949953421312 := by
    have h1 : (2 : Nat) ^ (d + 1) ≤ 2 ^ 49 := Nat.pow_le_pow_right (by omega) (by omega)
    have h2 : (2 : Nat) ^ 49 = 562949953421312 := rfl
    omega
  have Dp := hid (t_depth (x : Int) w ⟨by omega, by omega⟩)
  have HV := hid (graft_val (n := n) hd)
  rw [hd, hok] at Dp
  have hsum : IntKind.i64.wrap ((d : Int) + (n : Int)) = ((d + n : Nat) : Int) := by rw [IntWalk.i64_in _ ⟨by omega, by omega⟩]; simp
  have hc : decide ((48 : Int) - (d : Int) < (n : Int)) = false := decide_eq_false (by omega)
  have hdn : d + n ≤ 48 := by omega
  have hd48 : d ≤ 48 := by omega
  have hw1 : IntKind.i64.wrap ((x : Int) - 2 ^ d) = (x : Int) - 2 ^ d := IntWalk.i64_in _ ⟨by omega, by omega⟩
  have hw2 : IntKind.i64.wrap ((x : Int) - 2 ^ d + 2 ^ (d + n)) = (x : Int) - 2 ^ d + 2 ^ (d + n) := IntWalk.i64_in _ ⟨by omega, by omega⟩
  have hx0 : (0 : Int) ≤ (x : Int) := Int.natCast_nonneg _
  clear h hd hok hl hx1 hx2
  generalize (x : Int) = X at *
  go_enter Tryz.func50, Tryz.ntmps50
  go_wp2_with fail
  refine Dp.out.mono ?_
  rintro e w' ⟨rfl, rfl⟩
  go_wp2_with fail
  go_region
  go_wp2_with fail
  go_ret2
  exact ⟨ret_ib HV.out.symm rfl, below_drewN (Below.refl _ _) 1⟩

set_option maxRecDepth 100000 in
set_option maxHeartbeats 1000000 in
theorem r_graft {l id by_ : Int} (w : World) (h : rightB l id = true) (hb : 0 ≤ by_) (hl : l + by_ ≤ 48) :
    Calls Tryz.prog 55 #[.int .i64 id, .int .i64 by_] w fun e w' => e = .returned (.tuple #[.int .i64 (graftV by_ id), .bool true]) ∧ w = w' := by
  obtain ⟨d, x, rfl, hd, hok, hdl, hl2, hx1, hx2⟩ := nat_rep h
  obtain ⟨n, rfl⟩ := Int.eq_ofNat_of_zero_le hb
  obtain ⟨p1, p2⟩ := pow48 (n := d) (by omega)
  obtain ⟨q1, q2⟩ := pow48 (n := d + n) (by omega)
  have hxb : (x : Int) < 562949953421312 := by
    have h1 : (2 : Nat) ^ (d + 1) ≤ 2 ^ 49 := Nat.pow_le_pow_right (by omega) (by omega)
    have h2 : (2 : Nat) ^ 49 = 562949953421312 := rfl
    omega
  have Dp := hid (r_depth (x : Int) w (by omega) (by omega))
  have P1 := hid (r_power (d : Int) w (by omega) (by omega))
  have P2 := hid (r_power ((d : Int) + (n : Int)) w (by omega) (by omega))
  have HV := hid (graft_val (n := n) hd)
  rw [hd, hok] at Dp
  have e2 : ((d : Int) + (n : Int)).toNat = d + n := by omega
  have c1 : decide ((n : Int) < 0) = false := decide_eq_false (by omega)
  have c2 : decide ((48 : Int) < (n : Int)) = false := decide_eq_false (by omega)
  have w1 : wrap64 ((d : Int) + (n : Int)) = (d : Int) + (n : Int) := IntWalk.wrap64_in _ ⟨by omega, by omega⟩
  have w2 : IntKind.i64.wrap ((d : Int) + (n : Int)) = (d : Int) + (n : Int) := IntWalk.i64_in _ ⟨by omega, by omega⟩
  have c3 : decide ((48 : Int) < (d : Int) + (n : Int)) = false := decide_eq_false (by omega)
  rw [Int.toNat_natCast] at P1
  rw [e2] at P2
  have hx0 : (0 : Int) ≤ (x : Int) := Int.natCast_nonneg _
  clear h hd hok hl hx1 hx2 e2
  generalize (x : Int) = X at *
  go_enter Tryz.func55, Tryz.ntmps55
  go_wp2_with fail
  refine Dp.out.mono ?_
  rintro e w' ⟨rfl, rfl⟩
  go_wp2_with fail
  refine P1.out.mono ?_
  rintro e w' ⟨rfl, rfl⟩
  go_wp2_with fail
  refine P2.out.mono ?_
  rintro e w' ⟨rfl, rfl⟩
  go_wp2_with fail
  go_ret2
  exact ⟨ret_ib HV.out.symm rfl, rfl⟩

set_option maxRecDepth 100000 in
set_option maxHeartbeats 1000000 in
theorem t_prune {l id t : Int} (w : World) (h : rightB l id = true) (ht : 0 ≤ t) (ht2 : t ≤ 48) :
    Calls Tryz.prog 59 #[.int .i64 id, .int .i64 t] w fun e w' => e = .returned (.tuple #[.int .i64 (pruneV t id), .bool true]) ∧ w = w' := by
  obtain ⟨d, x, rfl, hd, hok, hdl, hl2, hx1, hx2⟩ := nat_rep h
  obtain ⟨n, rfl⟩ := Int.eq_ofNat_of_zero_le ht
  have hxb : (x : Int) < 562949953421312 := by
    have h1 : (2 : Nat) ^ (d + 1) ≤ 2 ^ 49 := Nat.pow_le_pow_right (by omega) (by omega)
    have h2 : (2 : Nat) ^ 49 = 562949953421312 := rfl
    omega
  have Dp := hid (t_depth (x : Int) w ⟨by omega, by omega⟩)
  have HV := hid (prune_val (n := n) hd)
  rw [hd, hok] at Dp
  clear hd hok hx1 hx2
  obtain ⟨m, em⟩ : ∃ m, d - n = m := ⟨_, rfl⟩
  rw [em] at HV
  have hm : m ≤ 48 := by omega
  have hmx : max (0 : Int) ((d : Int) - (n : Int)) = (m : Int) := by omega
  have hx0 : (0 : Int) ≤ (x : Int) := Int.natCast_nonneg _
  have c1 : decide ((n : Int) < 0) = false := decide_eq_false (by omega)
  clear h
  generalize (x : Int) = X at *
  go_enter Tryz.func59, Tryz.ntmps59
  go_wp2_with fail
  refine Dp.out.mono ?_
  rintro e w' ⟨rfl, rfl⟩
  go_wp2_with fail
  · go_ret2
    exact ⟨ret_ib HV.out.symm rfl, rfl⟩
  · have e0 : m = 0 := by omega
    go_ret2
    exact ⟨ret_ib (by rw [HV.out, e0]; simp) rfl, rfl⟩

def PrRel (X : Int) (d n : Nat) (a b : Value) : Prop := ∃ j : Nat, a = .int .i64 (X / 2 ^ j) ∧ b = .int .i64 ((d : Int) - (j : Int)) ∧ j ≤ d - n
set_option maxRecDepth 100000 in
set_option maxHeartbeats 1000000 in
theorem r_prune {l id t : Int} (w : World) (h : rightB l id = true) (ht : 0 ≤ t) (ht2 : t ≤ 48) :
    Calls Tryz.prog 60 #[.int .i64 id, .int .i64 t] w fun e w' => e = .returned (.tuple #[.int .i64 (pruneV t id), .bool true]) ∧ w = w' := by
  obtain ⟨d, x, rfl, hd, hok, hdl, hl2, hx1, hx2⟩ := nat_rep h
  obtain ⟨n, rfl⟩ := Int.eq_ofNat_of_zero_le ht
  have hxb : (x : Int) < 562949953421312 := by
    have h1 : (2 : Nat) ^ (d + 1) ≤ 2 ^ 49 := Nat.pow_le_pow_right (by omega) (by omega)
    have h2 : (2 : Nat) ^ 49 = 562949953421312 := rfl
    omega
  have Dp := hid (r_depth (x : Int) w (by omega) (by omega))
  have HV := hid (prune_val (n := n) hd)
  rw [hd, hok] at Dp
  have hx0 : (0 : Int) ≤ (x : Int) := Int.natCast_nonneg _
  have c1 : decide ((n : Int) < 0) = false := decide_eq_false (by omega)
  have hd48 : d ≤ 48 := by omega
  clear hd hok hx1 hx2 h
  generalize (x : Int) = X at *
  have R0 : Hid (PrRel X d n (.int .i64 X) (.int .i64 (d : Int))) := ⟨0, by simp, by simp, Nat.zero_le _⟩
  have HX := hid (And.intro hx0 hxb)
  clear hx0 hxb
  go_enter Tryz.func60, Tryz.ntmps60
  go_wp2_with fail
  refine Dp.out.mono ?_
  rintro e w' ⟨rfl, rfl⟩
  go_wp2_with fail
  go_loop [0, 6] (fun a b => PrRel X d n a b) (fun _ b => (intOf b - (n : Int)).toNat)
  case atStart => exact R0.out
  case round =>
    obtain ⟨j, rfl, rfl, hj⟩ := hrel
    have hY0 : 0 ≤ X / 2 ^ j := Int.ediv_nonneg HX.out.1 (Int.le_of_lt (Int.pow_pos (by omega)))
    have hY1 : X / 2 ^ j < 562949953421312 := Int.lt_of_le_of_lt (Int.ediv_le_self _ HX.out.1) HX.out.2
    have hs : X / 2 ^ j / 2 = X / 2 ^ (j + 1) := by rw [Int.ediv_ediv_of_nonneg (Int.le_of_lt (Int.pow_pos (by omega))), Int.pow_succ]
    have HS := hid hs
    clear hs
    obtain ⟨Y, eY⟩ : ∃ Y, X / 2 ^ j = Y := ⟨_, rfl⟩
    rw [eY] at hY0 hY1 HS ⊢
    have EY := hid eY
    clear eY
    by_cases hlt : n < d - j
    · have hg : decide ((n : Int) < (d : Int) - (j : Int)) = true := decide_eq_true (by omega)
      go_wp2_with fail
      go_round
      case rel => exact ⟨j + 1, by rw [← HS.out], by go_num, by omega⟩
      case measure => simp [intOf]; omega
    · have hg : decide ((n : Int) < (d : Int) - (j : Int)) = false := decide_eq_false (by omega)
      have ej : j = d - n := by omega
      have HR : Hid (pruneV (n : Int) X = Y) := by show _ = _; rw [HV.out, ← ej, EY.out]
      go_wp2_with fail
      go_ret2
      exact ⟨ret_ib HR.out.symm rfl, rfl⟩
end Go.Proofs.YtnakieopnobjmaaGreat
