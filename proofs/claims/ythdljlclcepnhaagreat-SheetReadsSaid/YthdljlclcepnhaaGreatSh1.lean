/- The walks of twig.Ends, twig.Meet, sheet.Node and the reference's Node. -/
import Derived.Test.YthdljlclcepnhaaGreatShMath2
import Derived.Test.YthdljlclcepnhaaGreatBF
namespace Go.Proofs.YthdljlclcepnhaaGreat
open Go.RowKit Nl

theorem Sh.nat_rep {l id : Int} (h : rightB l id = true) : ∃ n d x : Nat, l = (n : Int) ∧ id = (x : Int) ∧ depV id = (d : Int) ∧ depOk id = true ∧ d ≤ n ∧ n ≤ 48 ∧ 1 ≤ n ∧ 2 ^ d ≤ x ∧ x < 2 ^ (d + 1) := by
  obtain ⟨b1, b2, b3⟩ := right_pos1 h
  obtain ⟨d, i, rfl, hi, hd⟩ := dep_rep b1
  obtain ⟨n, rfl⟩ := Int.eq_ofNat_of_zero_le (show 0 ≤ l by omega)
  rw [right_rep hi b2 b3] at h
  have h := of_decide_eq_true h
  refine ⟨n, d, 2 ^ d + i, rfl, rfl, hd, decide_eq_true b1, by omega, by omega, by omega, by omega, ?_⟩
  rw [Nat.pow_succ]; omega

set_option maxRecDepth 100000 in
set_option maxHeartbeats 1000000 in
theorem t_ends {l id : Int} (w : World) (h : rightB l id = true) :
    Calls Tryz.prog 33 #[.int .i64 l, .int .i64 id] w fun e w' => e = .returned (.tuple #[.int .i64 (endsLo l id), .int .i64 (endsHi l id), .bool true]) ∧ Below w.heap.size w w' := by
  obtain ⟨n, d, x, rfl, rfl, hd, hok, hdn, hn, hn1, hx1, hx2⟩ := Sh.nat_rep h
  obtain ⟨p1, p2⟩ := pow48 (n := d) (by omega)
  obtain ⟨m, em⟩ : ∃ m, n - d = m := ⟨_, rfl⟩
  obtain ⟨q1, q2⟩ := pow48 (n := m) (by omega)
  have hxb : (x : Int) < 562949953421312 := by
    have h1 : (2 : Nat) ^ (d + 1) ≤ 2 ^ 49 := Nat.pow_le_pow_right (by omega) (by omega)
    have h2 : (2 : Nat) ^ 49 = 562949953421312 := rfl
    omega
  have Rt0 := twig_right (n : Int) (x : Int) w (by omega) (by omega) (by omega) (by omega)
  rw [h] at Rt0
  have Rt := hid Rt0
  have Dp := hid (t_depth (x : Int) w ⟨by omega, by omega⟩)
  rw [hd, hok] at Dp
  have hsub : IntKind.i64.wrap ((n : Int) - (d : Int)) = (m : Int) := by rw [IntWalk.i64_in _ ⟨by omega, by omega⟩]; omega
  have hsub2 : wrap64 ((n : Int) - (d : Int)) = (m : Int) := by rw [IntWalk.wrap64_in _ ⟨by omega, by omega⟩]; omega
  have hs : 2 ^ n = 2 ^ d * 2 ^ m := by rw [← Nat.pow_add]; congr 1; omega
  have hlo : endsLo (n : Int) (x : Int) = ((x : Int) - 2 ^ d) * 2 ^ m := by
    unfold endsLo depN
    rw [hd, Int.toNat_natCast, Int.toNat_natCast, em, Int.sub_mul]
    have : (2 : Int) ^ n = 2 ^ d * 2 ^ m := by exact_mod_cast hs
    rw [this]
  have hhi : endsHi (n : Int) (x : Int) = ((x : Int) - 2 ^ d) * 2 ^ m + 2 ^ m - 1 := by
    unfold endsHi depN
    rw [hd, Int.toNat_natCast, Int.toNat_natCast, em, Int.sub_mul, Int.add_mul]
    have : (2 : Int) ^ n = 2 ^ d * 2 ^ m := by exact_mod_cast hs
    rw [this]; omega
  have hb : 0 ≤ ((x : Int) - 2 ^ d) * 2 ^ m ∧ ((x : Int) - 2 ^ d) * 2 ^ m < 281474976710656 := by
    have c1 : (2 : Int) ^ d = ((2 ^ d : Nat) : Int) := by simp
    have c2 : (2 : Int) ^ m = ((2 ^ m : Nat) : Int) := by simp
    have h1 : ((x : Int) - 2 ^ d) = ((x - 2 ^ d : Nat) : Int) := by rw [c1]; omega
    rw [h1, c2, ← Int.natCast_mul]
    have h2 : (x - 2 ^ d) * 2 ^ m < 2 ^ n := by
      rw [hs]; exact Nat.mul_lt_mul_of_pos_right (by rw [Nat.pow_succ] at hx2; omega) (Nat.pow_pos (by omega))
    have h3 : 2 ^ n ≤ 2 ^ 48 := Nat.pow_le_pow_right (by omega) hn
    have h4 : (2 : Nat) ^ 48 = 281474976710656 := rfl
    omega
  have hm48 : m ≤ 48 := by omega
  have hd48 : d ≤ 48 := by omega
  have HLO := hid hlo
  have HHI := hid hhi
  have hx0 : (0 : Int) ≤ (x : Int) := Int.natCast_nonneg _
  have hx3 : (2 : Int) ^ d ≤ (x : Int) := by
    have c1 : (2 : Int) ^ d = ((2 ^ d : Nat) : Int) := by simp
    rw [c1]; omega
  clear h hd hok hlo hhi hs em hx1 hx2 Rt0
  generalize (x : Int) = X at *
  obtain ⟨b1, b2⟩ := hb
  have hw1 : IntKind.i64.wrap (X - 2 ^ d) = X - 2 ^ d := IntWalk.i64_in _ ⟨by omega, by omega⟩
  have hw2 : IntKind.i64.wrap ((X - 2 ^ d) * 2 ^ m) = (X - 2 ^ d) * 2 ^ m := IntWalk.i64_in _ ⟨by omega, by omega⟩
  have hw3 : IntKind.i64.wrap ((X - 2 ^ d) * 2 ^ m + 2 ^ m) = (X - 2 ^ d) * 2 ^ m + 2 ^ m := IntWalk.i64_in _ ⟨by omega, by omega⟩
  have hw4 : IntKind.i64.wrap ((X - 2 ^ d) * 2 ^ m + 2 ^ m - 1) = (X - 2 ^ d) * 2 ^ m + 2 ^ m - 1 := IntWalk.i64_in _ ⟨by omega, by omega⟩
  go_enter Tryz.func33, Tryz.ntmps33
  go_wp2_with fail
  refine Rt.out.mono ?_
  rintro e w' ⟨rfl, rfl⟩
  go_wp2_with fail
  refine Dp.out.mono ?_
  rintro e w' ⟨rfl, rfl⟩
  go_wp2_with fail
  go_region
  go_wp2_with fail
  go_ret3
  exact ⟨by rw [HLO.out, HHI.out]; rfl, below_drewN (Below.refl _ _) 1⟩
set_option maxRecDepth 100000 in
set_option maxHeartbeats 1000000 in
theorem t_ends_no {l id : Int} (w : World) (bl : In64 l) (bi : In64 id) (h : rightB l id = false) :
    Calls Tryz.prog 33 #[.int .i64 l, .int .i64 id] w fun e w' => e = .returned (.tuple #[.int .i64 0, .int .i64 0, .bool false]) ∧ w = w' := by
  have Rt0 := twig_right l id w bl.1 bl.2 bi.1 bi.2
  rw [h] at Rt0
  have Rt := hid Rt0
  clear Rt0 h
  go_enter Tryz.func33, Tryz.ntmps33
  go_wp2_with fail
  refine Rt.out.mono ?_
  rintro e w' ⟨rfl, rfl⟩
  go_wp2_with fail
  go_ret3
  exact ⟨rfl, rfl⟩

def MeetPost (n x y : Nat) (w : World) (e : Ending) (w' : World) : Prop := ∃ k, k ≤ n ∧ x / 2 ^ k = y / 2 ^ k ∧ (∀ j, j < k → x / 2 ^ j ≠ y / 2 ^ j) ∧ e = .returned (.tuple #[.int .i64 (Sh.upV (n : Int) (x : Int) k), .bool true]) ∧ w = w'
def MeetRel (n x y : Nat) (a b : Value) : Prop := ∃ j, j ≤ n ∧ Hid (∀ i, i < j → x / 2 ^ i ≠ y / 2 ^ i) ∧ a = .int .i64 (Sh.upV (n : Int) (x : Int) j) ∧ b = .int .i64 (Sh.upV (n : Int) (y : Int) j)
theorem Sh.up_step (n x j : Nat) : Sh.upV (n : Int) (x : Int) (j + 1) = Sh.upV (n : Int) (x : Int) j / 2 := by
  unfold Sh.upV
  rw [Int.ediv_ediv_of_nonneg (Int.le_of_lt (Int.pow_pos (by omega))), Int.pow_succ]
theorem Sh.up_eq {n x y j : Nat} (hx : x < 2 ^ n) (hy : y < 2 ^ n) (hj : j ≤ n) : Sh.upV (n : Int) (x : Int) j = Sh.upV (n : Int) (y : Int) j ↔ x / 2 ^ j = y / 2 ^ j := by
  rw [(Sh.up_rep hx hj).1, (Sh.up_rep hy hj).1]
  constructor
  · intro h; omega
  · intro h; rw [h]
theorem Sh.up_bd {n x j : Nat} (hx : x < 2 ^ n) (hj : j ≤ n) (hn : n ≤ 48) : 1 ≤ Sh.upV (n : Int) (x : Int) j ∧ Sh.upV (n : Int) (x : Int) j < 562949953421312 := by
  obtain ⟨h1, h2⟩ := Sh.up_rep hx hj
  rw [h1]
  have h3 : 2 ^ (n - j) ≤ 2 ^ 48 := Nat.pow_le_pow_right (by omega) (by omega)
  have h4 : (2 : Nat) ^ 48 = 281474976710656 := rfl
  have h5 : 1 ≤ 2 ^ (n - j) := Nat.one_le_two_pow
  generalize 2 ^ (n - j) = p at *
  generalize x / 2 ^ j = q at *
  omega

set_option maxRecDepth 100000 in
set_option maxHeartbeats 1000000 in
theorem t_meet {n x y : Nat} (w : World) (hx : x < 2 ^ n) (hy : y < 2 ^ n) (hn : n ≤ 48) :
    Calls Tryz.prog 86 #[.int .i64 (Sh.upV (n : Int) (x : Int) 0), .int .i64 (Sh.upV (n : Int) (y : Int) 0)] w (MeetPost n x y w) := by
  have ex : Sh.upV (n : Int) (x : Int) 0 = ((2 ^ n + x : Nat) : Int) := by rw [(Sh.up_rep hx (Nat.zero_le n)).1]; simp
  have ey : Sh.upV (n : Int) (y : Int) 0 = ((2 ^ n + y : Nat) : Int) := by rw [(Sh.up_rep hy (Nat.zero_le n)).1]; simp
  have bx := Sh.up_bd hx (Nat.zero_le n) hn
  have bY := Sh.up_bd hy (Nat.zero_le n) hn
  have D1 := hid (t_depth (Sh.upV (n : Int) (x : Int) 0) w ⟨by omega, by omega⟩)
  have D2 := hid (t_depth (Sh.upV (n : Int) (y : Int) 0) w ⟨by omega, by omega⟩)
  have o1 : depOk (Sh.upV (n : Int) (x : Int) 0) = true := decide_eq_true bx.1
  have o2 : depOk (Sh.upV (n : Int) (y : Int) 0) = true := decide_eq_true bY.1
  have v1 : depV (Sh.upV (n : Int) (x : Int) 0) = (n : Int) := by rw [ex]; exact dep_two hx
  have v2 : depV (Sh.upV (n : Int) (y : Int) 0) = (n : Int) := by rw [ey]; exact dep_two hy
  rw [o1, v1] at D1
  rw [o2, v2] at D2
  have R0 : Hid (MeetRel n x y (.int .i64 (Sh.upV (n : Int) (x : Int) 0)) (.int .i64 (Sh.upV (n : Int) (y : Int) 0))) := ⟨0, Nat.zero_le _, (fun i hi => absurd hi (by omega)), rfl, rfl⟩
  have hz : IntKind.i64.wrap ((n : Int) - (n : Int)) = 0 := by simp; rfl
  clear ex ey o1 o2 v1 v2
  go_enter Tryz.func86, Tryz.ntmps86
  go_wp2_with fail
  refine D1.out.mono ?_
  rintro e w' ⟨rfl, rfl⟩
  go_wp2_with fail
  refine D2.out.mono ?_
  rintro e w' ⟨rfl, rfl⟩
  clear bx bY
  go_wp2_with fail
  go_loop [0, 1] (fun a b => MeetRel n x y a b) (fun a _ => (intOf a).toNat)
  case atStart => exact R0.out
  case round =>
    obtain ⟨j, hj, hne, rfl, rfl⟩ := hrel
    have q := Sh.up_eq hx hy hj
    have sx := Sh.up_step n x j
    have sy := Sh.up_step n y j
    obtain ⟨a1, a2⟩ := Sh.up_bd hx hj hn
    obtain ⟨b1, b2⟩ := Sh.up_bd hy hj hn
    have HX := hid sx
    have HY := hid sy
    have Q := hid q
    have top : j = n → x / 2 ^ j = y / 2 ^ j := fun e => by
      subst e; rw [Nat.div_eq_of_lt hx, Nat.div_eq_of_lt hy]
    have TOP := hid top
    have FIN := hid (show x / 2 ^ j = y / 2 ^ j → MeetPost n x y w (.returned (.tuple #[.int .i64 (Sh.upV (n : Int) (x : Int) j), .bool true])) w from fun h => ⟨j, hj, h, hne.out, rfl, rfl⟩)
    clear q sx sy top
    generalize Sh.upV (n : Int) (x : Int) j = u at *
    generalize Sh.upV (n : Int) (y : Int) j = v at *
    by_cases huv : u = v
    · have e := FIN.out (Q.out.1 huv)
      clear Q FIN
      subst huv
      have hq : (u != u) = false := by simp
      go_wp2_with fail
      go_ret2
      exact e
    · have e : ¬ x / 2 ^ j = y / 2 ^ j := fun h => huv (Q.out.2 h)
      have hq : (u != v) = true := by simpa using huv
      have E := hid e
      have hjn : j < n := by
        by_cases q : j = n
        · exact absurd (TOP.out q) e
        · omega
      clear Q e huv FIN
      go_wp2_with fail
      go_round
      case rel => exact ⟨j + 1, by omega, (fun i hi => by
        by_cases h : i = j
        · rw [h]; exact E.out
        · exact hne.out i (by omega)), by rw [HX.out], by rw [HY.out]⟩
      case measure => simp [intOf]; omega
end Go.Proofs.YthdljlclcepnhaaGreat
