/- Texts laid together. -/
import Derived.Test.YtdnlejboijkcfaaGreatDoorP42
import Derived.Deep.LoopGhost
import Derived.Shelf.Abstract
import Derived.Deep.QuietTactic
import Derived.BigQuiet
import Derived.Deep.RegionHeld3
import Derived.Deep.DeepCutAuto
/- Pa1 Pa2 Pa3 Pa4 Pa5 Pa7, for a seat with the digest too. -/
section
namespace Go.Proofs.YtdnlejboijkcfaaGreatDoor
set_option maxHeartbeats 8000000
set_option maxRecDepth 100000
open Go.RowKit Rk
namespace Rk
def uniB (l : Int) : Bool := decide (1 ≤ l ∧ l ≤ 48)
def isK (k : Int) : Bool := decide (1 ≤ k ∧ k ≤ 1048576)
def bytesV (k : Int) : Int := if isK k then 78 + 72 * k else 0
def errOk (l k n : Int) : Bool := uniB l && isK k && decide (0 ≤ n ∧ n ≤ 72057594037927935)
def errV (l k n : Int) : Int := if errOk l k n then l * (n / k) else 0
def wantB (l num den : Int) : Bool := uniB l && decide (1 ≤ num) && decide (1 ≤ den)
theorem pow48 {n : Nat} (h : n ≤ 48) : (1 : Int) ≤ 2 ^ n ∧ (2 : Int) ^ n ≤ 281474976710656 := by
  have h1 : (2 : Nat) ^ n ≤ 2 ^ 48 := Nat.pow_le_pow_right (by omega) h
  have h2 : (1 : Nat) ≤ 2 ^ n := Nat.one_le_two_pow
  have e : (2 : Int) ^ n = ((2 ^ n : Nat) : Int) := by simp
  have h3 : (2 : Nat) ^ 48 = 281474976710656 := rfl
  rw [e]; omega
def In64 (n : Int) : Prop := -9223372036854775808 ≤ n ∧ n ≤ 9223372036854775807
end Rk
theorem twig_one (l : Int) (w : World) (bl : In64 l) :
    Calls Tryz.prog 127 #[.int .i64 l, .int .i64 1] w fun e w' => e = .returned (.bool (uniB l)) ∧ w = w' := by
  obtain ⟨l1, l2⟩ := bl
  by_cases h1 : 1 ≤ l
  · by_cases h2 : l ≤ 48
    · obtain ⟨n, rfl⟩ := Int.eq_ofNat_of_zero_le (show 0 ≤ l by omega)
      obtain ⟨b1, b2⟩ := pow48 (n := n) (by omega)
      have e : uniB (n : Int) = true := by simp [uniB]; omega
      have hn : n ≤ 48 := by omega
      have h4 : (1 : Int) < 2 * 2 ^ n := by omega
      rw [e]; clear e
      go_enter Tryz.func127, Tryz.ntmps127
      go_wp2_with (go_at_call 112; go_in)
      go_ret
      exact ⟨rfl, rfl⟩
    · have e : uniB l = false := by simp [uniB, h2]
      rw [e]; clear e
      go_enter Tryz.func127, Tryz.ntmps127
      go_wp2_with (go_at_call 112; go_in)
      go_ret
      exact ⟨rfl, rfl⟩
  · have e : uniB l = false := by simp [uniB, h1]
    rw [e]; clear e
    go_enter Tryz.func127, Tryz.ntmps127
    go_wp2_with (go_at_call 112; go_in)
    go_ret
    exact ⟨rfl, rfl⟩
theorem pa_universe (l : Int) (w : World) (bl : In64 l) :
    Calls Tryz.prog 102 #[.int .i64 l] w fun e w' => e = .returned (.bool (uniB l)) ∧ w = w' := by
  have T := hid (twig_one l w bl)
  generalize uniB l = u at *
  go_enter Tryz.func102, Tryz.ntmps102
  go_wp2_with fail
  refine T.out.mono ?_
  rintro e w' ⟨rfl, rfl⟩
  go_wp2_with fail
  go_ret
  exact ⟨rfl, rfl⟩
theorem pa_may (k : Int) (w : World) :
    Calls Tryz.prog 54 #[.int .i64 k] w fun e w' => e = .returned (.bool (isK k)) ∧ w = w' := by
  by_cases h1 : k < 1
  · have e : isK k = false := by simp [isK]; omega
    rw [e]; clear e
    go_enter Tryz.func54, Tryz.ntmps54
    go_wp2_with fail
    go_ret
    exact ⟨rfl, rfl⟩
  · have e : isK k = decide (k ≤ 1048576) := by simp [isK]; omega
    rw [e]; clear e
    go_enter Tryz.func54, Tryz.ntmps54
    go_wp2_with fail
    go_ret
    exact ⟨rfl, rfl⟩
theorem pa_bytes (k : Int) (w : World) :
    Calls Tryz.prog 22 #[.int .i64 k] w fun e w' => e = .returned (.tuple #[.int .i64 (bytesV k), .bool (isK k)]) ∧ w = w' := by
  by_cases h : 1 ≤ k ∧ k ≤ 1048576
  · have e : isK k = true := by simpa [isK] using h
    have e2 : bytesV k = 78 + 72 * k := by unfold bytesV; rw [e]; rfl
    have M := hid (pa_may k w)
    rw [e] at M
    rw [e, e2]; clear e e2
    obtain ⟨h1, h2⟩ := h
    go_enter Tryz.func22, Tryz.ntmps22
    go_wp2_with fail
    refine M.out.mono ?_
    rintro e w' ⟨rfl, rfl⟩
    go_wp2_with (first | (go_at_call 56; go_in) | (go_at_call 109; go_in) | (go_at_call 55; go_in))
    go_ret2
    exact ⟨ret_ib (by omega) rfl, rfl⟩
  · have e : isK k = false := by simpa [isK] using h
    have e2 : bytesV k = 0 := by unfold bytesV; rw [e]; rfl
    have M := hid (pa_may k w)
    rw [e] at M
    rw [e, e2]; clear e e2 h
    go_enter Tryz.func22, Tryz.ntmps22
    go_wp2_with fail
    refine M.out.mono ?_
    rintro e w' ⟨rfl, rfl⟩
    go_wp2_with fail
    go_ret2
    exact ⟨rfl, rfl⟩
end Go.Proofs.YtdnlejboijkcfaaGreatDoor
end
section
namespace Go.Proofs.YtdnlejboijkcfaaGreatDoor
set_option maxHeartbeats 8000000
set_option maxRecDepth 100000
open Go.RowKit Rk
namespace Rk
theorem err_bd {l k n : Int} (h : errOk l k n = true) : 0 ≤ l * (n / k) ∧ l * (n / k) ≤ 3458764513820540880 ∧ 0 ≤ n / k ∧ n / k ≤ 72057594037927935 ∧ 1 ≤ l ∧ l ≤ 48 ∧ 1 ≤ k ∧ k ≤ 1048576 ∧ 0 ≤ n ∧ n ≤ 72057594037927935 := by
  simp only [errOk, uniB, isK, Bool.and_eq_true, decide_eq_true_eq] at h
  obtain ⟨⟨⟨a1, a2⟩, b1, b2⟩, c1, c2⟩ := h
  have h1 : 0 ≤ n / k := Int.ediv_nonneg c1 (by omega)
  have h2 : n / k ≤ n := Int.ediv_le_self _ c1
  have h3 : 0 ≤ l * (n / k) := Int.mul_nonneg (by omega) h1
  have h4 : l * (n / k) ≤ 48 * 72057594037927935 := Int.mul_le_mul a2 (by omega) h1 (by omega)
  exact ⟨h3, by omega, h1, by omega, a1, a2, b1, b2, c1, c2⟩
theorem errV_bd (l k n : Int) : 0 ≤ errV l k n ∧ errV l k n ≤ 3458764513820540880 := by
  unfold errV
  split
  · rename_i h; have := err_bd h; omega
  · omega
end Rk
theorem pa_error (l k n : Int) (w : World) (bl : In64 l) (bk : In64 k) (bn : In64 n) :
    Calls Tryz.prog 47 #[.int .i64 l, .int .i64 k, .int .i64 n] w fun e w' => e = .returned (.tuple #[.int .i64 (errV l k n), .bool (errOk l k n)]) ∧ w = w' := by
  have U := hid (pa_universe l w bl)
  have M := hid (pa_may k w)
  have D := hid (div_any n k w bn.1 bn.2 bk.1 bk.2)
  obtain ⟨n1, n2⟩ := bn
  have HO : Hid (errOk l k n = (uniB l && isK k && decide (0 ≤ n ∧ n ≤ 72057594037927935))) := rfl
  have HB := hid (@err_bd l k n)
  obtain ⟨u, eu⟩ : ∃ u, uniB l = u := ⟨_, rfl⟩
  obtain ⟨m, em⟩ : ∃ m, isK k = m := ⟨_, rfl⟩
  rw [eu] at U HO
  rw [em] at M HO
  clear eu em
  have HV : Hid (errV l k n = if errOk l k n then l * (n / k) else 0) := rfl
  obtain ⟨o, eo⟩ : ∃ o, errOk l k n = o := ⟨_, rfl⟩
  rw [eo] at HO HV HB ⊢
  cases u
  · have e := HO.out; simp at e; subst e
    have ev := HV.out
    simp only [Bool.false_eq_true, if_false] at ev
    rw [ev]
    clear HO HV ev eo HB
    go_enter Tryz.func47, Tryz.ntmps47
    go_wp2_with fail
    refine U.out.mono ?_
    rintro e w' ⟨rfl, rfl⟩
    go_wp2_with fail
    go_ret2
    exact ⟨rfl, rfl⟩
  cases m
  · have e := HO.out; simp at e; subst e
    have ev := HV.out
    simp only [Bool.false_eq_true, if_false] at ev
    rw [ev]
    clear HO HV ev eo HB
    go_enter Tryz.func47, Tryz.ntmps47
    go_wp2_with fail
    refine U.out.mono ?_
    rintro e w' ⟨rfl, rfl⟩
    go_wp2_with fail
    refine M.out.mono ?_
    rintro e w' ⟨rfl, rfl⟩
    go_wp2_with fail
    go_ret2
    exact ⟨rfl, rfl⟩
  by_cases h0 : 0 ≤ n
  · by_cases h1 : n ≤ 72057594037927935
    · have e := HO.out
      rw [decide_eq_true ⟨h0, h1⟩] at e
      simp at e; subst e
      have ev := HV.out
      simp only [if_true] at ev
      obtain ⟨b1, b2, b3, b4, b5, b6, b7, b8, _, _⟩ := HB.out rfl
      have M2 := hid (mul_any l (n / k) w (by omega) (by omega) (by omega) (by omega))
      have dv : divV n k = n / k := by unfold divV divOk; rw [if_pos (by simp; omega)]
      have mo : mulOk l (n / k) = true := by simp [mulOk]; omega
      have mv : mulV l (n / k) = l * (n / k) := by unfold mulV; rw [mo]; rfl
      rw [mo, mv] at M2
      rw [dv] at D
      rw [ev]
      clear HO HV ev eo HB dv mo mv
      generalize l * (n / k) = P at *
      generalize n / k = q at *
      go_enter Tryz.func47, Tryz.ntmps47
      go_wp2_with fail
      refine U.out.mono ?_
      rintro e w' ⟨rfl, rfl⟩
      go_wp2_with fail
      refine M.out.mono ?_
      rintro e w' ⟨rfl, rfl⟩
      go_wp2_with fail
      refine D.out.mono ?_
      rintro e w' ⟨rfl, rfl⟩
      go_wp2_with fail
      refine M2.out.mono ?_
      rintro e w' ⟨rfl, rfl⟩
      go_wp2_with fail
      go_ret2
      exact ⟨rfl, rfl⟩
    · have e := HO.out
      rw [decide_eq_false (by omega)] at e
      simp at e; subst e
      have ev := HV.out
      simp only [Bool.false_eq_true, if_false] at ev
      rw [ev]
      clear HO HV ev eo HB
      go_enter Tryz.func47, Tryz.ntmps47
      go_wp2_with fail
      refine U.out.mono ?_
      rintro e w' ⟨rfl, rfl⟩
      go_wp2_with fail
      refine M.out.mono ?_
      rintro e w' ⟨rfl, rfl⟩
      go_wp2_with fail
      go_ret2
      exact ⟨rfl, rfl⟩
  · have e := HO.out
    rw [decide_eq_false (by omega)] at e
    simp at e; subst e
    have ev := HV.out
    simp only [Bool.false_eq_true, if_false] at ev
    rw [ev]
    clear HO HV ev eo HB
    go_enter Tryz.func47, Tryz.ntmps47
    go_wp2_with fail
    refine U.out.mono ?_
    rintro e w' ⟨rfl, rfl⟩
    go_wp2_with fail
    refine M.out.mono ?_
    rintro e w' ⟨rfl, rfl⟩
    go_wp2_with fail
    go_ret2
    exact ⟨rfl, rfl⟩
end Go.Proofs.YtdnlejboijkcfaaGreatDoor
end
section
namespace Go.Proofs.YtdnlejboijkcfaaGreatDoor
set_option maxHeartbeats 8000000
set_option maxRecDepth 100000
open Go.RowKit Rk
namespace Rk
def leastE (l num den : Int) : Int := if wantB l num den then (if partUpOk l den num && isK (partUpV l den num) then 0 else 14) else 2
def leastV (l num den : Int) : Int := if wantB l num den && (partUpOk l den num && isK (partUpV l den num)) then partUpV l den num else 0
def kE (l num den b : Int) : Int := if leastE l num den = 0 then (if b < bytesV (leastV l num den) then 14 else 0) else leastE l num den
def kV (l num den b : Int) : Int := if leastE l num den = 0 then (if b < bytesV (leastV l num den) then 0 else leastV l num den) else 0
def withinB (l num den k n : Int) : Bool := errOk l k n && (wantB l num den && decide (orderV (errV l k n) den n num ≤ 0))
theorem want_up {l num den : Int} (h : wantB l num den = true) : asked l den num = true ∧ 1 ≤ upq (l * den) num := by
  simp only [wantB, uniB, Bool.and_eq_true, decide_eq_true_eq] at h
  obtain ⟨⟨⟨a1, a2⟩, b⟩, c⟩ := h
  refine ⟨by simp [asked]; omega, ?_⟩
  have h1 : 1 * 1 ≤ l * den := Int.mul_le_mul a1 c (by omega) (by omega)
  have h2 : 0 ≤ l * den / num := Int.ediv_nonneg (by omega) (by omega)
  unfold upq
  by_cases h3 : 0 < l * den % num
  · rw [if_pos h3]; omega
  · rw [if_neg h3]
    have h4 := Int.emod_nonneg (l * den) (show num ≠ 0 by omega)
    have h5 := Int.mul_ediv_add_emod (l * den) num
    have h6 : l * den % num = 0 := by omega
    rw [h6] at h5
    by_cases h7 : 1 ≤ l * den / num
    · exact h7
    · have : l * den / num = 0 := by omega
      rw [this] at h5; simp at h5; omega
theorem up_bd (l num den : Int) : 0 ≤ partUpV l den num ∧ partUpV l den num ≤ 9223372036854775807 := by
  unfold partUpV
  split
  · rename_i h
    simp only [asked, decide_eq_true_eq] at h
    have h2 : 0 ≤ l * den / num := Int.ediv_nonneg (Int.mul_nonneg h.1 h.2.1) (by omega)
    unfold capV upq
    split <;> split <;> omega
  · omega
theorem up_isK {l num den : Int} (h : wantB l num den = true) (h2 : partUpOk l den num = true) : isK (partUpV l den num) = decide (partUpV l den num ≤ 1048576) := by
  obtain ⟨h3, h4⟩ := want_up h
  have h5 : 1 ≤ partUpV l den num := by
    unfold partUpOk at h2
    unfold partUpV
    rw [h3] at h2 ⊢
    simp only [Bool.true_and, capOk, decide_eq_true_eq] at h2
    simp only [if_true, capV]
    rw [if_pos h2]; exact h4
  simp [isK]; omega
end Rk
theorem pa_want (l num den b : Int) (w : World) (bl : In64 l) (bn : In64 num) (bd : In64 den) (_bb : In64 b) :
    Calls Tryz.prog 48 #[.agg #[.int .i64 l, .int .i64 num, .int .i64 den, .int .i64 b]] w fun e w' => e = .returned (.bool (wantB l num den)) ∧ Below w.heap.size w w' := by
  have U := hid (fun W : World => pa_universe l W bl)
  have HW : Hid (wantB l num den = (uniB l && decide (1 ≤ num) && decide (1 ≤ den))) := rfl
  have hbx : Below w.heap.size w (w.alloc (.cells #[.int .i64 l, .int .i64 num, .int .i64 den, .int .i64 b] 28)) := (Below.refl _ _).alloc nlr _
  have X := Blk.new w #[.int .i64 l, .int .i64 num, .int .i64 den, .int .i64 b] 28
  have hsx : (w.alloc (.cells #[.int .i64 l, .int .i64 num, .int .i64 den, .int .i64 b] 28)).heap.size = w.heap.size + 1 := by simp
  generalize wantB l num den = W at *
  obtain ⟨n1, n2⟩ := bn
  obtain ⟨d1, d2⟩ := bd
  obtain ⟨u, eu⟩ : ∃ u, uniB l = u := ⟨_, rfl⟩
  rw [eu] at U HW
  clear eu
  cases u
  · have e := HW.out; simp at e; subst e
    go_enter Tryz.func48, Tryz.ntmps48
    go_wp2_with fail
    refine (U.out _).mono ?_
    rintro e w' ⟨rfl, rfl⟩
    go_wp2_with fail
    go_ret
    exact ⟨rfl, hbx⟩
  · by_cases h1 : 1 ≤ num <;> by_cases h2 : 1 ≤ den
    all_goals
      have e := HW.out
      simp [h1, h2] at e
      subst e
      go_enter Tryz.func48, Tryz.ntmps48
      go_wp2_with fail
      refine (U.out _).mono ?_
      rintro e w' ⟨rfl, rfl⟩
      generalize (w.alloc (.cells #[.int .i64 l, .int .i64 num, .int .i64 den, .int .i64 b] 28)) = w1 at *
      have x0w1 : w1.cell? ⟨w.heap.size, 0, none⟩ = some (.int .i64 l) := X.cell 0
      have x1w1 : w1.cell? ⟨w.heap.size, 1, none⟩ = some (.int .i64 num) := X.cell 1
      have x2w1 : w1.cell? ⟨w.heap.size, 2, none⟩ = some (.int .i64 den) := X.cell 2
      have x3w1 : w1.cell? ⟨w.heap.size, 3, none⟩ = some (.int .i64 b) := X.cell 3
      go_wp2_with fail
      go_ret
      exact ⟨ret_bool (by simp <;> omega), hbx⟩
theorem pa_least (l num den b : Int) (w : World) (bl : In64 l) (bn : In64 num) (bd : In64 den) (bb : In64 b) :
    Calls Tryz.prog 21 #[.agg #[.int .i64 l, .int .i64 num, .int .i64 den, .int .i64 b]] w fun e w' => e = .returned (.tuple #[.int .i64 (leastV l num den), .int .i64 (leastE l num den)]) ∧ Below w.heap.size w w' := by
  have U := hid (fun W : World => pa_want l num den b W bl bn bd bb)
  have Pp := hid (fun W : World => partup_any l den num W bl.1 bl.2 bd.1 bd.2 bn.1 bn.2)
  have M := hid (fun W : World => pa_may (partUpV l den num) W)
  have ub := up_bd l num den
  have UK := hid (@up_isK l num den)
  have hbx : Below w.heap.size w (w.alloc (.cells #[.int .i64 l, .int .i64 num, .int .i64 den, .int .i64 b] 28)) := (Below.refl _ _).alloc nlr _
  have X := Blk.new w #[.int .i64 l, .int .i64 num, .int .i64 den, .int .i64 b] 28
  have hsx : (w.alloc (.cells #[.int .i64 l, .int .i64 num, .int .i64 den, .int .i64 b] 28)).heap.size = w.heap.size + 1 := by simp
  have HE : Hid (leastE l num den = if wantB l num den then (if partUpOk l den num && isK (partUpV l den num) then 0 else 14) else 2) := rfl
  have HV : Hid (leastV l num den = if wantB l num den && (partUpOk l den num && isK (partUpV l den num)) then partUpV l den num else 0) := rfl
  generalize leastE l num den = E at *
  generalize leastV l num den = V at *
  obtain ⟨W, eW⟩ : ∃ W, wantB l num den = W := ⟨_, rfl⟩
  rw [eW] at U HE HV UK
  clear eW
  cases W
  · have e := HE.out; have e2 := HV.out
    simp at e e2; subst e e2
    clear HE HV
    go_enter Tryz.func21, Tryz.ntmps21
    go_wp2_with fail
    refine (U.out _).mono ?_
    rintro e w2 ⟨rfl, hb2⟩
    go_wp2_with fail
    go_ret2
    exact ⟨rfl, hbx.trans (hb2.mono (by omega))⟩
  · obtain ⟨o, eo⟩ : ∃ o, partUpOk l den num = o := ⟨_, rfl⟩
    rw [eo] at Pp HE HV UK
    clear eo
    have uk := UK.out rfl
    generalize partUpV l den num = p at *
    cases o
    · have e := HE.out; have e2 := HV.out
      simp at e e2; subst e e2
      clear HE HV uk
      go_enter Tryz.func21, Tryz.ntmps21
      go_wp2_with fail
      refine (U.out _).mono ?_
      rintro e w2 ⟨rfl, hb2⟩
      have hs2 := hb2.size
      have X2 := X.below hb2 nlr
      have x0w2 : w2.cell? ⟨w.heap.size, 0, none⟩ = some (.int .i64 l) := X2.cell 0
      have x1w2 : w2.cell? ⟨w.heap.size, 1, none⟩ = some (.int .i64 num) := X2.cell 1
      have x2w2 : w2.cell? ⟨w.heap.size, 2, none⟩ = some (.int .i64 den) := X2.cell 2
      have x3w2 : w2.cell? ⟨w.heap.size, 3, none⟩ = some (.int .i64 b) := X2.cell 3
      go_wp2_with fail
      refine (Pp.out _).mono ?_
      rintro e w3 ⟨rfl, hb3⟩
      go_wp2_with fail
      go_ret2
      exact ⟨rfl, (hbx.trans (hb2.mono (by omega))).trans (hb3.below _)⟩
    · have uk := uk rfl
      rw [uk] at M HE HV
      obtain ⟨bp, ebp⟩ : ∃ bp, decide (p ≤ 1048576) = bp := ⟨_, rfl⟩
      have hp1 : bp = true → p ≤ 1048576 := fun e => by rw [e] at ebp; simpa using ebp
      have hp0 : bp = false → 1048576 < p := fun e => by rw [e] at ebp; simpa using ebp
      rw [ebp] at M HE HV
      cases bp
      all_goals
        first | have hp := hp1 rfl | have hp := hp0 rfl
        have e := HE.out; have e2 := HV.out
        simp at e e2
        clear HE HV uk UK hp1 hp0
        rw [e, e2]
        clear e e2
        go_enter Tryz.func21, Tryz.ntmps21
        go_wp2_with fail
        refine (U.out _).mono ?_
        rintro e w2 ⟨rfl, hb2⟩
        have hs2 := hb2.size
        have X2 := X.below hb2 nlr
        have x0w2 : w2.cell? ⟨w.heap.size, 0, none⟩ = some (.int .i64 l) := X2.cell 0
        have x1w2 : w2.cell? ⟨w.heap.size, 1, none⟩ = some (.int .i64 num) := X2.cell 1
        have x2w2 : w2.cell? ⟨w.heap.size, 2, none⟩ = some (.int .i64 den) := X2.cell 2
        have x3w2 : w2.cell? ⟨w.heap.size, 3, none⟩ = some (.int .i64 b) := X2.cell 3
        go_wp2_with fail
        refine (Pp.out _).mono ?_
        rintro e w3 ⟨rfl, hb3⟩
        go_wp2_with fail
        refine (M.out _).mono ?_
        rintro e w4 ⟨rfl, rfl⟩
        go_wp2_with fail
        go_ret2
        exact ⟨rfl, (hbx.trans (hb2.mono (by omega))).trans (hb3.below _)⟩
theorem pa_k (l num den b : Int) (w : World) (bl : In64 l) (bn : In64 num) (bd : In64 den) (bb : In64 b) :
    Calls Tryz.prog 4 #[.agg #[.int .i64 l, .int .i64 num, .int .i64 den, .int .i64 b]] w fun e w' => e = .returned (.tuple #[.int .i64 (kV l num den b), .int .i64 (kE l num den b)]) ∧ Below w.heap.size w w' := by
  have U := hid (fun W : World => pa_least l num den b W bl bn bd bb)
  have B := hid (fun W : World => pa_bytes (leastV l num den) W)
  have hbx : Below w.heap.size w (w.alloc (.cells #[.int .i64 l, .int .i64 num, .int .i64 den, .int .i64 b] 28)) := (Below.refl _ _).alloc nlr _
  have X := Blk.new w #[.int .i64 l, .int .i64 num, .int .i64 den, .int .i64 b] 28
  have hsx : (w.alloc (.cells #[.int .i64 l, .int .i64 num, .int .i64 den, .int .i64 b] 28)).heap.size = w.heap.size + 1 := by simp
  have HE : Hid (kE l num den b = if leastE l num den = 0 then (if b < bytesV (leastV l num den) then 14 else 0) else leastE l num den) := rfl
  have HV : Hid (kV l num den b = if leastE l num den = 0 then (if b < bytesV (leastV l num den) then 0 else leastV l num den) else 0) := rfl
  generalize kE l num den b = E at *
  generalize kV l num den b = V at *
  generalize leastE l num den = E0 at *
  generalize isK (leastV l num den) = ik at *
  generalize bytesV (leastV l num den) = bv at *
  generalize leastV l num den = V0 at *
  by_cases h0 : E0 = 0
  · subst h0
    by_cases hb : b < bv
    all_goals
      have e := HE.out; have e2 := HV.out
      simp [hb] at e e2; subst e e2
      clear HE HV
      go_enter Tryz.func4, Tryz.ntmps4
      go_wp2_with fail
      refine (U.out _).mono ?_
      rintro e w2 ⟨rfl, hb2⟩
      have X2 := X.below hb2 nlr
      have x0w2 : w2.cell? ⟨w.heap.size, 0, none⟩ = some (.int .i64 l) := X2.cell 0
      have x1w2 : w2.cell? ⟨w.heap.size, 1, none⟩ = some (.int .i64 num) := X2.cell 1
      have x2w2 : w2.cell? ⟨w.heap.size, 2, none⟩ = some (.int .i64 den) := X2.cell 2
      have x3w2 : w2.cell? ⟨w.heap.size, 3, none⟩ = some (.int .i64 b) := X2.cell 3
      go_wp2_with fail
      refine (B.out _).mono ?_
      rintro e w3 ⟨rfl, rfl⟩
      go_wp2_with fail
      go_ret2
      exact ⟨rfl, hbx.trans (hb2.mono (by omega))⟩
  · have e := HE.out; have e2 := HV.out
    simp [h0] at e e2; subst e e2
    clear HE HV
    have h0' : (E == 0) = false := by simpa using h0
    have h0'' : (E != 0) = true := by simpa using h0
    go_enter Tryz.func4, Tryz.ntmps4
    go_wp2_with fail
    refine (U.out _).mono ?_
    rintro e w2 ⟨rfl, hb2⟩
    go_wp2_with fail
    go_ret2
    exact ⟨rfl, hbx.trans (hb2.mono (by omega))⟩
theorem pa_within (l num den b k n : Int) (w : World) (bl : In64 l) (bn : In64 num) (bd : In64 den) (bb : In64 b) (bk : In64 k) (bm : In64 n) :
    Calls Tryz.prog 18 #[.agg #[.int .i64 l, .int .i64 num, .int .i64 den, .int .i64 b], .int .i64 k, .int .i64 n] w fun e w' => e = .returned (.bool (withinB l num den k n)) ∧ Below w.heap.size w w' := by
  have U := hid (fun W : World => pa_want l num den b W bl bn bd bb)
  have Er := hid (fun W : World => pa_error l k n W bl bk bm)
  have eb := errV_bd l k n
  have O := hid (fun W : World => order_any (errV l k n) den n num W (by omega) (by omega) bd.1 bd.2 bm.1 bm.2 bn.1 bn.2)
  have hbx : Below w.heap.size w (w.alloc (.cells #[.int .i64 l, .int .i64 num, .int .i64 den, .int .i64 b] 28)) := (Below.refl _ _).alloc nlr _
  have X := Blk.new w #[.int .i64 l, .int .i64 num, .int .i64 den, .int .i64 b] 28
  have hsx : (w.alloc (.cells #[.int .i64 l, .int .i64 num, .int .i64 den, .int .i64 b] 28)).heap.size = w.heap.size + 1 := by simp
  have HW : Hid (withinB l num den k n = (errOk l k n && (wantB l num den && decide (orderV (errV l k n) den n num ≤ 0)))) := rfl
  generalize withinB l num den k n = R at *
  generalize wantB l num den = W at *
  generalize errOk l k n = o at *
  generalize orderOk (errV l k n) den n num = oo at *
  generalize orderV (errV l k n) den n num = ov at *
  generalize errV l k n = ev at *
  cases o <;> cases W
  all_goals
    have e := HW.out
    simp at e; subst e
    clear HW
    go_enter Tryz.func18, Tryz.ntmps18
    go_wp2_with fail
    refine (Er.out _).mono ?_
    rintro e w2 ⟨rfl, rfl⟩
    generalize (w.alloc (.cells #[.int .i64 l, .int .i64 num, .int .i64 den, .int .i64 b] 28)) = w1 at *
    have x0w1 : w1.cell? ⟨w.heap.size, 0, none⟩ = some (.int .i64 l) := X.cell 0
    have x1w1 : w1.cell? ⟨w.heap.size, 1, none⟩ = some (.int .i64 num) := X.cell 1
    have x2w1 : w1.cell? ⟨w.heap.size, 2, none⟩ = some (.int .i64 den) := X.cell 2
    have x3w1 : w1.cell? ⟨w.heap.size, 3, none⟩ = some (.int .i64 b) := X.cell 3
    go_wp2_with fail
    first
      | (go_ret; exact ⟨rfl, hbx⟩; done)
      | (refine (U.out _).mono ?_
         rintro e w2 ⟨rfl, hb2⟩
         have hs2 := hb2.size
         have X2 := X.below hb2 nlr
         have x0w2 : w2.cell? ⟨w.heap.size, 0, none⟩ = some (.int .i64 l) := X2.cell 0
         have x1w2 : w2.cell? ⟨w.heap.size, 1, none⟩ = some (.int .i64 num) := X2.cell 1
         have x2w2 : w2.cell? ⟨w.heap.size, 2, none⟩ = some (.int .i64 den) := X2.cell 2
         have x3w2 : w2.cell? ⟨w.heap.size, 3, none⟩ = some (.int .i64 b) := X2.cell 3
         go_wp2_with fail
         first
           | (go_ret; exact ⟨rfl, hbx.trans (hb2.mono (by omega))⟩; done)
           | (refine (O.out _).mono ?_
              rintro e w3 ⟨rfl, rfl⟩
              go_wp2_with fail
              go_ret
              exact ⟨rfl, hbx.trans (hb2.mono (by omega))⟩))
end Go.Proofs.YtdnlejboijkcfaaGreatDoor
end
section
namespace Go.Proofs.YtdnlejboijkcfaaGreatDoor
set_option maxHeartbeats 8000000
set_option maxRecDepth 100000
open Go.RowKit Rk
namespace Rk
end Rk
end Go.Proofs.YtdnlejboijkcfaaGreatDoor
end
section
namespace Go.Proofs.YtdnlejboijkcfaaGreatDoor
set_option maxHeartbeats 8000000
set_option maxRecDepth 100000
open Go.RowKit Rk
end Go.Proofs.YtdnlejboijkcfaaGreatDoor
end
section
namespace Go.Proofs.YtdnlejboijkcfaaGreatDoor
set_option maxHeartbeats 8000000
set_option maxRecDepth 100000
open Go.RowKit Rk
namespace Rk
theorem up_spec {x n : Int} (_hx : 0 ≤ x) (hn : 1 ≤ n) : x ≤ upq x n * n ∧ (upq x n - 1) * n < x ∨ x ≤ upq x n * n ∧ x = 0 := by
  have h1 := Int.mul_ediv_add_emod x n
  have h2 := Int.emod_nonneg x (show n ≠ 0 by omega)
  have h3 := Int.emod_lt_of_pos x (show 0 < n by omega)
  unfold upq
  have e1 : n * (x / n) = (x / n) * n := Int.mul_comm _ _
  by_cases h : 0 < x % n
  · rw [if_pos h]
    have e2 : (x / n + 1) * n = x / n * n + n := by rw [Int.add_mul]; omega
    have e3 : (x / n + 1 - 1) * n = x / n * n := by rw [Int.add_sub_cancel]
    left; rw [e2, e3]; omega
  · rw [if_neg h]
    have e3 : (x / n - 1) * n = x / n * n - n := by rw [Int.sub_mul]; omega
    left; rw [e3]; omega
theorem least_facts {l num den b : Int} (h : kE l num den b = 0) : 1 ≤ kV l num den b ∧ kV l num den b ≤ 1048576 ∧ bytesV (kV l num den b) ≤ b ∧ wantB l num den = true ∧ l * den ≤ kV l num den b * num ∧ (kV l num den b - 1) * num < l * den := by
  unfold kE at h
  by_cases h0 : leastE l num den = 0
  · rw [if_pos h0] at h
    by_cases hb : b < bytesV (leastV l num den)
    · rw [if_pos hb] at h; omega
    · have ek : kV l num den b = leastV l num den := by unfold kV; rw [if_pos h0, if_neg hb]
      rw [ek]
      unfold leastE at h0
      by_cases hw : wantB l num den = true
      · rw [if_pos hw] at h0
        by_cases ho : (partUpOk l den num && isK (partUpV l den num)) = true
        · have el : leastV l num den = partUpV l den num := by unfold leastV; rw [hw, ho]; rfl
          rw [el] at hb ⊢
          simp only [Bool.and_eq_true] at ho
          obtain ⟨h3, h4⟩ := want_up hw
          have hp : partUpV l den num = upq (l * den) num := by
            have := ho.1
            unfold partUpOk at this
            unfold partUpV
            rw [h3] at this ⊢
            simp only [Bool.true_and, capOk, decide_eq_true_eq] at this
            simp only [if_true, capV]
            rw [if_pos this]
          have hk := ho.2
          simp only [isK, decide_eq_true_eq] at hk
          have hw' := hw
          simp only [wantB, uniB, Bool.and_eq_true, decide_eq_true_eq] at hw'
          obtain ⟨⟨⟨a1, a2⟩, b1⟩, c1⟩ := hw'
          have h5 : 1 * 1 ≤ l * den := Int.mul_le_mul a1 c1 (by omega) (by omega)
          have hs := up_spec (x := l * den) (n := num) (by omega) b1
          rw [hp] at hk hb ⊢
          refine ⟨hk.1, hk.2, by omega, hw, ?_, ?_⟩
          · rcases hs with h | h <;> exact h.1
          · rcases hs with h | h
            · exact h.2
            · omega
        · rw [if_neg ho] at h0; omega
      · rw [if_neg hw] at h0; omega
  · rw [if_neg h0] at h; omega
theorem least_none {l num den b : Int} (h : kE l num den b ≠ 0) : kV l num den b = 0 := by
  unfold kE at h
  unfold kV
  by_cases h0 : leastE l num den = 0
  · rw [if_pos h0] at h ⊢
    by_cases hb : b < bytesV (leastV l num den)
    · rw [if_pos hb]
    · rw [if_neg hb] at h; omega
  · rw [if_neg h0]
theorem within_of {l num den k n : Int} (hw : wantB l num den = true) (h1 : 1 ≤ k) (h2 : k ≤ 1048576) (h3 : l * den ≤ k * num) (n0 : 0 ≤ n) (n1 : n ≤ 72057594037927935) : withinB l num den k n = true := by
  have hw' := hw
  simp only [wantB, uniB, Bool.and_eq_true, decide_eq_true_eq] at hw'
  obtain ⟨⟨⟨a1, a2⟩, b1⟩, c1⟩ := hw'
  have ho : errOk l k n = true := by simp [errOk, uniB, isK]; omega
  have ev : errV l k n = l * (n / k) := by unfold errV; rw [ho]; rfl
  have eb := errV_bd l k n
  unfold withinB
  rw [ho, hw, ev]
  rw [ev] at eb
  have q0 : 0 ≤ n / k := Int.ediv_nonneg n0 (by omega)
  have e1 : l * (n / k) * den = l * den * (n / k) := by rw [Int.mul_assoc, Int.mul_comm (n / k), ← Int.mul_assoc]
  have e2 : l * den * (n / k) ≤ k * num * (n / k) := Int.mul_le_mul_of_nonneg_right h3 q0
  have e3 : k * num * (n / k) = k * (n / k) * num := by rw [Int.mul_assoc, Int.mul_comm num, ← Int.mul_assoc]
  have e4 : k * (n / k) ≤ n := Int.mul_ediv_self_le (by omega)
  have e5 : k * (n / k) * num ≤ n * num := Int.mul_le_mul_of_nonneg_right e4 (by omega)
  have hle : l * (n / k) * den ≤ n * num := by omega
  have : orderV (l * (n / k)) den n num ≤ 0 := by
    unfold orderV sgn
    split
    · split
      · omega
      · rw [if_neg (by omega)]; omega
    · omega
  simp [this]
end Rk
end Go.Proofs.YtdnlejboijkcfaaGreatDoor
end
