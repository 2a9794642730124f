/- The walks of plan.Right, Least, K, Within, and of their references. -/
import Derived.Test.YtaihjcefgokjkaaPa2
namespace Go.Proofs.Ytaihjcefgokjkaa
open Go.RowKit Rk

namespace Rk
def leastE (l num den : Int) : Int := if wantB l num den then (if partUpOk l den num && isK (partUpV l den num) then 0 else 14) else 2
def leastV (l num den : Int) : Int := if wantB l num den && (partUpOk l den num && isK (partUpV l den num)) then partUpV l den num else 0
def kE (l num den b : Int) : Int := if leastE l num den = 0 then (if b < bytesV (leastV l num den) then 14 else 0) else leastE l num den
def kV (l num den b : Int) : Int := if leastE l num den = 0 then (if b < bytesV (leastV l num den) then 0 else leastV l num den) else 0
def withinB (l num den k n : Int) : Bool := errOk l k n && (wantB l num den && decide (orderV (errV l k n) den n num ≤ 0))
theorem want_up {l num den : Int} (h : wantB l num den = true) : asked l den num = true ∧ 1 ≤ upq (l * den) num := by
  simp only [wantB, uniB, Bool.and_eq_true, decide_eq_true_eq] at h
  obtain ⟨⟨⟨a1, a2⟩, b⟩, c⟩ := h
  refine ⟨by simp [asked]; omega, ?_⟩
  have h1 : 1 * 1 ≤ l * den := Int.mul_le_mul a1 c (by omega) (by omega)
  have h2 : 0 ≤ l * den / num := Int.ediv_nonneg (by omega) (by omega)
  unfold upq
  by_cases h3 : 0 < l * den % num
  · rw [if_pos h3]; omega
  · rw [if_neg h3]
    have h4 := Int.emod_nonneg (l * den) (show num ≠ 0 by omega)
    have h5 := Int.mul_ediv_add_emod (l * den) num
    have h6 : l * den % num = 0 := by omega
    rw [h6] at h5
    by_cases h7 : 1 ≤ l * den / num
    · exact h7
    · have : l * den / num = 0 := by omega
      rw [this] at h5; simp at h5; omega
theorem up_bd (l num den : Int) : 0 ≤ partUpV l den num ∧ partUpV l den num ≤ 9223372036854775807 := by
  unfold partUpV
  split
  · rename_i h
    simp only [asked, decide_eq_true_eq] at h
    have h2 : 0 ≤ l * den / num := Int.ediv_nonneg (Int.mul_nonneg h.1 h.2.1) (by omega)
    unfold capV upq
    split <;> split <;> omega
  · omega
theorem up_isK {l num den : Int} (h : wantB l num den = true) (h2 : partUpOk l den num = true) : isK (partUpV l den num) = decide (partUpV l den num ≤ 1048576) := by
  obtain ⟨h3, h4⟩ := want_up h
  have h5 : 1 ≤ partUpV l den num := by
    unfold partUpOk at h2
    unfold partUpV
    rw [h3] at h2 ⊢
    simp only [Bool.true_and, capOk, decide_eq_true_eq] at h2
    simp only [if_true, capV]
    rw [if_pos h2]; exact h4
  simp [isK]; omega
end Rk

def Wnt (l num den b : Int) : Value := .agg #[.int .i64 l, .int .i64 num, .int .i64 den, .int .i64 b]
theorem wnt (l num den b : Int) : Wnt l num den b = .agg #[.int .i64 l, .int .i64 num, .int .i64 den, .int .i64 b] := rfl
set_option maxRecDepth 100000 in
set_option maxHeartbeats 1000000 in
theorem pa_want (l num den b : Int) (w : World) (bl : In64 l) (bn : In64 num) (bd : In64 den) (_bb : In64 b) :
    Calls Try.prog 21 #[.agg #[.int .i64 l, .int .i64 num, .int .i64 den, .int .i64 b]] w fun e w' => e = .returned (.bool (wantB l num den)) ∧ Below w.heap.size w w' := by
  have U := hid (fun W : World => pa_universe l W bl)
  have HW : Hid (wantB l num den = (uniB l && decide (1 ≤ num) && decide (1 ≤ den))) := rfl
  have hbx : Below w.heap.size w (w.alloc (.cells #[.int .i64 l, .int .i64 num, .int .i64 den, .int .i64 b] 23)) := (Below.refl _ _).alloc (Nat.le_refl _) _
  have X := Blk.new w #[.int .i64 l, .int .i64 num, .int .i64 den, .int .i64 b] 23
  have hsx : (w.alloc (.cells #[.int .i64 l, .int .i64 num, .int .i64 den, .int .i64 b] 23)).heap.size = w.heap.size + 1 := by simp
  generalize wantB l num den = W at *
  obtain ⟨n1, n2⟩ := bn
  obtain ⟨d1, d2⟩ := bd
  obtain ⟨u, eu⟩ : ∃ u, uniB l = u := ⟨_, rfl⟩
  rw [eu] at U HW
  clear eu
  cases u
  · have e := HW.out; simp at e; subst e
    go_enter Try.func21, Try.ntmps21
    go_wp2_with fail
    refine (U.out _).mono ?_
    rintro e w' ⟨rfl, rfl⟩
    go_wp2_with fail
    go_ret
    exact ⟨rfl, hbx⟩
  · by_cases h1 : 1 ≤ num <;> by_cases h2 : 1 ≤ den
    all_goals
      have e := HW.out
      simp [h1, h2] at e
      subst e
      go_enter Try.func21, Try.ntmps21
      go_wp2_with fail
      refine (U.out _).mono ?_
      rintro e w' ⟨rfl, rfl⟩
      generalize (w.alloc (.cells #[.int .i64 l, .int .i64 num, .int .i64 den, .int .i64 b] 23)) = w1 at *
      have x0w1 : w1.cell? ⟨w.heap.size, 0, none⟩ = some (.int .i64 l) := X.cell 0
      have x1w1 : w1.cell? ⟨w.heap.size, 1, none⟩ = some (.int .i64 num) := X.cell 1
      have x2w1 : w1.cell? ⟨w.heap.size, 2, none⟩ = some (.int .i64 den) := X.cell 2
      have x3w1 : w1.cell? ⟨w.heap.size, 3, none⟩ = some (.int .i64 b) := X.cell 3
      go_wp2_with fail
      go_ret
      exact ⟨ret_bool (by simp <;> omega), hbx⟩
set_option maxRecDepth 100000 in
set_option maxHeartbeats 1000000 in
theorem pa_least (l num den b : Int) (w : World) (bl : In64 l) (bn : In64 num) (bd : In64 den) (bb : In64 b) :
    Calls Try.prog 7 #[.agg #[.int .i64 l, .int .i64 num, .int .i64 den, .int .i64 b]] w fun e w' => e = .returned (.tuple #[.int .i64 (leastV l num den), .int .i64 (leastE l num den)]) ∧ Below w.heap.size w w' := by
  have U := hid (fun W : World => pa_want l num den b W bl bn bd bb)
  have Pp := hid (fun W : World => partup_any l den num W bl.1 bl.2 bd.1 bd.2 bn.1 bn.2)
  have M := hid (fun W : World => pa_may (partUpV l den num) W)
  have ub := up_bd l num den
  have UK := hid (@up_isK l num den)
  have hbx : Below w.heap.size w (w.alloc (.cells #[.int .i64 l, .int .i64 num, .int .i64 den, .int .i64 b] 23)) := (Below.refl _ _).alloc (Nat.le_refl _) _
  have X := Blk.new w #[.int .i64 l, .int .i64 num, .int .i64 den, .int .i64 b] 23
  have hsx : (w.alloc (.cells #[.int .i64 l, .int .i64 num, .int .i64 den, .int .i64 b] 23)).heap.size = w.heap.size + 1 := by simp
  have HE : Hid (leastE l num den = if wantB l num den then (if partUpOk l den num && isK (partUpV l den num) then 0 else 14) else 2) := rfl
  have HV : Hid (leastV l num den = if wantB l num den && (partUpOk l den num && isK (partUpV l den num)) then partUpV l den num else 0) := rfl
  generalize leastE l num den = E at *
  generalize leastV l num den = V at *
  obtain ⟨W, eW⟩ : ∃ W, wantB l num den = W := ⟨_, rfl⟩
  rw [eW] at U HE HV UK
  clear eW
  cases W
  · have e := HE.out; have e2 := HV.out
    simp at e e2; subst e e2
    clear HE HV
    go_enter Try.func7, Try.ntmps7
    go_wp2_with fail
    refine (U.out _).mono ?_
    rintro e w2 ⟨rfl, hb2⟩
    go_wp2_with fail
    go_ret2
    exact ⟨rfl, hbx.trans (hb2.mono (by omega))⟩
  · obtain ⟨o, eo⟩ : ∃ o, partUpOk l den num = o := ⟨_, rfl⟩
    rw [eo] at Pp HE HV UK
    clear eo
    have uk := UK.out rfl
    generalize partUpV l den num = p at *
    cases o
    · have e := HE.out; have e2 := HV.out
      simp at e e2; subst e e2
      clear HE HV uk
      go_enter Try.func7, Try.ntmps7
      go_wp2_with fail
      refine (U.out _).mono ?_
      rintro e w2 ⟨rfl, hb2⟩
      have hs2 := hb2.size
      have X2 := X.below hb2 (Nat.le_refl _)
      have x0w2 : w2.cell? ⟨w.heap.size, 0, none⟩ = some (.int .i64 l) := X2.cell 0
      have x1w2 : w2.cell? ⟨w.heap.size, 1, none⟩ = some (.int .i64 num) := X2.cell 1
      have x2w2 : w2.cell? ⟨w.heap.size, 2, none⟩ = some (.int .i64 den) := X2.cell 2
      have x3w2 : w2.cell? ⟨w.heap.size, 3, none⟩ = some (.int .i64 b) := X2.cell 3
      go_wp2_with fail
      refine (Pp.out _).mono ?_
      rintro e w3 ⟨rfl, hb3⟩
      go_wp2_with fail
      go_ret2
      exact ⟨rfl, (hbx.trans (hb2.mono (by omega))).trans (hb3.below _)⟩
    · have uk := uk rfl
      rw [uk] at M HE HV
      obtain ⟨bp, ebp⟩ : ∃ bp, decide (p ≤ 1048576) = bp := ⟨_, rfl⟩
      have hp1 : bp = true → p ≤ 1048576 := fun e => by rw [e] at ebp; simpa using ebp
      have hp0 : bp = false → 1048576 < p := fun e => by rw [e] at ebp; simpa using ebp
      rw [ebp] at M HE HV
      cases bp
      all_goals
        first | have hp := hp1 rfl | have hp := hp0 rfl
        have e := HE.out; have e2 := HV.out
        simp at e e2
        clear HE HV uk UK hp1 hp0
        rw [e, e2]
        clear e e2
        go_enter Try.func7, Try.ntmps7
        go_wp2_with fail
        refine (U.out _).mono ?_
        rintro e w2 ⟨rfl, hb2⟩
        have hs2 := hb2.size
        have X2 := X.below hb2 (Nat.le_refl _)
        have x0w2 : w2.cell? ⟨w.heap.size, 0, none⟩ = some (.int .i64 l) := X2.cell 0
        have x1w2 : w2.cell? ⟨w.heap.size, 1, none⟩ = some (.int .i64 num) := X2.cell 1
        have x2w2 : w2.cell? ⟨w.heap.size, 2, none⟩ = some (.int .i64 den) := X2.cell 2
        have x3w2 : w2.cell? ⟨w.heap.size, 3, none⟩ = some (.int .i64 b) := X2.cell 3
        go_wp2_with fail
        refine (Pp.out _).mono ?_
        rintro e w3 ⟨rfl, hb3⟩
        go_wp2_with fail
        refine (M.out _).mono ?_
        rintro e w4 ⟨rfl, rfl⟩
        go_wp2_with fail
        go_ret2
        exact ⟨rfl, (hbx.trans (hb2.mono (by omega))).trans (hb3.below _)⟩
set_option maxRecDepth 100000 in
set_option maxHeartbeats 1000000 in
theorem pa_k (l num den b : Int) (w : World) (bl : In64 l) (bn : In64 num) (bd : In64 den) (bb : In64 b) :
    Calls Try.prog 12 #[.agg #[.int .i64 l, .int .i64 num, .int .i64 den, .int .i64 b]] w fun e w' => e = .returned (.tuple #[.int .i64 (kV l num den b), .int .i64 (kE l num den b)]) ∧ Below w.heap.size w w' := by
  have U := hid (fun W : World => pa_least l num den b W bl bn bd bb)
  have B := hid (fun W : World => pa_bytes (leastV l num den) W)
  have hbx : Below w.heap.size w (w.alloc (.cells #[.int .i64 l, .int .i64 num, .int .i64 den, .int .i64 b] 23)) := (Below.refl _ _).alloc (Nat.le_refl _) _
  have X := Blk.new w #[.int .i64 l, .int .i64 num, .int .i64 den, .int .i64 b] 23
  have hsx : (w.alloc (.cells #[.int .i64 l, .int .i64 num, .int .i64 den, .int .i64 b] 23)).heap.size = w.heap.size + 1 := by simp
  have HE : Hid (kE l num den b = if leastE l num den = 0 then (if b < bytesV (leastV l num den) then 14 else 0) else leastE l num den) := rfl
  have HV : Hid (kV l num den b = if leastE l num den = 0 then (if b < bytesV (leastV l num den) then 0 else leastV l num den) else 0) := rfl
  generalize kE l num den b = E at *
  generalize kV l num den b = V at *
  generalize leastE l num den = E0 at *
  generalize isK (leastV l num den) = ik at *
  generalize bytesV (leastV l num den) = bv at *
  generalize leastV l num den = V0 at *
  by_cases h0 : E0 = 0
  · subst h0
    by_cases hb : b < bv
    all_goals
      have e := HE.out; have e2 := HV.out
      simp [hb] at e e2; subst e e2
      clear HE HV
      go_enter Try.func12, Try.ntmps12
      go_wp2_with fail
      refine (U.out _).mono ?_
      rintro e w2 ⟨rfl, hb2⟩
      have X2 := X.below hb2 (Nat.le_refl _)
      have x0w2 : w2.cell? ⟨w.heap.size, 0, none⟩ = some (.int .i64 l) := X2.cell 0
      have x1w2 : w2.cell? ⟨w.heap.size, 1, none⟩ = some (.int .i64 num) := X2.cell 1
      have x2w2 : w2.cell? ⟨w.heap.size, 2, none⟩ = some (.int .i64 den) := X2.cell 2
      have x3w2 : w2.cell? ⟨w.heap.size, 3, none⟩ = some (.int .i64 b) := X2.cell 3
      go_wp2_with fail
      refine (B.out _).mono ?_
      rintro e w3 ⟨rfl, rfl⟩
      go_wp2_with fail
      go_ret2
      exact ⟨rfl, hbx.trans (hb2.mono (by omega))⟩
  · have e := HE.out; have e2 := HV.out
    simp [h0] at e e2; subst e e2
    clear HE HV
    have h0' : (E == 0) = false := by simpa using h0
    have h0'' : (E != 0) = true := by simpa using h0
    go_enter Try.func12, Try.ntmps12
    go_wp2_with fail
    refine (U.out _).mono ?_
    rintro e w2 ⟨rfl, hb2⟩
    go_wp2_with fail
    go_ret2
    exact ⟨rfl, hbx.trans (hb2.mono (by omega))⟩
set_option maxRecDepth 100000 in
set_option maxHeartbeats 1000000 in
theorem pa_within (l num den b k n : Int) (w : World) (bl : In64 l) (bn : In64 num) (bd : In64 den) (bb : In64 b) (bk : In64 k) (bm : In64 n) :
    Calls Try.prog 23 #[.agg #[.int .i64 l, .int .i64 num, .int .i64 den, .int .i64 b], .int .i64 k, .int .i64 n] w fun e w' => e = .returned (.bool (withinB l num den k n)) ∧ Below w.heap.size w w' := by
  have U := hid (fun W : World => pa_want l num den b W bl bn bd bb)
  have Er := hid (fun W : World => pa_error l k n W bl bk bm)
  have eb := errV_bd l k n
  have O := hid (fun W : World => order_any (errV l k n) den n num W (by omega) (by omega) bd.1 bd.2 bm.1 bm.2 bn.1 bn.2)
  have hbx : Below w.heap.size w (w.alloc (.cells #[.int .i64 l, .int .i64 num, .int .i64 den, .int .i64 b] 23)) := (Below.refl _ _).alloc (Nat.le_refl _) _
  have X := Blk.new w #[.int .i64 l, .int .i64 num, .int .i64 den, .int .i64 b] 23
  have hsx : (w.alloc (.cells #[.int .i64 l, .int .i64 num, .int .i64 den, .int .i64 b] 23)).heap.size = w.heap.size + 1 := by simp
  have HW : Hid (withinB l num den k n = (errOk l k n && (wantB l num den && decide (orderV (errV l k n) den n num ≤ 0)))) := rfl
  generalize withinB l num den k n = R at *
  generalize wantB l num den = W at *
  generalize errOk l k n = o at *
  generalize orderOk (errV l k n) den n num = oo at *
  generalize orderV (errV l k n) den n num = ov at *
  generalize errV l k n = ev at *
  cases o <;> cases W
  all_goals
    have e := HW.out
    simp at e; subst e
    clear HW
    go_enter Try.func23, Try.ntmps23
    go_wp2_with fail
    refine (Er.out _).mono ?_
    rintro e w2 ⟨rfl, rfl⟩
    generalize (w.alloc (.cells #[.int .i64 l, .int .i64 num, .int .i64 den, .int .i64 b] 23)) = w1 at *
    have x0w1 : w1.cell? ⟨w.heap.size, 0, none⟩ = some (.int .i64 l) := X.cell 0
    have x1w1 : w1.cell? ⟨w.heap.size, 1, none⟩ = some (.int .i64 num) := X.cell 1
    have x2w1 : w1.cell? ⟨w.heap.size, 2, none⟩ = some (.int .i64 den) := X.cell 2
    have x3w1 : w1.cell? ⟨w.heap.size, 3, none⟩ = some (.int .i64 b) := X.cell 3
    go_wp2_with fail
    first
      | (go_ret; exact ⟨rfl, hbx⟩; done)
      | (refine (U.out _).mono ?_
         rintro e w2 ⟨rfl, hb2⟩
         have hs2 := hb2.size
         have X2 := X.below hb2 (Nat.le_refl _)
         have x0w2 : w2.cell? ⟨w.heap.size, 0, none⟩ = some (.int .i64 l) := X2.cell 0
         have x1w2 : w2.cell? ⟨w.heap.size, 1, none⟩ = some (.int .i64 num) := X2.cell 1
         have x2w2 : w2.cell? ⟨w.heap.size, 2, none⟩ = some (.int .i64 den) := X2.cell 2
         have x3w2 : w2.cell? ⟨w.heap.size, 3, none⟩ = some (.int .i64 b) := X2.cell 3
         go_wp2_with fail
         first
           | (go_ret; exact ⟨rfl, hbx.trans (hb2.mono (by omega))⟩; done)
           | (refine (O.out _).mono ?_
              rintro e w3 ⟨rfl, rfl⟩
              go_wp2_with fail
              go_ret
              exact ⟨rfl, hbx.trans (hb2.mono (by omega))⟩))
set_option maxRecDepth 100000 in
set_option maxHeartbeats 1000000 in
theorem r_want (l num den b : Int) (w : World) (_bl : In64 l) (bn : In64 num) (bd : In64 den) (_bb : In64 b) :
    Calls Try.prog 22 #[.agg #[.int .i64 l, .int .i64 num, .int .i64 den, .int .i64 b]] w fun e w' => e = .returned (.bool (wantB l num den)) ∧ Below w.heap.size w w' := by
  have U := hid (fun W : World => r_isL l W)
  have HW : Hid (wantB l num den = (uniB l && decide (1 ≤ num) && decide (1 ≤ den))) := rfl
  have hbx : Below w.heap.size w (w.alloc (.cells #[.int .i64 l, .int .i64 num, .int .i64 den, .int .i64 b] 29)) := (Below.refl _ _).alloc (Nat.le_refl _) _
  have X := Blk.new w #[.int .i64 l, .int .i64 num, .int .i64 den, .int .i64 b] 29
  have hsx : (w.alloc (.cells #[.int .i64 l, .int .i64 num, .int .i64 den, .int .i64 b] 29)).heap.size = w.heap.size + 1 := by simp
  generalize wantB l num den = W at *
  obtain ⟨n1, n2⟩ := bn
  obtain ⟨d1, d2⟩ := bd
  obtain ⟨u, eu⟩ : ∃ u, uniB l = u := ⟨_, rfl⟩
  rw [eu] at U HW
  clear eu
  cases u
  · have e := HW.out; simp at e; subst e
    go_enter Try.func22, Try.ntmps22
    go_wp2_with fail
    refine (U.out _).mono ?_
    rintro e w' ⟨rfl, rfl⟩
    go_wp2_with fail
    go_ret
    exact ⟨rfl, hbx⟩
  · by_cases h1 : 1 ≤ num <;> by_cases h2 : 1 ≤ den
    all_goals
      have e := HW.out
      simp [h1, h2] at e
      subst e
      go_enter Try.func22, Try.ntmps22
      go_wp2_with fail
      refine (U.out _).mono ?_
      rintro e w' ⟨rfl, rfl⟩
      generalize (w.alloc (.cells #[.int .i64 l, .int .i64 num, .int .i64 den, .int .i64 b] 29)) = w1 at *
      have x0w1 : w1.cell? ⟨w.heap.size, 0, none⟩ = some (.int .i64 l) := X.cell 0
      have x1w1 : w1.cell? ⟨w.heap.size, 1, none⟩ = some (.int .i64 num) := X.cell 1
      have x2w1 : w1.cell? ⟨w.heap.size, 2, none⟩ = some (.int .i64 den) := X.cell 2
      have x3w1 : w1.cell? ⟨w.heap.size, 3, none⟩ = some (.int .i64 b) := X.cell 3
      go_wp2_with fail
      go_ret
      exact ⟨ret_bool (by simp <;> omega), hbx⟩
set_option maxRecDepth 100000 in
set_option maxHeartbeats 1000000 in
theorem r_least (l num den b : Int) (w : World) (bl : In64 l) (bn : In64 num) (bd : In64 den) (bb : In64 b) :
    Calls Try.prog 8 #[.agg #[.int .i64 l, .int .i64 num, .int .i64 den, .int .i64 b]] w fun e w' => e = .returned (.tuple #[.int .i64 (leastV l num den), .int .i64 (leastE l num den)]) ∧ Below w.heap.size w w' := by
  have U := hid (fun W : World => r_want l num den b W bl bn bd bb)
  have Pp := hid (fun W : World => r_partup l den num W bl.1 bl.2 bd.1 bd.2 bn.1 bn.2)
  have M := hid (fun W : World => pa_may (partUpV l den num) W)
  have ub := up_bd l num den
  have UK := hid (@up_isK l num den)
  have hbx : Below w.heap.size w (w.alloc (.cells #[.int .i64 l, .int .i64 num, .int .i64 den, .int .i64 b] 29)) := (Below.refl _ _).alloc (Nat.le_refl _) _
  have X := Blk.new w #[.int .i64 l, .int .i64 num, .int .i64 den, .int .i64 b] 29
  have hsx : (w.alloc (.cells #[.int .i64 l, .int .i64 num, .int .i64 den, .int .i64 b] 29)).heap.size = w.heap.size + 1 := by simp
  have HE : Hid (leastE l num den = if wantB l num den then (if partUpOk l den num && isK (partUpV l den num) then 0 else 14) else 2) := rfl
  have HV : Hid (leastV l num den = if wantB l num den && (partUpOk l den num && isK (partUpV l den num)) then partUpV l den num else 0) := rfl
  generalize leastE l num den = E at *
  generalize leastV l num den = V at *
  obtain ⟨W, eW⟩ : ∃ W, wantB l num den = W := ⟨_, rfl⟩
  rw [eW] at U HE HV UK
  clear eW
  cases W
  · have e := HE.out; have e2 := HV.out
    simp at e e2; subst e e2
    clear HE HV
    go_enter Try.func8, Try.ntmps8
    go_wp2_with fail
    refine (U.out _).mono ?_
    rintro e w2 ⟨rfl, hb2⟩
    go_wp2_with fail
    go_ret2
    exact ⟨rfl, hbx.trans (hb2.mono (by omega))⟩
  · obtain ⟨o, eo⟩ : ∃ o, partUpOk l den num = o := ⟨_, rfl⟩
    rw [eo] at Pp HE HV UK
    clear eo
    have uk := UK.out rfl
    generalize partUpV l den num = p at *
    cases o
    · have e := HE.out; have e2 := HV.out
      simp at e e2; subst e e2
      clear HE HV uk
      go_enter Try.func8, Try.ntmps8
      go_wp2_with fail
      refine (U.out _).mono ?_
      rintro e w2 ⟨rfl, hb2⟩
      have hs2 := hb2.size
      have X2 := X.below hb2 (Nat.le_refl _)
      have x0w2 : w2.cell? ⟨w.heap.size, 0, none⟩ = some (.int .i64 l) := X2.cell 0
      have x1w2 : w2.cell? ⟨w.heap.size, 1, none⟩ = some (.int .i64 num) := X2.cell 1
      have x2w2 : w2.cell? ⟨w.heap.size, 2, none⟩ = some (.int .i64 den) := X2.cell 2
      have x3w2 : w2.cell? ⟨w.heap.size, 3, none⟩ = some (.int .i64 b) := X2.cell 3
      go_wp2_with fail
      refine (Pp.out _).mono ?_
      rintro e w3 ⟨rfl, hb3⟩
      go_wp2_with fail
      go_ret2
      exact ⟨rfl, (hbx.trans (hb2.mono (by omega))).trans (hb3.mono (by omega))⟩
    · have uk := uk rfl
      rw [uk] at M HE HV
      obtain ⟨bp, ebp⟩ : ∃ bp, decide (p ≤ 1048576) = bp := ⟨_, rfl⟩
      have hp1 : bp = true → p ≤ 1048576 := fun e => by rw [e] at ebp; simpa using ebp
      have hp0 : bp = false → 1048576 < p := fun e => by rw [e] at ebp; simpa using ebp
      rw [ebp] at M HE HV
      cases bp
      all_goals
        first | have hp := hp1 rfl | have hp := hp0 rfl
        have e := HE.out; have e2 := HV.out
        simp at e e2
        clear HE HV uk UK hp1 hp0
        rw [e, e2]
        clear e e2
        go_enter Try.func8, Try.ntmps8
        go_wp2_with fail
        refine (U.out _).mono ?_
        rintro e w2 ⟨rfl, hb2⟩
        have hs2 := hb2.size
        have X2 := X.below hb2 (Nat.le_refl _)
        have x0w2 : w2.cell? ⟨w.heap.size, 0, none⟩ = some (.int .i64 l) := X2.cell 0
        have x1w2 : w2.cell? ⟨w.heap.size, 1, none⟩ = some (.int .i64 num) := X2.cell 1
        have x2w2 : w2.cell? ⟨w.heap.size, 2, none⟩ = some (.int .i64 den) := X2.cell 2
        have x3w2 : w2.cell? ⟨w.heap.size, 3, none⟩ = some (.int .i64 b) := X2.cell 3
        go_wp2_with fail
        refine (Pp.out _).mono ?_
        rintro e w3 ⟨rfl, hb3⟩
        go_wp2_with fail
        
        
        
        go_ret2
        exact ⟨rfl, (hbx.trans (hb2.mono (by omega))).trans (hb3.mono (by omega))⟩
set_option maxRecDepth 100000 in
set_option maxHeartbeats 1000000 in
theorem r_k (l num den b : Int) (w : World) (bl : In64 l) (bn : In64 num) (bd : In64 den) (bb : In64 b) :
    Calls Try.prog 13 #[.agg #[.int .i64 l, .int .i64 num, .int .i64 den, .int .i64 b]] w fun e w' => e = .returned (.tuple #[.int .i64 (kV l num den b), .int .i64 (kE l num den b)]) ∧ Below w.heap.size w w' := by
  have U := hid (fun W : World => r_least l num den b W bl bn bd bb)
  have B := hid (fun W : World => r_bytes (leastV l num den) W)
  have hbx : Below w.heap.size w (w.alloc (.cells #[.int .i64 l, .int .i64 num, .int .i64 den, .int .i64 b] 29)) := (Below.refl _ _).alloc (Nat.le_refl _) _
  have X := Blk.new w #[.int .i64 l, .int .i64 num, .int .i64 den, .int .i64 b] 29
  have hsx : (w.alloc (.cells #[.int .i64 l, .int .i64 num, .int .i64 den, .int .i64 b] 29)).heap.size = w.heap.size + 1 := by simp
  have HE : Hid (kE l num den b = if leastE l num den = 0 then (if b < bytesV (leastV l num den) then 14 else 0) else leastE l num den) := rfl
  have HV : Hid (kV l num den b = if leastE l num den = 0 then (if b < bytesV (leastV l num den) then 0 else leastV l num den) else 0) := rfl
  generalize kE l num den b = E at *
  generalize kV l num den b = V at *
  generalize leastE l num den = E0 at *
  generalize isK (leastV l num den) = ik at *
  generalize bytesV (leastV l num den) = bv at *
  generalize leastV l num den = V0 at *
  by_cases h0 : E0 = 0
  · subst h0
    by_cases hb : b < bv
    all_goals
      have e := HE.out; have e2 := HV.out
      simp [hb] at e e2; subst e e2
      clear HE HV
      go_enter Try.func13, Try.ntmps13
      go_wp2_with fail
      refine (U.out _).mono ?_
      rintro e w2 ⟨rfl, hb2⟩
      have X2 := X.below hb2 (Nat.le_refl _)
      have x0w2 : w2.cell? ⟨w.heap.size, 0, none⟩ = some (.int .i64 l) := X2.cell 0
      have x1w2 : w2.cell? ⟨w.heap.size, 1, none⟩ = some (.int .i64 num) := X2.cell 1
      have x2w2 : w2.cell? ⟨w.heap.size, 2, none⟩ = some (.int .i64 den) := X2.cell 2
      have x3w2 : w2.cell? ⟨w.heap.size, 3, none⟩ = some (.int .i64 b) := X2.cell 3
      go_wp2_with fail
      refine (B.out _).mono ?_
      rintro e w3 ⟨rfl, rfl⟩
      go_wp2_with fail
      go_ret2
      exact ⟨rfl, hbx.trans (hb2.mono (by omega))⟩
  · have e := HE.out; have e2 := HV.out
    simp [h0] at e e2; subst e e2
    clear HE HV
    have h0' : (E == 0) = false := by simpa using h0
    have h0'' : (E != 0) = true := by simpa using h0
    go_enter Try.func13, Try.ntmps13
    go_wp2_with fail
    refine (U.out _).mono ?_
    rintro e w2 ⟨rfl, hb2⟩
    go_wp2_with fail
    go_ret2
    exact ⟨rfl, hbx.trans (hb2.mono (by omega))⟩
set_option maxRecDepth 100000 in
set_option maxHeartbeats 1000000 in
theorem r_within (l num den b k n : Int) (w : World) (bl : In64 l) (bn : In64 num) (bd : In64 den) (bb : In64 b) (bk : In64 k) (bm : In64 n) :
    Calls Try.prog 24 #[.agg #[.int .i64 l, .int .i64 num, .int .i64 den, .int .i64 b], .int .i64 k, .int .i64 n] w fun e w' => e = .returned (.bool (withinB l num den k n)) ∧ Below w.heap.size w w' := by
  have U := hid (fun W : World => r_want l num den b W bl bn bd bb)
  have Er := hid (fun W : World => r_error l k n W bl bk bm)
  have eb := errV_bd l k n
  have O := hid (fun W : World => r_order (errV l k n) den n num W (by omega) (by omega) bd.1 bd.2 bm.1 bm.2 bn.1 bn.2)
  have hbx : Below w.heap.size w (w.alloc (.cells #[.int .i64 l, .int .i64 num, .int .i64 den, .int .i64 b] 29)) := (Below.refl _ _).alloc (Nat.le_refl _) _
  have X := Blk.new w #[.int .i64 l, .int .i64 num, .int .i64 den, .int .i64 b] 29
  have hsx : (w.alloc (.cells #[.int .i64 l, .int .i64 num, .int .i64 den, .int .i64 b] 29)).heap.size = w.heap.size + 1 := by simp
  have HW : Hid (withinB l num den k n = (errOk l k n && (wantB l num den && decide (orderV (errV l k n) den n num ≤ 0)))) := rfl
  generalize withinB l num den k n = R at *
  generalize wantB l num den = W at *
  generalize errOk l k n = o at *
  generalize orderOk (errV l k n) den n num = oo at *
  generalize orderV (errV l k n) den n num = ov at *
  generalize errV l k n = ev at *
  cases o <;> cases W
  all_goals
    have e := HW.out
    simp at e; subst e
    clear HW
    go_enter Try.func24, Try.ntmps24
    go_wp2_with fail
    refine (Er.out _).mono ?_
    rintro e w2 ⟨rfl, rfl⟩
    generalize (w.alloc (.cells #[.int .i64 l, .int .i64 num, .int .i64 den, .int .i64 b] 29)) = w1 at *
    have x0w1 : w1.cell? ⟨w.heap.size, 0, none⟩ = some (.int .i64 l) := X.cell 0
    have x1w1 : w1.cell? ⟨w.heap.size, 1, none⟩ = some (.int .i64 num) := X.cell 1
    have x2w1 : w1.cell? ⟨w.heap.size, 2, none⟩ = some (.int .i64 den) := X.cell 2
    have x3w1 : w1.cell? ⟨w.heap.size, 3, none⟩ = some (.int .i64 b) := X.cell 3
    go_wp2_with fail
    first
      | (go_ret; exact ⟨rfl, hbx⟩; done)
      | (refine (U.out _).mono ?_
         rintro e w2 ⟨rfl, hb2⟩
         have hs2 := hb2.size
         have X2 := X.below hb2 (Nat.le_refl _)
         have x0w2 : w2.cell? ⟨w.heap.size, 0, none⟩ = some (.int .i64 l) := X2.cell 0
         have x1w2 : w2.cell? ⟨w.heap.size, 1, none⟩ = some (.int .i64 num) := X2.cell 1
         have x2w2 : w2.cell? ⟨w.heap.size, 2, none⟩ = some (.int .i64 den) := X2.cell 2
         have x3w2 : w2.cell? ⟨w.heap.size, 3, none⟩ = some (.int .i64 b) := X2.cell 3
         go_wp2_with fail
         first
           | (go_ret; exact ⟨rfl, hbx.trans (hb2.mono (by omega))⟩; done)
           | (refine (O.out _).mono ?_
              rintro e w3 ⟨rfl, hb3⟩
              go_wp2_with fail
              go_ret
              exact ⟨rfl, (hbx.trans (hb2.mono (by omega))).trans (hb3.mono (by omega))⟩))
set_option maxRecDepth 100000 in
set_option maxHeartbeats 1000000 in
theorem r_wants (l num den b : Int) (w : World) :
    Calls Try.prog 9 #[.agg #[.int .i64 l, .int .i64 num, .int .i64 den, .int .i64 b]] w fun e w' => e = .returned (.agg #[.int .i64 l, .int .i64 num, .int .i64 den, .int .i64 b]) ∧ Below w.heap.size w w' := by
  go_enter Try.func9, Try.ntmps9
  go_wp2_with fail
  exact bodyPost_ret (v := .agg #[.int .i64 l, .int .i64 num, .int .i64 den, .int .i64 b]) (by simp [results, Try.results9, go_sem]) rfl ⟨rfl, ((Below.refl _ _).alloc (Nat.le_refl _) _).alloc (by simp) _⟩
end Go.Proofs.Ytaihjcefgokjkaa
