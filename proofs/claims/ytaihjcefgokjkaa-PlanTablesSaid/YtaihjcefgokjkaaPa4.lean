/- The walks of plan.Greatest (by sort.Search) and of its reference. -/
import Derived.Test.YtaihjcefgokjkaaPa3
import Derived.Deep.LoopGhost
import Derived.Shelf.Abstract
namespace Go.Proofs.Ytaihjcefgokjkaa
open Go.RowKit Rk

namespace Rk
def greatV (b : Int) : Int := if b < 150 then 0 else if 1048576 ≤ (b - 78) / 72 then 1048576 else (b - 78) / 72
def greatE (b : Int) : Int := if greatV b = 0 then 14 else 0
theorem great_bd (b : Int) : 0 ≤ greatV b ∧ greatV b ≤ 1048576 := by unfold greatV; split <;> (try split) <;> omega
theorem great_iff {b k : Int} (h1 : 1 ≤ k) (h2 : k ≤ 1048576) : bytesV k ≤ b ↔ k ≤ greatV b := by
  have e : bytesV k = 78 + 72 * k := by unfold bytesV isK; rw [if_pos (by simp; omega)]
  rw [e]
  unfold greatV
  split <;> (try split) <;> omega
end Rk

set_option maxRecDepth 100000 in
set_option maxHeartbeats 400000 in
theorem pa_tell (i b : Int) (c : Nat) (w : World) (h0 : 0 ≤ i) (h1 : i < 1048576) (hc : w.cell? ⟨c, 0, none⟩ = some (.int .i64 b)) :
    Calls Try.prog 30 #[.int .i64 i, .pointer (some ⟨c, 0, none⟩)] w fun e w' => e = .returned (.bool (decide (greatV b ≤ i))) ∧ w = w' := by
  have B := hid (pa_bytes (i + 1) w)
  have HG := hid (@great_iff b (i + 1) (by omega) (by omega))
  generalize bytesV (i + 1) = n at *
  generalize isK (i + 1) = kk at *
  generalize greatV b = g at *
  go_enter Try.func30, Try.ntmps30
  go_wp2_with fail
  refine B.out.mono ?_
  rintro e w' ⟨rfl, rfl⟩
  go_wp2_with fail
  go_ret
  refine ⟨ret_bool ?_, rfl⟩
  have := HG.out
  rw [decide_eq_decide]
  omega

set_option maxRecDepth 100000 in
set_option maxHeartbeats 1000000 in
theorem pa_search (b : Int) (c : Nat) (w : World) (hc : w.cell? ⟨c, 0, none⟩ = some (.int .i64 b)) :
    Calls Try.prog 29 #[.int .i64 1048576, .func (.func 30) #[] #[.pointer (some ⟨c, 0, none⟩)]] w fun e w' => e = .returned (.int .i64 (greatV b)) ∧ w = w' := by
  have T := hid (fun i h0 h1 => pa_tell i b c w h0 h1 hc)
  have gb := great_bd b
  have hent := enters_of Try.func30 (by kernel_rfl) rfl
  generalize greatV b = g at *
  clear hc
  go_enter Try.func29, Try.ntmps29
  go_wp2_with fail
  go_loop [5, 6] (fun i j => ∃ lo hi : Int, i = .int .i64 lo ∧ j = .int .i64 hi ∧ 0 ≤ lo ∧ lo ≤ g ∧ g ≤ hi ∧ hi ≤ 1048576) (fun i j => (intOf j - intOf i).toNat)
  case atStart => exact ⟨0, 1048576, rfl, rfl, by omega, by omega, by omega, by omega⟩
  case round =>
    obtain ⟨lo, hi, rfl, rfl, h1, h2, h3, h4⟩ := hrel
    by_cases hlt : lo < hi
    · have T1 := T.out ((lo + hi) / 2) (by omega) (by omega)
      by_cases hg : g ≤ (lo + hi) / 2
      · rw [decide_eq_true hg] at T1
        have T2 := hid T1
        clear T1
        go_wp2_with fail
        refine T2.out.mono ?_
        rintro e w' ⟨rfl, rfl⟩
        go_wp2_with fail
        go_round
        case rel => exact ⟨lo, (lo + hi) / 2, rfl, rfl, h1, h2, hg, by omega⟩
        case measure => simp [intOf]; omega
      · rw [decide_eq_false hg] at T1
        have T2 := hid T1
        clear T1
        go_wp2_with fail
        refine T2.out.mono ?_
        rintro e w' ⟨rfl, rfl⟩
        go_wp2_with fail
        go_round
        case rel => exact ⟨(lo + hi) / 2 + 1, hi, rfl, rfl, by omega, by omega, h3, h4⟩
        case measure => simp [intOf]; omega
    · obtain rfl : g = lo := by omega
      go_wp2_with fail
      go_ret
      exact ⟨rfl, rfl⟩

set_option maxRecDepth 100000 in
set_option maxHeartbeats 1000000 in
theorem pa_greatest (b : Int) (w : World) (_bb : In64 b) :
    Calls Try.prog 10 #[.int .i64 b] w fun e w' => e = .returned (.tuple #[.int .i64 (greatV b), .int .i64 (greatE b)]) ∧ Below w.heap.size w w' := by
  have hbx : Below w.heap.size w (w.alloc (.cells #[.int .i64 b] 3)) := (Below.refl _ _).alloc (Nat.le_refl _) _
  have S := hid (pa_search b w.heap.size _ ((Blk.new w #[.int .i64 b] 3).cell 0))
  have HE : Hid (greatE b = if greatV b = 0 then 14 else 0) := rfl
  generalize greatE b = E at *
  generalize greatV b = g at *
  by_cases h : g = 0
  · subst h
    have e := HE.out
    simp at e; subst e
    clear HE
    go_enter Try.func10, Try.ntmps10
    go_wp2_with fail
    refine S.out.mono ?_
    rintro e w' ⟨rfl, rfl⟩
    go_wp2_with fail
    go_ret2
    exact ⟨rfl, hbx⟩
  · have e := HE.out
    rw [if_neg h] at e; subst e
    have h' : (g == 0) = false := by simpa using h
    clear HE
    go_enter Try.func10, Try.ntmps10
    go_wp2_with fail
    refine S.out.mono ?_
    rintro e w' ⟨rfl, rfl⟩
    go_wp2_with fail
    go_ret2
    exact ⟨rfl, hbx⟩

def GrtRel (g : Int) (k bit : Value) : Prop := ∃ (kk : Int) (j : Nat), k = .int .i64 kk ∧ j ≤ 21 ∧ bit = .int .i64 ((2 ^ j / 2 : Nat) : Int) ∧ 0 ≤ kk ∧ kk ≤ g ∧ g < kk + ((2 ^ j : Nat) : Int)
set_option maxRecDepth 100000 in
set_option maxHeartbeats 1000000 in
theorem r_greatest (b : Int) (w : World) (bb : In64 b) :
    Calls Try.prog 11 #[.int .i64 b] w fun e w' => e = .returned (.tuple #[.int .i64 (greatV b), .int .i64 (greatE b)]) ∧ w = w' := by
  obtain ⟨b1, b2⟩ := bb
  have gb := great_bd b
  have GI := hid (fun k (h1 : 1 ≤ k) (h2 : k ≤ 1048576) => @great_iff b k h1 h2)
  have HE : Hid (greatE b = if greatV b = 0 then 14 else 0) := rfl
  generalize greatE b = E at *
  generalize greatV b = g at *
  go_enter Try.func11, Try.ntmps11
  go_wp2_with fail
  go_loop [4, 5] (fun k bit => GrtRel g k bit) (fun _ bit => (intOf bit).toNat)
  case atStart => exact ⟨0, 21, rfl, by omega, rfl, by omega, by omega, by show g < 0 + ((2097152 : Nat) : Int); omega⟩
  case round =>
    obtain ⟨kk, j, rfl, hj, rfl, h1, h2, h3⟩ := hrel
    cases j with
    | zero =>
      obtain rfl : kk = g := by simp at h3; omega
      have ez : ((2 ^ 0 / 2 : Nat) : Int) = 0 := by decide
      rw [ez]
      clear h3 ez
      by_cases h : kk = 0
      · subst h
        have e := HE.out
        simp at e; subst e
        clear HE
        go_wp2_with fail
        go_ret2
        exact ⟨rfl, rfl⟩
      · have e := HE.out
        rw [if_neg h] at e; subst e
        have h' : (kk == 0) = false := by simpa using h
        clear HE
        go_wp2_with fail
        go_ret2
        exact ⟨rfl, rfl⟩
    | succ j =>
      have e1 : 2 ^ (j + 1) / 2 = 2 ^ j := by rw [Nat.pow_succ]; omega
      have e2 : 2 ^ (j + 1) = 2 * 2 ^ j := by rw [Nat.pow_succ]; omega
      have p1 : 1 ≤ 2 ^ j := Nat.one_le_two_pow
      have p2 : 2 ^ j ≤ 2 ^ 20 := Nat.pow_le_pow_right (by omega) (by omega)
      rw [e1]
      rw [e2] at h3
      have p3 : (2 : Nat) ^ 20 = 1048576 := rfl
      rw [p3] at p2
      have HD : Hid ((2 ^ j / 2 : Nat) = (2 ^ j) / 2) := rfl
      have HR : ∀ k' : Int, Hid (0 ≤ k' ∧ k' ≤ g ∧ g < k' + ((2 ^ j : Nat) : Int) → GrtRel g (.int .i64 k') (.int .i64 (((2 ^ j : Nat) : Int) / 2))) := fun k' h => ⟨k', j, rfl, by omega, by simp, h.1, h.2.1, h.2.2⟩
      have HR1 := HR kk
      have HR2 := HR (kk + ((2 ^ j : Nat) : Int))
      clear e1 e2 p3 HD HR
      generalize (2 ^ j : Nat) = P at *
      have B := hid (r_bytes (kk + (P : Int)) w)
      have G := hid (GI.out (kk + (P : Int)) (by omega))
      have KK : Hid (isK (kk + (P : Int)) = decide (kk + (P : Int) ≤ 1048576)) := by show _ = _; simp [isK]; omega
      have hm1 : (P : Int) / 2 < P := by omega
      generalize bytesV (kk + (P : Int)) = n at *
      by_cases hk : kk + (P : Int) ≤ 1048576
      · have ek := KK.out
        rw [decide_eq_true hk] at ek
        rw [ek] at B
        have g2 := G.out hk
        clear KK ek GI
        by_cases hg : kk + (P : Int) ≤ g
        · have hn : n ≤ b := g2.2 hg
          clear g2
          go_wp2_with fail
          refine B.out.mono ?_
          rintro e w' ⟨rfl, rfl⟩
          go_wp2_with fail
          go_round
          case rel => exact HR2.out ⟨by omega, hg, by omega⟩
          case measure => simp [intOf]; omega
        · have hn : b < n := by
            by_cases h : n ≤ b
            · exact absurd (g2.1 h) hg
            · omega
          clear g2
          go_wp2_with fail
          refine B.out.mono ?_
          rintro e w' ⟨rfl, rfl⟩
          go_wp2_with fail
          go_round
          case rel => exact HR1.out ⟨by omega, h2, by omega⟩
          case measure => simp [intOf]; omega
      · have ek := KK.out
        rw [decide_eq_false hk] at ek
        rw [ek] at B
        clear KK ek GI G
        go_wp2_with fail
        refine B.out.mono ?_
        rintro e w' ⟨rfl, rfl⟩
        go_wp2_with fail
        go_round
        case rel => exact HR1.out ⟨by omega, h2, by omega⟩
        case measure => simp [intOf]; omega
end Go.Proofs.Ytaihjcefgokjkaa
