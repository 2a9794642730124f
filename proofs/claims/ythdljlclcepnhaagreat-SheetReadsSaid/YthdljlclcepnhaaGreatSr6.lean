/- The walk of reading.end. -/
import Derived.Test.YthdljlclcepnhaaGreatSRA
import Derived.Test.YthdljlclcepnhaaGreatDr5
namespace Go.Proofs.YthdljlclcepnhaaGreat
open Go.RowKit Nl Sh

/-- What is wrong of all that was read. -/
def Sh.endV (L K left : Int) (zs : List Nd) : Int := if 0 < left then 10 else loadE 2 L K zs
set_option maxRecDepth 100000 in
set_option maxHeartbeats 4000000 in
theorem l_end {w : World} {rb : Nat} {L K kind left : Int} {v : Value} {zs : List Nd} (X : Blk w rb #[.int .i64 L, .int .i64 K, .int .i64 kind, .int .i64 left, v] 68) (hr : RdN w v zs) (hn : NB zs) (hz : zs.length ≤ 100000) (hL : poolIs 2 L = true) (hK : isK K = true) :
    Calls Tryz.prog 24 #[.pointer (some ⟨rb, 0, none⟩)] w fun e w' => e = .returned (.int .i64 (endV L K left zs)) ∧ Below w.heap.size w w' := by
  obtain ⟨p, cap, rfl⟩ := hr.val
  have x0 : w.cell? ⟨rb, 0, none⟩ = some (.int .i64 L) := X.cell 0
  have x1 : w.cell? ⟨rb, 1, none⟩ = some (.int .i64 K) := X.cell 1
  have x3 : w.cell? ⟨rb, 3, none⟩ = some (.int .i64 left) := X.cell 3
  have x4 : w.cell? ⟨rb, 4, none⟩ = some (.slice p zs.length cap) := X.cell 4
  by_cases hl : 0 < left
  · have z : decide (0 < left) = true := decide_eq_true hl
    have ev : Hid (endV L K left zs = 10) := by show _ = _; unfold endV; rw [if_pos hl]
    clear hl
    go_enter Tryz.func24, Tryz.ntmps24
    go_wp2_with fail
    go_quiet (fail)
    go_wp2_with fail
    go_ret
    exact ⟨by rw [ev.out]; rfl, below_drewN (Below.refl _ _) _⟩
  · have z : decide (0 < left) = false := decide_eq_false hl
    have EV : Hid (endV L K left zs = loadE 2 L K zs) := by show _ = _; unfold endV; rw [if_neg hl]
    clear hl
    have bl : In64 L := by simp only [poolIs, decide_eq_true_eq] at hL; exact ⟨by omega, by omega⟩
    have bk : 1 ≤ K ∧ K ≤ 1048576 := by simp only [isK, decide_eq_true_eq] at hK; exact hK
    have hk8 : IntKind.i64.wrap (8 * K) = 8 * K := IntWalk.i64_in _ ⟨by omega, by omega⟩
    have HK8 := hid hk8
    have RT := hid (fun W (q : Below w.heap.size w W) => o_right L W (hr.below q (Nat.le_refl _)) hn (by omega) bl)
    have HR := hid (fun W (q : Below w.heap.size w W) => hr.below q (Nat.le_refl _))
    have FX := hid (fun W (q : Below w.heap.size w W) => (show W.cell? ⟨rb, 0, none⟩ = some (.int .i64 L) ∧ W.cell? ⟨rb, 3, none⟩ = some (.int .i64 left) ∧ W.cell? ⟨rb, 4, none⟩ = some (.slice p zs.length cap) ∧ Below w.heap.size w W from ⟨(X.below q (Nat.le_refl _)).cell 0, (X.below q (Nat.le_refl _)).cell 3, (X.below q (Nat.le_refl _)).cell 4, q⟩))
    have FK := hid (fun W (q : Below w.heap.size w W) => (show W.cell? ⟨rb, 1, none⟩ = some (.int .i64 K) from (X.below q (Nat.le_refl _)).cell 1))
    have hB0 := Below.refl w.heap.size w
    have HE := hid (show loadE 2 L K zs = if rollB L zs = false then 10 else if 8 * K < (zs.length : Int) ∨ lightB L zs (capV (sumL zs) K) = false then 13 else 0 by unfold loadE; rw [hL, hK]; rfl)
    have HL := hid hL
    have HK := hid hK
    clear hk8 hL hK hr
    obtain ⟨RB, eRB⟩ : ∃ x, rollB L zs = x := ⟨_, rfl⟩
    rw [eRB] at RT HE
    replace eRB := hid eRB
    cases RB
    · clear HK8 bk FK HL HK X
      go_enter Tryz.func24, Tryz.ntmps24
      go_wp2_with fail
      go_region_held3 (fun w' => w'.cell? ⟨rb, 0, none⟩ = some (.int .i64 L) ∧ w'.cell? ⟨rb, 3, none⟩ = some (.int .i64 left) ∧ w'.cell? ⟨rb, 4, none⟩ = some (.slice p zs.length cap) ∧ Below w.heap.size w w')
        (first
          | exact FX.out _ (below_drewN hB0 1)
          | exact FX.out _ hB5)
        ((go_at_call 41; have hB4 := (‹_ ∧ _ ∧ _ ∧ Below w.heap.size w _›).2.2.2; refine (RT.out _ hB4).mono ?_; rintro e w5 ⟨rfl, hb5⟩
          have hB5 := hB4.trans (hb5.mono hB4.size)))
      go_wp2_with fail
      go_ret
      exact ⟨by rw [EV.out, HE.out]; rfl, hB5⟩
    · clear X
      go_enter Tryz.func24, Tryz.ntmps24
      go_wp2_with fail
      go_region_held3 (fun w' => w'.cell? ⟨rb, 0, none⟩ = some (.int .i64 L) ∧ w'.cell? ⟨rb, 3, none⟩ = some (.int .i64 left) ∧ w'.cell? ⟨rb, 4, none⟩ = some (.slice p zs.length cap) ∧ Below w.heap.size w w')
        (first
          | exact FX.out _ (below_drewN hB0 1)
          | exact FX.out _ hB5)
        ((go_at_call 41; have hB4 := (‹_ ∧ _ ∧ _ ∧ Below w.heap.size w _›).2.2.2; refine (RT.out _ hB4).mono ?_; rintro e w5 ⟨rfl, hb5⟩
          have hB5 := hB4.trans (hb5.mono hB4.size)))
      have F5 := FX.out _ hB5
      have c1 := FK.out _ hB5
      have c0 := F5.1
      have c4 := F5.2.2.1
      have b0 := HK8.out
      have nb := hid hn
      by_cases hlen : 8 * K < (zs.length : Int)
      · have z1 : decide (8 * K < (zs.length : Int)) = true := decide_eq_true hlen
        have P : Hid (loadE 2 L K zs = 13) := by show _ = _; rw [HE.out, if_neg (by simp), if_pos (.inl hlen)]
        clear HE hlen F5 RT HK8 FK FX
        go_wp2_with fail
        go_quiet (fail)
        go_wp2_with fail
        go_ret
        exact ⟨by rw [EV.out, P.out]; rfl, below_drewN hB5 _⟩
      · have z1 : decide (8 * K < (zs.length : Int)) = false := decide_eq_false hlen
        have LDP := hid (fun W q => pl_load 2 L W HL.out eRB.out q nb.out hz (v := .slice p zs.length cap))
        have LG := hid (fun W q g h (x : PoolV W q g h 2 L zs.length zs) => p_Light K HK.out x hz)
        obtain ⟨LB, eLB⟩ : ∃ x, lightB L zs (capV (sumL zs) K) = x := ⟨_, rfl⟩
        rw [eLB] at LG
        have P : Hid (loadE 2 L K zs = if LB = false then 13 else 0) := by
          show _ = _
          rw [HE.out, if_neg (by simp), eLB]
          cases LB
          · rw [if_pos (.inr rfl), if_pos rfl]
          · rw [if_neg (by simpa using hlen), if_neg (by simp)]
        clear HE hlen RT F5 eLB hz hn
        go_wp2_with fail
        go_quiet (fail)
        go_wp2_with fail
        clear z1 c0 c1 c4 b0
        have hB6 : Below w.heap.size w (w5.drewN nq) := below_drewN hB5 _
        generalize w5.drewN nq = w6 at *
        clear hB5
        go_region_held3 (fun w' => w'.cell? ⟨rb, 0, none⟩ = some (.int .i64 L) ∧ w'.cell? ⟨rb, 3, none⟩ = some (.int .i64 left) ∧ w'.cell? ⟨rb, 4, none⟩ = some (.slice p zs.length cap) ∧ Below w.heap.size w w')
          (first
            | exact FX.out _ (below_drewN hB6 1)
            | exact FX.out _ hB7)
          ((go_at_call 42; have hB4 := (‹_ ∧ _ ∧ _ ∧ Below w.heap.size w _›).2.2.2; refine (LDP.out _ (HR.out _ hB4)).mono ?_; rintro e w7 ⟨q, g, h, rfl, d7, -, -, -, hb7⟩
            have hB7 := hB4.trans (hb7.mono hB4.size)))
        have c1 := FK.out _ hB7
        have LH := hid (LG.out _ _ _ _ d7)
        clear d7 LG LDP
        cases LB
        all_goals
          go_wp2_with fail
          refine LH.out.mono ?_
          rintro e w8 ⟨rfl, hb8⟩
          go_wp2_with fail
          go_ret
          exact ⟨by rw [EV.out, P.out]; rfl, hB7.trans (hb8.mono hB7.size)⟩
end Go.Proofs.YthdljlclcepnhaaGreat
