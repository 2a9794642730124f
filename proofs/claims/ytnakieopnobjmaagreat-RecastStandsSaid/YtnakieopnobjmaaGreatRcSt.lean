/- The walk of law 15's stands. -/
import Derived.Test.YtnakieopnobjmaaGreatRcImg2
import Derived.Test.YtnakieopnobjmaaGreatRc5
import Derived.Test.YtnakieopnobjmaaGreatMdAny
import Derived.Deep.CutBlock
namespace Go.Proofs.YtnakieopnobjmaaGreat
open Go.RowKit Nl

set_option maxRecDepth 100000 in
theorem conf_f0 (a b c : Int) (W : World) : (Instr.field 23 (.agg #[.int .i64 a, .int .i64 b, .int .i64 c]) 0).run Tryz.prog W = .ok (.int .i64 a) W := by
  simp [Instr.field, run_underlying Tryz.underlying23]
  rfl
set_option maxRecDepth 100000 in
theorem conf_f2 (a b c : Int) (W : World) : (Instr.field 23 (.agg #[.int .i64 a, .int .i64 b, .int .i64 c]) 2).run Tryz.prog W = .ok (.int .i64 c) W := by
  simp [Instr.field, run_underlying Tryz.underlying23]
  rfl
def EndsAny (L id : Int) (w : World) (e : Ending) (w' : World) : Prop := ∃ lo hi, e = .returned (.tuple #[.int .i64 lo, .int .i64 hi, .bool (rightB L id)]) ∧ w = w' ∧ (rightB L id = true → lo = endsLo L id ∧ hi = endsHi L id)
theorem r_ends_all (L id : Int) (w : World) (bl : In64 L) (bi : In64 id) : Calls Tryz.prog 29 #[.int .i64 L, .int .i64 id] w (EndsAny L id w) := by
  cases hr : rightB L id
  · exact (r_ends_no L id w bl bi hr).mono fun e w' ⟨h1, h2⟩ => ⟨_, _, by rw [hr]; exact h1, h2, fun h => by rw [hr] at h; cases h⟩
  · exact (r_ends L id w hr).mono fun e w' ⟨h1, h2⟩ => ⟨_, _, by rw [hr]; exact h1, h2, fun _ => ⟨rfl, rfl⟩⟩

set_option maxRecDepth 100000 in
set_option maxHeartbeats 8000000 in
theorem rc_stands {w : World} {dm qm gm hm dg q g h m m0 : Nat} {kind L l k : Int} {Z zs its : List Nd} {v : Value} (id0 : Int) (dz : DgV w dm qm gm hm kind L k m Z) (d : DgV w dg q g h kind l k m0 zs) (hm1 : m ≤ 100000) (hB : Bag L its) (hr : RdN w v its) (bi : In64 id0)
    (s1 : sumL Z = sumL zs) (s2 : sumL its = sumL Z) (hlen : Z.length ≤ zs.length) (hzl : zs.length ≤ 1000) (hil : its.length ≤ 1000) (hst : rightB L id0 = true → belowV id0 Z ≤ heldV L id0 its ∧ heldV L id0 its ≤ belowV id0 Z + aboveV id0 Z) :
    Calls Tryz.prog 23 #[.pointer (some ⟨dm, 0, none⟩), .agg #[.int .i64 L, v], .pointer (some ⟨dg, 0, none⟩), .int .i64 id0] w fun e w' => e = .returned (.bool true) ∧ Below w.heap.size w w' := by
  obtain ⟨p, cap, rfl⟩ := hr.val
  have zroll := dz.inv.roll
  have k1 := dz.inv.k1
  have k2 := dz.inv.k2
  have L1 := zroll.l1
  have L2 := zroll.l2
  have hp0 := sumL_nonneg zroll.strict.pos
  have hp1 := zroll.most
  have habv := above_le_sum (id := id0) zroll.strict.pos
  have hlow0 : 0 ≤ belowV id0 Z := gsum_zero (fun x hx => by have := (zroll.strict.2 x hx).2; unfold belowF; split <;> omega)
  have hlow1 : belowV id0 Z ≤ sumL Z := by
    rw [← gsum_sum]
    exact gsum_le (fun x hx => by have := (zroll.strict.2 x hx).2; unfold belowF; split <;> omega)
  have NZ := hid (fun W (y : DgV W dm qm gm hm kind L k m Z) => dg_n y)
  have ND := hid (fun W (y : DgV W dg q g h kind l k m0 zs) => dg_n y)
  have LZ := hid (fun W (y : DgV W dm qm gm hm kind L k m Z) => dg_len y)
  have LD := hid (fun W (y : DgV W dg q g h kind l k m0 zs) => dg_len y)
  have CZ := hid (fun W (y : DgV W dm qm gm hm kind L k m Z) => dg_conf y)
  have CD := hid (fun W (y : DgV W dg q g h kind l k m0 zs) => dg_conf y)
  have NO := hid (fun W (y : DgV W dm qm gm hm kind L k m Z) => dg_nodes y hm1)
  have TT := hid (fun W (y : RdN W (.slice p its.length cap) its) => b_total L y (by omega) hB.pos' hB.most)
  have EN := hid (fun W : World => r_ends_all L id0 W ⟨by omega, by omega⟩ bi)
  have BT := hid (fun W lo hi (y : RdN W (.slice p its.length cap) its) => b_between L lo hi y (by omega) hB.pos' hB.most)
  have BL := hid (fun W v' (y : RdN W v' Z) => r_below id0 y (by omega) zroll bi)
  have AB := hid (fun W v' (y : RdN W v' Z) => r_aboveV id0 y (by omega) zroll bi)
  have LG0 := fun W v' (y : RdN W v' Z) => r_clight k y (by omega) zroll ⟨by omega, by omega⟩
  have mlight : (lightB L Z (capV (sumL Z) k) && isK k) = true := by rw [dz.inv.light]; simp [isK]; omega
  rw [mlight] at LG0
  have LG := hid LG0
  have HE := hid (fun (h : rightB L id0 = true) => held_bet h hB)
  have HST := hid hst
  rw [s2] at TT
  rw [← s1] at ND
  generalize sumL Z = S at *
  have X1 := Blk.new w #[.int .i64 L, .slice p its.length cap] 49
  have hbw1 : Below w.heap.size w (w.alloc (.cells #[.int .i64 L, .slice p its.length cap] 49)) := (Below.refl _ _).alloc (Nat.le_refl _) _
  have hs1 : (w.alloc (.cells #[.int .i64 L, .slice p its.length cap] 49)).heap.size = w.heap.size + 1 := by simp
  have z1 := dz.below hbw1 (Nat.le_refl _)
  have d1 := d.below hbw1 (Nat.le_refl _)
  have r1 := hr.below hbw1 (Nat.le_refl _)
  have e1 : (S != S) = false := by simp
  have e2 : (k != k) = false := by simp
  have e3 : (kind != kind) = false := by simp
  have e4 : (L != L) = false := by simp
  have e5 : decide (zs.length < Z.length) = false := decide_eq_false (by omega)
  clear LG0 mlight hB dz d hr hst s1 s2
  go_enter Tryz.func23, Tryz.ntmps23
  go_wp2_with fail
  generalize (w.alloc (.cells #[.int .i64 L, .slice p its.length cap] 49)) = w1 at *
  have hB0 := Below.refl w1.heap.size w1
  have hf1 := fun W : World => conf_k L k kind W
  have hf2 := fun W : World => conf_k l k kind W
  have hf3 := fun W : World => conf_f0 L k kind W
  have hf4 := fun W : World => conf_f2 L k kind W
  have hf5 := fun W : World => conf_f2 l k kind W
  have hXl := X1.lt
  have FX := hid (fun W (hb : Below w1.heap.size w1 W) => show W.cell? ⟨w.heap.size, 0, none⟩ = some (.int .i64 L) ∧ W.cell? ⟨w.heap.size, 1, none⟩ = some (.slice p its.length cap) ∧ Below w1.heap.size w1 W from ⟨(X1.below hb (Nat.le_refl _)).cell 0, (X1.below hb (Nat.le_refl _)).cell 1, hb⟩)
  go_upto_region 1 with fail
  go_cut [63] (fun sv wx => sv = .bool false ∧ Below w1.heap.size w1 wx)
  case first =>
    go_region_held3 (fun w' => w'.cell? ⟨w.heap.size, 0, none⟩ = some (.int .i64 L) ∧ w'.cell? ⟨w.heap.size, 1, none⟩ = some (.slice p its.length cap) ∧ Below w1.heap.size w1 w')
      (first
        | exact FX.out _ (below_drewN hB0 1)
        | exact FX.out _ hBn)
      (first
        | (go_at_call_of 30 (Value.pointer (some ⟨dm, 0, none⟩)); have hBn := (‹_ ∧ _ ∧ Below w1.heap.size w1 _›).2.2; with_reducible refine (NZ.out _ (z1.below hBn (Nat.le_refl _))).mono ?_; rintro e w5 ⟨rfl, rfl⟩)
        | (go_at_call_of 30 (Value.pointer (some ⟨dg, 0, none⟩)); have hBn := (‹_ ∧ _ ∧ Below w1.heap.size w1 _›).2.2; with_reducible refine (ND.out _ (d1.below hBn (Nat.le_refl _))).mono ?_; rintro e w5 ⟨rfl, rfl⟩)
        | (go_at_call_of 63 (Value.pointer (some ⟨dm, 0, none⟩)); have hBn := (‹_ ∧ _ ∧ Below w1.heap.size w1 _›).2.2; with_reducible refine (LZ.out _ (z1.below hBn (Nat.le_refl _))).mono ?_; rintro e w5 ⟨rfl, rfl⟩)
        | (go_at_call_of 63 (Value.pointer (some ⟨dg, 0, none⟩)); have hBn := (‹_ ∧ _ ∧ Below w1.heap.size w1 _›).2.2; with_reducible refine (LD.out _ (d1.below hBn (Nat.le_refl _))).mono ?_; rintro e w5 ⟨rfl, rfl⟩)
        | (go_at_call_of 36 (Value.pointer (some ⟨dm, 0, none⟩)); have hBa := (‹_ ∧ _ ∧ Below w1.heap.size w1 _›).2.2; with_reducible refine (CZ.out _ (z1.below hBa (Nat.le_refl _))).mono ?_; rintro e w5 ⟨rfl, hb5⟩
           have hBn := hBa.trans (hb5.mono hBa.size))
        | (go_at_call_of 36 (Value.pointer (some ⟨dg, 0, none⟩)); have hBa := (‹_ ∧ _ ∧ Below w1.heap.size w1 _›).2.2; with_reducible refine (CD.out _ (d1.below hBa (Nat.le_refl _))).mono ?_; rintro e w5 ⟨rfl, hb5⟩
           have hBn := hBa.trans (hb5.mono hBa.size))
        | (go_at_call 62; have hBa := (‹_ ∧ _ ∧ Below w1.heap.size w1 _›).2.2; with_reducible refine (TT.out _ (r1.below hBa (Nat.le_refl _))).mono ?_; rintro e w5 ⟨rfl, hb5⟩
           have hBn := hBa.trans (hb5.mono hBa.size)))
    all_goals
      go_wp2_with fail
      go_meet
      exact ⟨rfl, hBn⟩
  case rest =>
    obtain ⟨rfl, hb2⟩ := hcut
    obtain ⟨w2, rfl⟩ : ∃ x, x = wc := ⟨_, rfl⟩
    have hs2 := hb2.size
    have X2 := X1.below hb2 (Nat.le_refl _)
    have z2 := z1.below hb2 (Nat.le_refl _)
    have r2 := r1.below hb2 (Nat.le_refl _)
    have hbw2 := hbw1.trans (hb2.mono hbw1.size)
    have x0 : w2.cell? ⟨w.heap.size, 0, none⟩ = some (.int .i64 L) := X2.cell 0
    have hB0 := Below.refl w2.heap.size w2
    have hXl := X2.lt
    have hXn : w.heap.size ≠ w2.heap.size := by omega
    have ccA : ((w2.drew).alloc (.cells #[.int .i64 0, .slice none 0 0] 35)).cell? ⟨w.heap.size, 0, none⟩ = some (.int .i64 L) := ((X2.drewN 1).alloc _).cell 0
    clear X1 z1 r1 d1 hb2 hbw1 FX e1 e2 e3 e4 e5 NZ ND LZ LD CD TT hf2 hf3 hf4 hf5
    go_upto_region 3 with fail
    go_cut [9] (fun sv wx => ∃ b vs, sv = .pointer (some ⟨b, 0, none⟩) ∧ Blk wx b #[.int .i64 L, vs] 35 ∧ RdN wx vs Z ∧ Below w2.heap.size w2 wx)
    case first =>
      have hBd : Below w2.heap.size w2 w2.drew := below_drewN hB0 1
      refine wp_region_held_drew (S := fun w' => w'.cell? ⟨w.heap.size, 0, none⟩ = some (.int .i64 L) ∧ Below w2.heap.size w2 w') (by kernel_rfl) ⟨x0, hBd⟩ (fun hHeld => ?_)
      refine wpAnyH_take (i := 0) (v := ?_) rfl (by kernel_rfl) (by kernel_rfl) (by kernel_rfl) (fun _ _ _ h => h) (Or.inl ⟨by rfl, ?_⟩) hHeld ?_
      rotate_left 1
      · intro w hSw; (try dsimp only at hSw); go_simp; first | done | with_reducible rfl
      show wpAnyH _ _ _ _ _ _ _ (Act.put _ (some 64) _) _
      try simp only [Act.put, List.setIfInBounds_toArray, List.set_cons_zero, List.set_cons_succ]
      refine wpAnyH_take (i := 1) (v := ?_) rfl (by kernel_rfl) (by kernel_rfl) (by kernel_rfl) (fun _ _ _ h => h) (Or.inl ⟨by rfl, ?_⟩) hHeld ?_
      rotate_left 1
      · intro w hSw; (try dsimp only at hSw); go_simp; first | done | with_reducible rfl
      show wpAnyH _ _ _ _ _ _ _ (Act.put _ (some 65) _) _
      try simp only [Act.put, List.setIfInBounds_toArray, List.set_cons_zero, List.set_cons_succ]
      refine wpAnyH_take (i := 2) (v := ?_) rfl (by kernel_rfl) (by kernel_rfl) (by kernel_rfl) (fun _ _ _ h => h) (Or.inl ⟨by rfl, ?_⟩) hHeld ?_
      rotate_left 1
      · intro w hSw; (try dsimp only at hSw); go_simp; first | done | with_reducible rfl
      show wpAnyH _ _ _ _ _ _ _ (Act.put _ (some 66) _) _
      try simp only [Act.put, List.setIfInBounds_toArray, List.set_cons_zero, List.set_cons_succ]
      refine wpAnyH_ready (rs := [3, 5]) (by kernel_rfl) (by simp) ?_
      refine AllReadyH.cons rfl (fun K hK => ?_) (AllReadyH.cons rfl (fun K hK => ?_) AllReadyH.nil)
      · go_simp
        (go_at_call 31; have hBa := hHeld.2; refine (NO.out _ (z2.below hBa (Nat.le_refl _))).mono ?_; rintro e w5 hN; obtain ⟨v5, rfl, own5, hb5⟩ := hN; obtain ⟨p5, c5, rfl⟩ := own5.val; have hBq := hBa.trans (hb5.mono hBa.size); go_simp)
        refine hK.out _ _ ⟨(X2.below hBq (Nat.le_refl _)).cell 0, hBq⟩ (fun hHeld => ?_)
        clear hK K
        try simp only [Act.put, List.setIfInBounds_toArray, List.set_cons_zero, List.set_cons_succ]
        refine wpAnyH_take (i := 4) (v := ?_) rfl (by kernel_rfl) (by kernel_rfl) (by kernel_rfl) (fun _ _ _ h => h) (Or.inl ⟨by rfl, ?_⟩) hHeld ?_
        rotate_left 1
        · intro w hSw; (try dsimp only at hSw); go_simp; first | done | with_reducible rfl
        show wpAnyH _ _ _ _ _ _ _ (Act.put _ (some 68) _) _
        try simp only [Act.put, List.setIfInBounds_toArray, List.set_cons_zero, List.set_cons_succ]
        refine wpAnyH_ready (rs := [5]) (by kernel_rfl) (by simp) ?_
        refine AllReadyH.cons rfl (fun K hK => ?_) AllReadyH.nil
        go_simp
        skip
        refine hK.out _ _ ⟨((X2.below hHeld.2 (Nat.le_refl _)).alloc _).cell 0, hHeld.2.alloc hHeld.2.size _⟩ (fun hHeld => ?_)
        clear hK K
        try simp only [Act.put, List.setIfInBounds_toArray, List.set_cons_zero, List.set_cons_succ]
        refine wpAnyH_ready (rs := [6]) (by kernel_rfl) (by simp) ?_
        refine AllReadyH.cons rfl (fun K hK => ?_) AllReadyH.nil
        go_simp
        skip
        refine hK.out _ _ ⟨((X2.below hBq (Nat.le_refl _)).alloc _).cell 0, hBq.alloc hBq.size _⟩ (fun hHeld => ?_)
        clear hK K
        try simp only [Act.put, List.setIfInBounds_toArray, List.set_cons_zero, List.set_cons_succ]
        refine wpAnyH_done (by kernel_rfl) ?_ _
        go_wp2_with fail
        go_meet
        exact ⟨w5.heap.size, .slice p5 Z.length c5, rfl, Blk.new w5 _ _, own5.rd.below ((Below.refl w5.heap.size w5).alloc (Nat.le_refl _) _) (Nat.le_refl _), hBq.alloc hBq.size _⟩
      · go_simp
        refine hK.out _ _ ⟨((X2.below hHeld.2 (Nat.le_refl _)).alloc _).cell 0, hHeld.2.alloc hHeld.2.size _⟩ (fun hHeld => ?_)
        clear hK K
        try simp only [Act.put, List.setIfInBounds_toArray, List.set_cons_zero, List.set_cons_succ]
        refine wpAnyH_ready (rs := [3]) (by kernel_rfl) (by simp) ?_
        refine AllReadyH.cons rfl (fun K hK => ?_) AllReadyH.nil
        go_simp
        (go_at_call 31; have hBa := hHeld.2; refine (NO.out _ (z2.below hBa (Nat.le_refl _))).mono ?_; rintro e w5 hN; obtain ⟨v5, rfl, own5, hb5⟩ := hN; obtain ⟨p5, c5, rfl⟩ := own5.val; have hBq := hBa.trans (hb5.mono hBa.size); have Y := (Blk.new w2.drew #[.int .i64 0, .slice none 0 0] 35).below hb5 (Nat.le_refl _); have y0 : w5.cell? ⟨w2.heap.size, 0, none⟩ = some (.int .i64 0) := Y.cell 0; have y1 : w5.cell? ⟨w2.heap.size, 1, none⟩ = some (.slice none 0 0) := Y.cell 1; have yf0 : w5.frozen? ⟨w2.heap.size, 0, none⟩ = false := Y.free 0; have yf1 : w5.frozen? ⟨w2.heap.size, 1, none⟩ = false := Y.free 1; go_simp)
        refine hK.out _ _ ⟨(X2.below hBq (Nat.le_refl _)).cell 0, hBq⟩ (fun hHeld => ?_)
        clear hK K
        try simp only [Act.put, List.setIfInBounds_toArray, List.set_cons_zero, List.set_cons_succ]
        refine wpAnyH_take (i := 4) (v := ?_) rfl (by kernel_rfl) (by kernel_rfl) (by kernel_rfl) (fun _ _ _ h => h) (Or.inl ⟨by rfl, ?_⟩) hHeld ?_
        rotate_left 1
        · intro w hSw; (try dsimp only at hSw); go_simp; first | done | with_reducible rfl
        show wpAnyH _ _ _ _ _ _ _ (Act.put _ (some 68) _) _
        try simp only [Act.put, List.setIfInBounds_toArray, List.set_cons_zero, List.set_cons_succ]
        refine wpAnyH_ready (rs := [6]) (by kernel_rfl) (by simp) ?_
        refine AllReadyH.cons rfl (fun K hK => ?_) AllReadyH.nil
        go_simp
        skip
        refine hK.out _ _ ⟨(((X2.below hBq (Nat.le_refl _)).set_other 0 (.int .i64 L) hXn).set_other 1 (.slice p5 Z.length c5) hXn).cell 0, (hBq.setCell (p := ⟨w2.heap.size, 0, none⟩) (Nat.le_refl _) _).setCell (p := ⟨w2.heap.size, 1, none⟩) (Nat.le_refl _) _⟩ (fun hHeld => ?_)
        clear hK K
        try simp only [Act.put, List.setIfInBounds_toArray, List.set_cons_zero, List.set_cons_succ]
        refine wpAnyH_done (by kernel_rfl) ?_ _
        go_wp2_with fail
        go_meet
        have hni : NotIn (.slice p5 Z.length c5) Z w2.heap.size := .inr (fun i hi => by have h1 : w2.heap.size < i := Nat.lt_of_lt_of_le (by simp) (own5.lt i hi); omega)
        exact ⟨w2.heap.size, .slice p5 Z.length c5, rfl, (Y.set 0 (.int .i64 L)).set 1 (.slice p5 Z.length c5), (own5.rd.set_off hni _ _).set_off hni _ _, (hBq.setCell (p := ⟨w2.heap.size, 0, none⟩) (Nat.le_refl _) _).setCell (p := ⟨w2.heap.size, 1, none⟩) (Nat.le_refl _) _⟩
    case rest =>
      obtain ⟨b, vs, rfl, Bs, hrs, hbc⟩ := hcut
      obtain ⟨pv, cv, rfl⟩ := hrs.val
      obtain ⟨w3, rfl⟩ : ∃ x, x = wc := ⟨_, rfl⟩
      have hs3 := hbc.size
      have X3 := X2.below hbc (Nat.le_refl _)
      have z3 := z2.below hbc (Nat.le_refl _)
      have r3 := r2.below hbc (Nat.le_refl _)
      have hbw3 := hbw2.trans (hbc.mono hbw2.size)
      clear X2 z2 r2 hbc hbw2 x0 ccA hXl hXn hB0
      have x0 : w3.cell? ⟨w.heap.size, 0, none⟩ = some (.int .i64 L) := X3.cell 0
      have x1 : w3.cell? ⟨w.heap.size, 1, none⟩ = some (.slice p its.length cap) := X3.cell 1
      have b0 : w3.cell? ⟨b, 0, none⟩ = some (.int .i64 L) := Bs.cell 0
      have b1 : w3.cell? ⟨b, 1, none⟩ = some (.slice pv Z.length cv) := Bs.cell 1
      have hB0 := Below.refl w3.heap.size w3
      have FX := hid (fun W (hb : Below w3.heap.size w3 W) => show W.cell? ⟨w.heap.size, 0, none⟩ = some (.int .i64 L) ∧ W.cell? ⟨w.heap.size, 1, none⟩ = some (.slice p its.length cap) ∧ W.cell? ⟨b, 0, none⟩ = some (.int .i64 L) ∧ W.cell? ⟨b, 1, none⟩ = some (.slice pv Z.length cv) ∧ Below w3.heap.size w3 W from ⟨(X3.below hb (Nat.le_refl _)).cell 0, (X3.below hb (Nat.le_refl _)).cell 1, (Bs.below hb (Nat.le_refl _)).cell 0, (Bs.below hb (Nat.le_refl _)).cell 1, hb⟩)
      go_wp2_with fail
      refine (EN.out _).mono ?_
      rintro e w' hE
      obtain ⟨lo, hi, rfl, rfl, hlh⟩ := hE
      go_wp2_with fail
      go_upto_region 5 with fail
      go_cut [13, 14] (fun sa sb wx => sa = .int .i64 (betV lo hi its) ∧ sb = .int .i64 (belowV id0 Z) ∧ Below w3.heap.size w3 wx)
      case first =>
        go_region_held3 (fun w' => w'.cell? ⟨w.heap.size, 0, none⟩ = some (.int .i64 L) ∧ w'.cell? ⟨w.heap.size, 1, none⟩ = some (.slice p its.length cap) ∧ w'.cell? ⟨b, 0, none⟩ = some (.int .i64 L) ∧ w'.cell? ⟨b, 1, none⟩ = some (.slice pv Z.length cv) ∧ Below w3.heap.size w3 w')
          (first
            | exact FX.out _ (below_drewN hB0 1)
            | exact FX.out _ hB8
            | exact FX.out _ hB9)
          (first
            | (go_at_call 32; have hB4 := (‹_ ∧ _ ∧ _ ∧ _ ∧ Below w3.heap.size w3 _›).2.2.2.2; refine (BT.out _ lo hi (r3.below hB4 (Nat.le_refl _))).mono ?_; rintro e w11 ⟨rfl, hb⟩
               have hB8 := hB4.trans (hb.mono hB4.size))
            | (go_at_call 33; have hB4 := (‹_ ∧ _ ∧ _ ∧ _ ∧ Below w3.heap.size w3 _›).2.2.2.2; refine (BL.out _ _ (hrs.below hB4 (Nat.le_refl _))).mono ?_; rintro e w12 ⟨rfl, hb⟩
               have hB9 := hB4.trans (hb.mono hB4.size)))
        all_goals
          go_wp2_with fail
          go_meet
          first
            | exact ⟨rfl, rfl, hB9⟩
            | exact ⟨rfl, rfl, hB8⟩
      case rest =>
        obtain ⟨rfl, rfl, hb4⟩ := hcut
        obtain ⟨w4, rfl⟩ : ∃ x, x = wc := ⟨_, rfl⟩
        have hs4 := hb4.size
        have B4 := Bs.below hb4 (Nat.le_refl _)
        have z4 := z3.below hb4 (Nat.le_refl _)
        have r4 := hrs.below hb4 (Nat.le_refl _)
        have hbw4 := hbw3.trans (hb4.mono hbw3.size)
        have b0 : w4.cell? ⟨b, 0, none⟩ = some (.int .i64 L) := B4.cell 0
        have b1 : w4.cell? ⟨b, 1, none⟩ = some (.slice pv Z.length cv) := B4.cell 1
        have hB0 := Below.refl w4.heap.size w4
        have hBl := B4.lt
        clear X3 z3 r3 Bs hrs FX hb4 hbw3 x0 x1 BT BL
        cases hok : rightB L id0
        case false =>
          rw [hok] at *
          clear hlh HE HST
          go_upto_region 6 with fail
          go_region
          go_wp2_with fail
          go_ret
          exact ⟨rfl, below_drewN hbw4 1⟩
        case true =>
          obtain ⟨rfl, rfl⟩ := hlh hok
          have h1 := HST.out hok
          have h2 := HE.out hok
          obtain ⟨h3, h4⟩ := h1
          rw [← h2] at h3 h4
          generalize betV (endsLo L id0) (endsHi L id0) its = held at *
          generalize belowV id0 Z = low at *
          generalize aboveV id0 Z = abv at *
          have c1 : decide (low ≤ held) = true := decide_eq_true h3
          have hw1 : IntKind.i64.wrap (low + abv) = low + abv := IntWalk.i64_in _ ⟨by omega, by omega⟩
          have c2 : decide (held ≤ low + abv) = true := decide_eq_true h4
          clear hlh HE HST h2 hok
          go_upto_region 6 with fail
          go_region_held3 (fun w' => w'.cell? ⟨b, 0, none⟩ = some (.int .i64 L) ∧ w'.cell? ⟨b, 1, none⟩ = some (.slice pv Z.length cv) ∧ Below w4.heap.size w4 w')
            (first
              | exact ⟨b0, b1, below_drewN hB0 1⟩
              | exact ⟨(B4.below' hBn hBl).cell 0, (B4.below' hBn hBl).cell 1, hBn⟩)
            (first
              | (go_at_call 34; have hBn := (‹_ ∧ _ ∧ Below w4.heap.size w4 _›).2.2; refine (AB.out _ _ (r4.below hBn (Nat.le_refl _))).mono ?_; rintro e w5 ⟨rfl, rfl⟩)
              | (go_at_call 36; have hBa := (‹_ ∧ _ ∧ Below w4.heap.size w4 _›).2.2; refine (CZ.out _ (z4.below hBa (Nat.le_refl _))).mono ?_; rintro e w5 ⟨rfl, hb5⟩
                 have hBn := hBa.trans (hb5.mono hBa.size))
              | (go_at_call 35; have hBa := (‹_ ∧ _ ∧ Below w4.heap.size w4 _›).2.2; refine (LG.out _ _ (r4.below hBa (Nat.le_refl _))).mono ?_; rintro e w5 ⟨rfl, hb5⟩
                 have hBn := hBa.trans (hb5.mono hBa.size)))
          all_goals
            go_wp2_with fail
            go_ret
            exact ⟨rfl, hbw4.trans (hBn.mono hbw4.size)⟩
end Go.Proofs.YtnakieopnobjmaaGreat
