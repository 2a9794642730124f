/- The walks of the statements' own functions over pools: do, like, alive; which pools there are. -/
import Derived.Test.YtipnnogafanemaaPool6
namespace Go.Proofs.Ytipnnogafanemaa
open Go.RowKit Nl

set_option maxRecDepth 100000 in
set_option maxHeartbeats 1000000 in
theorem r_poolIs (kind l : Int) (w : World) : Calls Try.prog 34 #[.int .i64 kind, .int .i64 l] w fun e w' => e = .returned (.bool (poolIs kind l)) ∧ w = w' := by
  by_cases k1 : kind = 1
  · subst k1
    rcases (by omega : l < 1 ∨ (1 ≤ l ∧ 16 < l) ∨ (1 ≤ l ∧ l ≤ 16)) with h1 | ⟨h1, h2⟩ | ⟨h1, h2⟩
    all_goals
      go_enter Try.func34, Try.ntmps34
      go_wp2_with fail
      go_ret
      exact ⟨ret_bool (by simp [poolIs] <;> omega), rfl⟩
  · have e1 : (kind == 1) = false := by simpa using k1
    by_cases k2 : kind = 2
    · subst k2
      clear k1
      rcases (by omega : l < 1 ∨ (1 ≤ l ∧ 48 < l) ∨ (1 ≤ l ∧ l ≤ 48)) with h1 | ⟨h1, h2⟩ | ⟨h1, h2⟩
      all_goals
        go_enter Try.func34, Try.ntmps34
        go_wp2_with fail
        go_ret
        exact ⟨ret_bool (by simp [poolIs] <;> omega), rfl⟩
    · have e2 : (kind == 2) = false := by simpa using k2
      have hp : Hid (poolIs kind l = false) := by show _ = _; simp [poolIs, k1, k2]
      clear k1 k2
      go_enter Try.func34, Try.ntmps34
      go_wp2_with fail
      go_ret
      exact ⟨ret_bool hp.out.symm, rfl⟩

set_option maxRecDepth 100000 in
set_option maxHeartbeats 1000000 in
theorem p9_do {w : World} {q g h m : Nat} {kind0 l : Int} {zs : List Nd} (m' : Nat) (kind id c : Int) (d : PoolV w q g h kind0 l m zs) (hm : m ≤ m') (hz : zs.length + 1 ≤ m') (hm' : m' ≤ 100000) (bi : -9223372036854775808 ≤ id ∧ id ≤ 9223372036854775807) (bc : -9223372036854775808 ≤ c ∧ c ≤ 9223372036854775807) :
    Calls Try.prog 25 #[.pointer (some ⟨q, 0, none⟩), .agg #[.int .i64 kind, .int .i64 id, .int .i64 c]] w (PoolPost q g h kind0 l m' (stDo l zs kind id c) w) := by
  have hba : Below w.heap.size w (w.alloc (.cells #[.int .i64 kind, .int .i64 id, .int .i64 c] 52)) := (Below.refl _ _).alloc (Nat.le_refl _) _
  have d2 := d.below hba (Nat.le_refl _)
  by_cases hk0 : kind = 0
  · subst hk0
    have e : stDo l zs 0 id c = stAdd l zs id c := rfl
    rw [e]
    clear e
    go_enter Try.func25, Try.ntmps25
    go_wp2_with fail
    refine (pl_add m' id c d2 hm hz hm' bi bc).mono ?_
    rintro e w2 ⟨rfl, h', d3, hh, tc⟩
    go_wp2_with fail
    go_ret
    refine ⟨rfl, h', d3, ?_, (Tch.of_below hba).trans tc⟩
    rcases hh with hh | hh
    · exact .inl hh
    · right; simp only [World.size_alloc] at hh; omega
  · by_cases hk1 : kind = 1
    · subst hk1
      have e : stDo l zs 1 id c = stTake zs id := rfl
      rw [e]
      clear e hk0
      go_enter Try.func25, Try.ntmps25
      go_wp2_with fail
      refine (pl_take id d2 (by omega) bi).mono ?_
      rintro e w2 ⟨rfl, d3, tc⟩
      go_wp2_with fail
      go_ret
      exact ⟨rfl, h, d3.mono hm, .inl rfl, (Tch.of_below hba).trans tc⟩
    · have e : stDo l zs kind id c = (zs, findL id zs) := by unfold stDo; rw [if_neg hk0, if_neg hk1]
      have h0 : (kind == 0) = false := by simpa using hk0
      have h1 : (kind == 1) = false := by simpa using hk1
      rw [e]
      clear e hk0 hk1
      go_enter Try.func25, Try.ntmps25
      go_wp2_with fail
      refine (pl_get id d2 (by omega) bi).mono ?_
      rintro e w2 ⟨rfl, hb2⟩
      go_wp2_with fail
      go_ret
      exact ⟨rfl, h, (d2.below hb2 (Nat.le_refl _)).mono hm, .inl rfl, Tch.of_below (hba.trans (hb2.mono (by simp)))⟩

set_option maxRecDepth 100000 in
set_option maxHeartbeats 2000000 in
theorem p9_like {w : World} {q g h m : Nat} {kind l : Int} {xs : List Nd} {v0 : Value} (d : PoolV w q g h kind l m xs) (hm : m ≤ 100000) (hr : RdN w v0 xs) :
    Calls Try.prog 36 #[.pointer (some ⟨q, 0, none⟩), .int .i64 kind, .agg #[.int .i64 l, v0]] w fun e w' => e = .returned (.bool true) ∧ Below w.heap.size w w' := by
  obtain ⟨p, cap, rfl⟩ := hr.val
  have hsl := d.len hm
  have htt := d.roll.tot
  have hba : Below w.heap.size w (w.alloc (.cells #[.int .i64 l, .slice p xs.length cap] 34)) := (Below.refl _ _).alloc (Nat.le_refl _) _
  have X := Blk.new w #[.int .i64 l, .slice p xs.length cap] 34
  have hsz : (w.alloc (.cells #[.int .i64 l, .slice p xs.length cap] 34)).heap.size = w.heap.size + 1 := by simp
  have d2 := d.below hba (Nat.le_refl _)
  have hr2 := hr.below hba (Nat.le_refl _)
  have Sn' := hid (fun (W : World) (q' : PoolV W q g h kind l m xs) => pl_snap q' hm)
  have Le' := hid (fun (W : World) (q' : PoolV W q g h kind l m xs) => pl_len q')
  have To : ∀ (W : World) (v : Value), RdN W v xs → Calls Try.prog 31 #[.agg #[.int .i64 l, v]] W fun e w' => e = .returned (.int .i64 (sumL xs)) ∧ Below W.heap.size W w' := fun W v q => by rw [← htt]; exact r_sttotal l W q (by omega)
  have To' := hid To
  clear htt To d hr
  go_enter Try.func36, Try.ntmps36
  go_wp2_with fail
  generalize (w.alloc (.cells #[.int .i64 l, .slice p xs.length cap] 34)) = w1 at *
  have x0 : w1.cell? ⟨w.heap.size, 0, none⟩ = some (.int .i64 l) := X.cell 0
  have x1 : w1.cell? ⟨w.heap.size, 1, none⟩ = some (.slice p xs.length cap) := X.cell 1
  have hl0 : w.heap.size < w1.heap.size := by omega
  have hB0 := Below.refl w1.heap.size w1
  go_region_held3 (fun w' => w'.cell? ⟨w.heap.size, 0, none⟩ = some (.int .i64 l) ∧ w'.cell? ⟨w.heap.size, 1, none⟩ = some (.slice p xs.length cap) ∧ Below w1.heap.size w1 w')
    (first
      | exact ⟨x0, x1, below_drewN hB0 1⟩
      | exact ⟨(X.below' hB5 hl0).cell 0, (X.below' hB5 hl0).cell 1, hB5⟩
      | exact ⟨(X.below' hB6 hl0).cell 0, (X.below' hB6 hl0).cell 1, hB6⟩
      | exact ⟨(X.below' hB7 hl0).cell 0, (X.below' hB7 hl0).cell 1, hB7⟩)
    (first
      | (go_at_call 45; refine (pl_kind (d2.below (‹_ ∧ _ ∧ Below w1.heap.size w1 _›).2.2 (Nat.le_refl _))).mono ?_; rintro e w5 ⟨rfl, rfl⟩)
      | (go_at_call 46; refine (pl_l (d2.below (‹_ ∧ _ ∧ Below w1.heap.size w1 _›).2.2 (Nat.le_refl _))).mono ?_; rintro e w5 ⟨rfl, rfl⟩)
      | (go_at_call 32; refine (Le'.out _ (d2.below (‹_ ∧ _ ∧ Below w1.heap.size w1 _›).2.2 (Nat.le_refl _))).mono ?_; rintro e w5 ⟨rfl, rfl⟩)
      | (go_at_call 29; refine (pl_total (d2.below (‹_ ∧ _ ∧ Below w1.heap.size w1 _›).2.2 (Nat.le_refl _))).mono ?_; rintro e w5 ⟨rfl, rfl⟩)
      | (go_at_call 31; have hB4 := (‹_ ∧ _ ∧ Below w1.heap.size w1 _›).2.2; refine (To'.out _ _ (hr2.below hB4 (Nat.le_refl _))).mono ?_; rintro e w5 ⟨rfl, hb5⟩
         have hB5 := hB4.trans (hb5.mono hB4.size))
      | (go_at_call 28; have hB4 := (‹_ ∧ _ ∧ Below w1.heap.size w1 _›).2.2; refine (Sn'.out _ (d2.below hB4 (Nat.le_refl _))).mono ?_; rintro e w5 ⟨v6, rfl, hv6, hb5⟩
         have hB6 := hB4.trans (hb5.mono hB4.size))
      | (go_at_call 27; have hB4 := (‹_ ∧ _ ∧ Below w1.heap.size w1 _›).2.2; refine (r_same _ hv6.rd (hr2.below hB4 (Nat.le_refl _)) (by omega) (by omega)).mono ?_; rintro e w5 ⟨rfl, n, rfl⟩
         have hB7 := below_drewN hB4 n))
  go_wp2_with fail
  go_ret
  exact ⟨rfl, hba.trans (hB7.mono (by omega))⟩

set_option maxRecDepth 100000 in
set_option maxHeartbeats 2000000 in
theorem p9_alive (w : World) : Calls Try.prog 22 #[] w fun e w' => e = .returned (.bool true) ∧ Below w.heap.size w w' := by
  have a1 : stAdd 20 [] 7 3 = ([(7, 3)], 0) := by decide
  have A1 := hid a1
  clear a1
  go_enter Try.func22, Try.ntmps22
  go_wp2_with fail
  refine (pl_new 2 20 w (by decide)).mono ?_
  rintro e w1 ⟨q, g, h, rfl, d1, hq, hg, hh, hb1⟩
  go_wp2_with fail
  refine (pl_new_no 1 20 w1 (by decide)).mono ?_
  rintro e w2 ⟨rfl, hb2⟩
  have d2 := d1.below hb2 (Nat.le_refl _)
  have hs1 := hb1.size
  have hs2 := hb2.size
  go_wp2_with fail
  refine (pl_add 1 7 3 d2 (by decide) (by decide) (by decide) (by decide) (by decide)).mono ?_
  rintro e w3 ⟨rfl, h', d3, hh', tc3⟩
  rw [A1.out] at d3 ⊢
  have hs3 := tc3.size
  go_wp2_with fail
  refine (pl_get 7 d3 (by decide) (by decide)).mono ?_
  rintro e w4 ⟨rfl, hb4⟩
  have e4 : findL 7 [((7 : Int), (3 : Int))] = 3 := by decide
  rw [e4]
  clear e4
  go_wp2_with fail
  go_ret
  exact ⟨rfl, ((hb1.trans (hb2.mono hs1)).trans (tc3.below hg hh (by omega))).trans (hb4.mono (by omega))⟩
end Go.Proofs.Ytipnnogafanemaa
