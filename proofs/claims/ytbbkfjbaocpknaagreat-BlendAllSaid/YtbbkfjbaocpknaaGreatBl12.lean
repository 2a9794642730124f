/- The walks of the reference's Join and Merge. -/
import Derived.Test.YtbbkfjbaocpknaaGreatBL2
namespace Go.Proofs.YtbbkfjbaocpknaaGreat
open Go.RowKit Nl

set_option maxRecDepth 100000 in
set_option maxHeartbeats 1000000 in
theorem r_join {va vb : Value} {xs ys Z : List Nd} (w : World) (ha : RdN w va xs) (hb : RdN w vb ys) (hxy : xs.length + ys.length ≤ 100000) (hf : foldL (xs ++ ys) = some Z) :
    Calls Tryz.prog 80 #[va, vb] w (FoldOk Z w) := by
  have FO := hid (fun W v (q : RdN W v (xs ++ ys)) => r_fold W q (by simp; omega))
  have HF := hid hf
  clear hf
  obtain ⟨pa, ca, rfl⟩ := ha.val
  obtain ⟨pb, cb, rfl⟩ := hb.val
  go_enter Tryz.func80, Tryz.ntmps80
  go_wp2_with (first
    | (at_builtin; refine appendsN (B := w.heap.size) _ _ (OwnN.nil _ _) ha (by simp; omega) (Nat.le_refl _) rfl rfl rfl rfl ?_; intro v1 w1 ho1 hg1
       have hb1 := hb.grown hg1 (fun g' hg' => by simp [Value.ownBlock])
       have hs1 := hg1.size)
    | (at_builtin; refine appendsN _ _ ho1 hb1 (by simp; omega) hs1 rfl rfl rfl rfl ?_; intro v2 w2 ho2 hg2
       have hs2 := hg2.size))
  rw [List.nil_append] at ho1 ho2
  have hbw2 := (below_grown hg1 (Nat.le_refl _) none_lt).trans (below_grown hg2 hs1 (fun k hk => ho1.lt k hk))
  refine (FO.out _ _ ho2.rd).mono ?_
  rintro e w3 (⟨v3, zs, hz, rfl, o3, hb3⟩ | ⟨hz, -⟩)
  · rw [HF.out] at hz
    have HZ := hid (Option.some.inj hz)
    clear hz
    have hbw := hbw2.trans (hb3.mono (by omega))
    go_wp2_with fail
    go_ret2
    rw [HZ.out]
    exact ⟨_, rfl, o3.mono (by omega), hbw⟩
  · rw [HF.out] at hz; cases hz

set_option maxRecDepth 100000 in
set_option maxHeartbeats 4000000 in
theorem r_bmerge_no {w : World} {l K l' K' : Int} {zs zs' : List Nd} {v v' : Value} (hr : RdN w v zs) (hr' : RdN w v' zs') (hl : zs.length ≤ 1999) (hl' : zs'.length ≤ 1999) (hroll : Roll l zs) (hroll' : Roll l' zs') (hc : bl_code l l' (sumL zs) (sumL zs') ≠ 0) :
    Calls Tryz.prog 42 #[.agg #[.int .i64 K, .int .i64 l, v], .agg #[.int .i64 K', .int .i64 l', v']] w fun e w' => e = .returned (.tuple #[.agg #[.int .i64 0, .int .i64 0, .slice none 0 0], .int .i64 (bl_code l l' (sumL zs) (sumL zs'))]) ∧ Below w.heap.size w w' := by
  obtain ⟨p, cap, rfl⟩ := hr.val
  obtain ⟨p', cap', rfl⟩ := hr'.val
  have X := ((Blk.new w #[.int .i64 K, .int .i64 l, .slice p zs.length cap] 37).alloc (.cells #[.int .i64 K', .int .i64 l', .slice p' zs'.length cap'] 37)).alloc (.cells #[.int .i64 0, .int .i64 0, .slice none 0 0] 37)
  have Y := (Blk.new (w.alloc (.cells #[.int .i64 K, .int .i64 l, .slice p zs.length cap] 37)) #[.int .i64 K', .int .i64 l', .slice p' zs'.length cap'] 37).alloc (.cells #[.int .i64 0, .int .i64 0, .slice none 0 0] 37)
  have Z := Blk.new ((w.alloc (.cells #[.int .i64 K, .int .i64 l, .slice p zs.length cap] 37)).alloc (.cells #[.int .i64 K', .int .i64 l', .slice p' zs'.length cap'] 37)) #[.int .i64 0, .int .i64 0, .slice none 0 0] 37
  simp only [World.size_alloc] at Y Z
  have hbw1 : Below w.heap.size w (((w.alloc (.cells #[.int .i64 K, .int .i64 l, .slice p zs.length cap] 37)).alloc (.cells #[.int .i64 K', .int .i64 l', .slice p' zs'.length cap'] 37)).alloc (.cells #[.int .i64 0, .int .i64 0, .slice none 0 0] 37)) := (((Below.refl _ _).alloc (Nat.le_refl _) _).alloc (by simp) _).alloc (by simp; omega) _
  have hs1 : (((w.alloc (.cells #[.int .i64 K, .int .i64 l, .slice p zs.length cap] 37)).alloc (.cells #[.int .i64 K', .int .i64 l', .slice p' zs'.length cap'] 37)).alloc (.cells #[.int .i64 0, .int .i64 0, .slice none 0 0] 37)).heap.size = w.heap.size + 3 := by simp
  have r1 := hr.below hbw1 (Nat.le_refl _)
  have r1' := hr'.below hbw1 (Nat.le_refl _)
  have Z1 := ((Z.set 0 (.int .i64 0)).set 1 (.int .i64 0)).set 2 (.slice none 0 0)
  by_cases hll : l = l'
  · subst hll
    have WT := hid (fun W (y : RdN W (.slice p zs.length cap) zs) => r_dweight K y (by omega) hroll)
    have WT' := hid (fun W (y : RdN W (.slice p' zs'.length cap') zs') => r_dweight K' y (by omega) hroll')
    have t0 := sumL_nonneg hroll.strict.pos
    have t1 := hroll.most
    have t2 := sumL_nonneg hroll'.strict.pos
    have t3 := hroll'.most
    have hgt : 72057594037927935 - sumL zs' < sumL zs := by
      unfold bl_code at hc
      rw [if_neg (fun q => q rfl)] at hc
      split at hc
      · assumption
      · exact absurd rfl hc
    have hcode : Hid (bl_code l l (sumL zs) (sumL zs') = 5) := by
      show _ = _
      unfold bl_code; rw [if_neg (fun q => q rfl), if_pos hgt]
    rw [hcode.out]
    generalize sumL zs = S at *
    generalize sumL zs' = S' at *
    have hw0 : IntKind.i64.wrap (72057594037927935 - S') = 72057594037927935 - S' := IntWalk.i64_in _ ⟨by omega, by omega⟩
    have hgd : decide (72057594037927935 - S' < S) = true := decide_eq_true hgt
    clear hc hroll hroll' hcode Z1 hr hr'
    go_enter Tryz.func42, Tryz.ntmps42
    go_wp2_with fail
    generalize (((w.alloc (.cells #[.int .i64 K, .int .i64 l, .slice p zs.length cap] 37)).alloc (.cells #[.int .i64 K', .int .i64 l, .slice p' zs'.length cap'] 37)).alloc (.cells #[.int .i64 0, .int .i64 0, .slice none 0 0] 37)) = w1 at *
    have FX := hid (fun W (hb : Below w1.heap.size w1 W) => show W.cell? ⟨w.heap.size, 0, none⟩ = some (.int .i64 K) ∧ W.cell? ⟨w.heap.size, 1, none⟩ = some (.int .i64 l) ∧ W.cell? ⟨w.heap.size, 2, none⟩ = some (.slice p zs.length cap) ∧ W.cell? ⟨w.heap.size + 1, 0, none⟩ = some (.int .i64 K') ∧ W.cell? ⟨w.heap.size + 1, 1, none⟩ = some (.int .i64 l) ∧ W.cell? ⟨w.heap.size + 1, 2, none⟩ = some (.slice p' zs'.length cap') ∧ Below w1.heap.size w1 W from
      ⟨(X.below hb (Nat.le_refl _)).cell 0, (X.below hb (Nat.le_refl _)).cell 1, (X.below hb (Nat.le_refl _)).cell 2, (Y.below hb (Nat.le_refl _)).cell 0, (Y.below hb (Nat.le_refl _)).cell 1, (Y.below hb (Nat.le_refl _)).cell 2, hb⟩)
    have hB0 := Below.refl w1.heap.size w1
    go_region_held3 (fun w' => w'.cell? ⟨w.heap.size, 0, none⟩ = some (.int .i64 K) ∧ w'.cell? ⟨w.heap.size, 1, none⟩ = some (.int .i64 l) ∧ w'.cell? ⟨w.heap.size, 2, none⟩ = some (.slice p zs.length cap) ∧ w'.cell? ⟨w.heap.size + 1, 0, none⟩ = some (.int .i64 K') ∧ w'.cell? ⟨w.heap.size + 1, 1, none⟩ = some (.int .i64 l) ∧ w'.cell? ⟨w.heap.size + 1, 2, none⟩ = some (.slice p' zs'.length cap') ∧ Below w1.heap.size w1 w')
      (first
        | exact FX.out _ (below_drewN hB0 1)
        | exact FX.out _ hBn)
      (first
        | (go_at_call_of 43 (Value.agg #[.int .i64 K, .int .i64 l, .slice p zs.length cap]); have hBa := (‹_ ∧ _ ∧ _ ∧ _ ∧ _ ∧ _ ∧ Below w1.heap.size w1 _›).2.2.2.2.2.2; refine (WT.out _ (r1.below hBa (Nat.le_refl _))).mono ?_; rintro e w5 ⟨rfl, hb5⟩
           have hBn := hBa.trans (hb5.mono hBa.size))
        | (go_at_call_of 43 (Value.agg #[.int .i64 K', .int .i64 l, .slice p' zs'.length cap']); have hBa := (‹_ ∧ _ ∧ _ ∧ _ ∧ _ ∧ _ ∧ Below w1.heap.size w1 _›).2.2.2.2.2.2; refine (WT'.out _ (r1'.below hBa (Nat.le_refl _))).mono ?_; rintro e w5 ⟨rfl, hb5⟩
           have hBn := hBa.trans (hb5.mono hBa.size)))
    all_goals
      have Z2 := Z.below hBn (Nat.le_refl _)
      have zz0 := Z2.cell 0
      have zz1 := Z2.cell 1
      have zz2 := Z2.cell 2
      have f0 := Z2.free 0
      have f1 := Z2.free 1
      have f2 := Z2.free 2
      have hlz := Z2.lt
      have Z3 := ((Z2.set 0 (.int .i64 0)).set 1 (.int .i64 0)).set 2 (.slice none 0 0)
      have z0 : World.cell? _ ⟨w.heap.size + 2, 0, none⟩ = some (.int .i64 0) := Z3.cell 0
      have z1 : World.cell? _ ⟨w.heap.size + 2, 1, none⟩ = some (.int .i64 0) := Z3.cell 1
      have z2 : World.cell? _ ⟨w.heap.size + 2, 2, none⟩ = some (.slice none 0 0) := Z3.cell 2
      have hbw := hbw1.trans (hBn.mono (by omega))
      go_wp2_with fail
      exact bodyPost_ret (v := .tuple #[.agg #[.int .i64 0, .int .i64 0, .slice none 0 0], .int .i64 5]) (by simp [results, Tryz.results42, go_sem, z0, z1, z2]) rfl ⟨rfl, ((hbw.setCell (p := ⟨w.heap.size + 2, 0, none⟩) (by show w.heap.size ≤ w.heap.size + 2; omega) _).setCell (p := ⟨w.heap.size + 2, 1, none⟩) (by show w.heap.size ≤ w.heap.size + 2; omega) _).setCell (p := ⟨w.heap.size + 2, 2, none⟩) (by show w.heap.size ≤ w.heap.size + 2; omega) _⟩
  · have hcode : Hid (bl_code l l' (sumL zs) (sumL zs') = 6) := by
      show _ = _
      unfold bl_code; rw [if_pos hll]
    rw [hcode.out]
    have hq : (l != l') = true := by simpa using hll
    have zz0 := Z.cell 0
    have zz1 := Z.cell 1
    have zz2 := Z.cell 2
    have f0 := Z.free 0
    have f1 := Z.free 1
    have f2 := Z.free 2
    have z0 : World.cell? _ ⟨w.heap.size + 2, 0, none⟩ = some (.int .i64 0) := Z1.cell 0
    have z1 : World.cell? _ ⟨w.heap.size + 2, 1, none⟩ = some (.int .i64 0) := Z1.cell 1
    have z2 : World.cell? _ ⟨w.heap.size + 2, 2, none⟩ = some (.slice none 0 0) := Z1.cell 2
    have hbw2 := ((hbw1.setCell (p := ⟨w.heap.size + 2, 0, none⟩) (by show w.heap.size ≤ w.heap.size + 2; omega) (.int .i64 0)).setCell (p := ⟨w.heap.size + 2, 1, none⟩) (by show w.heap.size ≤ w.heap.size + 2; omega) (.int .i64 0)).setCell (p := ⟨w.heap.size + 2, 2, none⟩) (by show w.heap.size ≤ w.heap.size + 2; omega) (.slice none 0 0)
    clear hc hroll hroll' hcode Z1 hr hr' X Y Z r1 r1' hbw2
    go_enter Tryz.func42, Tryz.ntmps42
    go_wp2_with fail
    exact bodyPost_ret (v := .tuple #[.agg #[.int .i64 0, .int .i64 0, .slice none 0 0], .int .i64 6]) (by simp [results, Tryz.results42, go_sem]) rfl ⟨rfl, hbw1⟩

def RMgPost (l k : Int) (Z : List Nd) (w : World) (e : Ending) (w' : World) : Prop := ∃ v, e = .returned (.tuple #[.agg #[.int .i64 k, .int .i64 l, v], .int .i64 0]) ∧ RdN w' v Z ∧ Below w.heap.size w w'
/-- The same; its nodes lie in memory of its own. -/
def RMgPostF (l k : Int) (Z : List Nd) (w : World) (e : Ending) (w' : World) : Prop := ∃ v, e = .returned (.tuple #[.agg #[.int .i64 k, .int .i64 l, v], .int .i64 0]) ∧ RdN w' v Z ∧ (∀ j, v.ownBlock = some j → w.heap.size ≤ j) ∧ Below w.heap.size w w'

set_option maxRecDepth 100000 in
set_option maxHeartbeats 4000000 in
theorem r_bmergeF {w : World} {l K K' : Int} {zs zs' : List Nd} {v v' : Value} (hr : RdN w v zs) (hr' : RdN w v' zs') (d : Dg l K zs) (d' : Dg l K' zs') (hz : zs.length + zs'.length ≤ 1999) (hs : sumL zs + sumL zs' ≤ 72057594037927935) :
    Calls Tryz.prog 42 #[.agg #[.int .i64 K, .int .i64 l, v], .agg #[.int .i64 K', .int .i64 l, v']] w (RMgPostF l (min K K') (mergeL l (min K K') zs zs') w) := by
  have hroll := d.roll
  have hroll' := d'.roll
  have k1 := d.k1
  have k2 := d.k2
  have k1' := d'.k1
  have k2' := d'.k2
  obtain ⟨p, cap, rfl⟩ := hr.val
  obtain ⟨p', cap', rfl⟩ := hr'.val
  have X := ((Blk.new w #[.int .i64 K, .int .i64 l, .slice p zs.length cap] 37).alloc (.cells #[.int .i64 K', .int .i64 l, .slice p' zs'.length cap'] 37)).alloc (.cells #[.int .i64 0, .int .i64 0, .slice none 0 0] 37)
  have Y := (Blk.new (w.alloc (.cells #[.int .i64 K, .int .i64 l, .slice p zs.length cap] 37)) #[.int .i64 K', .int .i64 l, .slice p' zs'.length cap'] 37).alloc (.cells #[.int .i64 0, .int .i64 0, .slice none 0 0] 37)
  have Z := Blk.new ((w.alloc (.cells #[.int .i64 K, .int .i64 l, .slice p zs.length cap] 37)).alloc (.cells #[.int .i64 K', .int .i64 l, .slice p' zs'.length cap'] 37)) #[.int .i64 0, .int .i64 0, .slice none 0 0] 37
  simp only [World.size_alloc] at Y Z
  have hbw1 : Below w.heap.size w (((w.alloc (.cells #[.int .i64 K, .int .i64 l, .slice p zs.length cap] 37)).alloc (.cells #[.int .i64 K', .int .i64 l, .slice p' zs'.length cap'] 37)).alloc (.cells #[.int .i64 0, .int .i64 0, .slice none 0 0] 37)) := (((Below.refl _ _).alloc (Nat.le_refl _) _).alloc (by simp) _).alloc (by simp; omega) _
  have hs1 : (((w.alloc (.cells #[.int .i64 K, .int .i64 l, .slice p zs.length cap] 37)).alloc (.cells #[.int .i64 K', .int .i64 l, .slice p' zs'.length cap'] 37)).alloc (.cells #[.int .i64 0, .int .i64 0, .slice none 0 0] 37)).heap.size = w.heap.size + 3 := by simp
  have r1 := hr.below hbw1 (Nat.le_refl _)
  have r1' := hr'.below hbw1 (Nat.le_refl _)
  have WT := hid (fun W (y : RdN W (.slice p zs.length cap) zs) => r_dweight K y (by omega) hroll)
  have WT' := hid (fun W (y : RdN W (.slice p' zs'.length cap') zs') => r_dweight K' y (by omega) hroll')
  have t0 := sumL_nonneg hroll.strict.pos
  have t1 := hroll.most
  have t2 := sumL_nonneg hroll'.strict.pos
  have t3 := hroll'.most
  obtain ⟨k, ek⟩ : ∃ k, min K K' = k := ⟨_, rfl⟩
  have hk1 : 1 ≤ k := by omega
  have hkK : k ≤ K := by omega
  have hkK' : k ≤ K' := by omega
  obtain ⟨a1, a2, a3, a4⟩ := low_spec d hk1 hkK
  obtain ⟨b1, b2, b3, b4⟩ := low_spec d' hk1 hkK'
  have hJ := (join_spec a1.roll b1.roll (by omega)).1
  have RL := hid (fun W (z : RdN W (.slice p zs.length cap) zs) => r_blower k z (by omega) hroll hk1 hkK ⟨by omega, by omega⟩)
  have RL' := hid (fun W (z : RdN W (.slice p' zs'.length cap') zs') => r_blower k z (by omega) hroll' hk1 hkK' ⟨by omega, by omega⟩)
  have JN := hid (fun W va vb (x : RdN W va (lowL l k zs)) (y : RdN W vb (lowL l k zs')) => r_join W x y (by omega) hJ)
  rw [ek]
  have hM : joinL (lowL l k zs) (lowL l k zs') = mergeL l k zs zs' := rfl
  rw [hM] at JN
  generalize mergeL l k zs zs' = M at *
  generalize lowL l k zs = A at *
  generalize lowL l k zs' = B at *
  generalize sumL zs = S at *
  generalize sumL zs' = S' at *
  have hw0 : IntKind.i64.wrap (72057594037927935 - S') = 72057594037927935 - S' := IntWalk.i64_in _ ⟨by omega, by omega⟩
  have hgd : decide (72057594037927935 - S' < S) = false := decide_eq_false (by omega)
  have hcase : (K ≤ K' ∧ K = k) ∨ (K' < K ∧ K' = k) := by omega
  clear hroll hroll' hr hr' d d' a1 a2 a3 a4 b1 b2 b3 b4 hJ hM ek
  go_enter Tryz.func42, Tryz.ntmps42
  go_wp2_with fail
  generalize (((w.alloc (.cells #[.int .i64 K, .int .i64 l, .slice p zs.length cap] 37)).alloc (.cells #[.int .i64 K', .int .i64 l, .slice p' zs'.length cap'] 37)).alloc (.cells #[.int .i64 0, .int .i64 0, .slice none 0 0] 37)) = w1 at *
  go_upto_region 3 with fail
  go_cut [24] (fun sv wx => sv = .bool false ∧ Below w1.heap.size w1 wx)
  case first =>
    have FX := hid (fun W (hb : Below w1.heap.size w1 W) => show W.cell? ⟨w.heap.size, 0, none⟩ = some (.int .i64 K) ∧ W.cell? ⟨w.heap.size, 1, none⟩ = some (.int .i64 l) ∧ W.cell? ⟨w.heap.size, 2, none⟩ = some (.slice p zs.length cap) ∧ W.cell? ⟨w.heap.size + 1, 0, none⟩ = some (.int .i64 K') ∧ W.cell? ⟨w.heap.size + 1, 1, none⟩ = some (.int .i64 l) ∧ W.cell? ⟨w.heap.size + 1, 2, none⟩ = some (.slice p' zs'.length cap') ∧ Below w1.heap.size w1 W from
      ⟨(X.below hb (Nat.le_refl _)).cell 0, (X.below hb (Nat.le_refl _)).cell 1, (X.below hb (Nat.le_refl _)).cell 2, (Y.below hb (Nat.le_refl _)).cell 0, (Y.below hb (Nat.le_refl _)).cell 1, (Y.below hb (Nat.le_refl _)).cell 2, hb⟩)
    have hB0 := Below.refl w1.heap.size w1
    go_region_held3 (fun w' => w'.cell? ⟨w.heap.size, 0, none⟩ = some (.int .i64 K) ∧ w'.cell? ⟨w.heap.size, 1, none⟩ = some (.int .i64 l) ∧ w'.cell? ⟨w.heap.size, 2, none⟩ = some (.slice p zs.length cap) ∧ w'.cell? ⟨w.heap.size + 1, 0, none⟩ = some (.int .i64 K') ∧ w'.cell? ⟨w.heap.size + 1, 1, none⟩ = some (.int .i64 l) ∧ w'.cell? ⟨w.heap.size + 1, 2, none⟩ = some (.slice p' zs'.length cap') ∧ Below w1.heap.size w1 w')
      (first
        | exact FX.out _ (below_drewN hB0 1)
        | exact FX.out _ hBn)
      (first
        | (go_at_call_of 43 (Value.agg #[.int .i64 K, .int .i64 l, .slice p zs.length cap]); have hBa := (‹_ ∧ _ ∧ _ ∧ _ ∧ _ ∧ _ ∧ Below w1.heap.size w1 _›).2.2.2.2.2.2; refine (WT.out _ (r1.below hBa (Nat.le_refl _))).mono ?_; rintro e w5 ⟨rfl, hb5⟩
           have hBn := hBa.trans (hb5.mono hBa.size))
        | (go_at_call_of 43 (Value.agg #[.int .i64 K', .int .i64 l, .slice p' zs'.length cap']); have hBa := (‹_ ∧ _ ∧ _ ∧ _ ∧ _ ∧ _ ∧ Below w1.heap.size w1 _›).2.2.2.2.2.2; refine (WT'.out _ (r1'.below hBa (Nat.le_refl _))).mono ?_; rintro e w5 ⟨rfl, hb5⟩
           have hBn := hBa.trans (hb5.mono hBa.size)))
    all_goals
      go_wp2_with fail
      go_meet
      exact ⟨rfl, hBn⟩
  case rest =>
    obtain ⟨rfl, hb2⟩ := hcut
    obtain ⟨w2, rfl⟩ : ∃ x, x = wc := ⟨_, rfl⟩
    have hs2 := hb2.size
    have X2 := X.below hb2 (Nat.le_refl _)
    have Y2 := Y.below hb2 (Nat.le_refl _)
    have Z2 := Z.below hb2 (Nat.le_refl _)
    have r2 := r1.below hb2 (Nat.le_refl _)
    have q2 := r1'.below hb2 (Nat.le_refl _)
    have hbw2 := hbw1.trans (hb2.mono hbw1.size)
    clear X Y Z r1 r1' hb2 hbw1 hw0 hgd WT WT'
    have x0 := X2.cell 0
    have y0 := Y2.cell 0
    go_upto_if 31 with fail
    go_cut [6] (fun sv wx => sv = .int .i64 k ∧ w2 = wx)
    case first =>
      rcases hcase with ⟨hmn, ekk⟩ | ⟨hmn, ekk⟩
      all_goals
        have Ekk := hid ekk
        clear ekk
        go_wp2_with fail
        go_meet
        exact ⟨by rw [Ekk.out], rfl⟩
    case rest =>
      obtain ⟨rfl, rfl⟩ := hcut
      clear x0 y0 hcase
      have x0 := X2.cell 0
      have x1 := X2.cell 1
      have x2 := X2.cell 2
      go_wp2_with fail
      refine (RL.out _ r2).mono ?_
      rintro e w3 ⟨v3, rfl, m3, hb3⟩
      clear r2
      have hs3 := hb3.size
      have X3 := X2.below hb3 (Nat.le_refl _)
      have Y3 := Y2.below hb3 (Nat.le_refl _)
      have Z3 := Z2.below hb3 (Nat.le_refl _)
      have q3 := q2.below hb3 (Nat.le_refl _)
      have hbw3 := hbw2.trans (hb3.mono hbw2.size)
      clear x0 x1 x2
      clear X2 Y2 Z2 q2 hbw2
      obtain ⟨p3, c3, rfl⟩ := m3.val
      have y0 : World.cell? _ ⟨w.heap.size + 1, 0, none⟩ = _ := (Y3.alloc (.cells #[.int .i64 k, .int .i64 l, .slice p3 A.length c3] 37)).cell 0
      have y1 : World.cell? _ ⟨w.heap.size + 1, 1, none⟩ = _ := (Y3.alloc (.cells #[.int .i64 k, .int .i64 l, .slice p3 A.length c3] 37)).cell 1
      have y2 : World.cell? _ ⟨w.heap.size + 1, 2, none⟩ = _ := (Y3.alloc (.cells #[.int .i64 k, .int .i64 l, .slice p3 A.length c3] 37)).cell 2
      have hb4 : Below w3.heap.size w3 (w3.alloc (.cells #[.int .i64 k, .int .i64 l, .slice p3 A.length c3] 37)) := (Below.refl _ _).alloc (Nat.le_refl _) _
      have P4 := Blk.new w3 #[.int .i64 k, .int .i64 l, .slice p3 A.length c3] 37
      have hs4 : (w3.alloc (.cells #[.int .i64 k, .int .i64 l, .slice p3 A.length c3] 37)).heap.size = w3.heap.size + 1 := by simp
      have X4 := X3.below hb4 (Nat.le_refl _)
      have Y4 := Y3.below hb4 (Nat.le_refl _)
      have Z4 := Z3.below hb4 (Nat.le_refl _)
      have q4 := q3.below hb4 (Nat.le_refl _)
      have m4 := m3.below hb4 (Nat.le_refl _)
      have hbw4 := hbw3.trans (hb4.mono hbw3.size)
      clear X3 Y3 Z3 q3 m3 hbw3
      go_wp2_with fail
      generalize (w3.alloc (.cells #[.int .i64 k, .int .i64 l, .slice p3 A.length c3] 37)) = w4 at *
      clear y0 y1 y2
      refine (RL'.out _ q4).mono ?_
      rintro e w5 ⟨v5, rfl, n5, hb5⟩
      clear q4
      have hs5 := hb5.size
      have X5 := X4.below hb5 (Nat.le_refl _)
      have Y5 := Y4.below hb5 (Nat.le_refl _)
      have Z5 := Z4.below hb5 (Nat.le_refl _)
      have m5 := m4.below hb5 (Nat.le_refl _)
      have P5 := P4.below hb5 (Nat.le_refl _)
      have hbw5 := hbw4.trans (hb5.mono hbw4.size)
      clear X4 Y4 Z4 m4 P4 hbw4
      obtain ⟨p5, c5, rfl⟩ := n5.val
      have g0 : World.cell? _ ⟨w3.heap.size, 2, none⟩ = _ := (P5.alloc (.cells #[.int .i64 k, .int .i64 l, .slice p5 B.length c5] 37)).cell 2
      have g1 : World.cell? (w5.alloc (.cells #[.int .i64 k, .int .i64 l, .slice p5 B.length c5] 37)) ⟨w5.heap.size, 2, none⟩ = _ := (Blk.new w5 #[.int .i64 k, .int .i64 l, .slice p5 B.length c5] 37).cell 2
      have hb6 : Below w5.heap.size w5 (w5.alloc (.cells #[.int .i64 k, .int .i64 l, .slice p5 B.length c5] 37)) := (Below.refl _ _).alloc (Nat.le_refl _) _
      have Q6 := Blk.new w5 #[.int .i64 k, .int .i64 l, .slice p5 B.length c5] 37
      have hs6 : (w5.alloc (.cells #[.int .i64 k, .int .i64 l, .slice p5 B.length c5] 37)).heap.size = w5.heap.size + 1 := by simp
      have X6 := X5.below hb6 (Nat.le_refl _)
      have Y6 := Y5.below hb6 (Nat.le_refl _)
      have Z6 := Z5.below hb6 (Nat.le_refl _)
      have m6 := m5.below hb6 (Nat.le_refl _)
      have P6 := P5.below hb6 (Nat.le_refl _)
      have n6 := n5.below hb6 (Nat.le_refl _)
      have hbw6 := hbw5.trans (hb6.mono hbw5.size)
      clear X5 Y5 Z5 m5 P5 n5 hbw5
      go_wp2_with fail
      generalize (w5.alloc (.cells #[.int .i64 k, .int .i64 l, .slice p5 B.length c5] 37)) = w6 at *
      clear g0 g1
      refine (JN.out _ _ _ m6 n6).mono ?_
      rintro e w7 ⟨v7, rfl, o7, hb7⟩
      clear m6 n6
      have hs7 := hb7.size
      have X7 := X6.below hb7 (Nat.le_refl _)
      have Y7 := Y6.below hb7 (Nat.le_refl _)
      have Z7 := Z6.below hb7 (Nat.le_refl _)
      have P7 := P6.below hb7 (Nat.le_refl _)
      have Q7 := Q6.below hb7 (Nat.le_refl _)
      have hbw7 := hbw6.trans (hb7.mono hbw6.size)
      clear X6 Y6 Z6 P6 Q6 hbw6
      obtain ⟨p7, c7, rfl⟩ := o7.val
      have hs4b := P7.lt
      have hzl := Z7.lt
      have o1 : NotIn (.slice p7 M.length c7) M w3.heap.size := .inr (fun i hi e => by have := o7.lt i hi; omega)
      have o2 : NotIn (.slice p7 M.length c7) M (w.heap.size + 2) := .inr (fun i hi e => by have := o7.lt i hi; omega)
      have g2 := P7.free 2
      have g0 : w7.cell? ⟨w3.heap.size, 0, none⟩ = _ := P7.cell 0
      have g1 : w7.cell? ⟨w3.heap.size, 1, none⟩ = _ := P7.cell 1
      have g3 : w7.cell? ⟨w3.heap.size, 2, none⟩ = _ := P7.cell 2
      have P8 := P7.set 2 (.slice p7 M.length c7)
      have hne : w.heap.size + 2 ≠ w3.heap.size := by omega
      have Z8 := Z7.set_other 2 (.slice p7 M.length c7) hne
      have u0 : World.cell? _ ⟨w3.heap.size, 0, none⟩ = some (.int .i64 k) := P8.cell 0
      have u1 : World.cell? _ ⟨w3.heap.size, 1, none⟩ = some (.int .i64 l) := P8.cell 1
      have u2 : World.cell? _ ⟨w3.heap.size, 2, none⟩ = some (.slice p7 M.length c7) := P8.cell 2
      have zz0 : World.cell? _ ⟨w.heap.size + 2, 0, none⟩ = some (.int .i64 0) := Z8.cell 0
      have zz1 : World.cell? _ ⟨w.heap.size + 2, 1, none⟩ = some (.int .i64 0) := Z8.cell 1
      have zz2 : World.cell? _ ⟨w.heap.size + 2, 2, none⟩ = some (.slice none 0 0) := Z8.cell 2
      have f0 := Z8.free 0
      have f1 := Z8.free 1
      have f2 := Z8.free 2
      have hlz := Z8.lt
      have Z9 := ((Z8.set 0 (.int .i64 k)).set 1 (.int .i64 l)).set 2 (.slice p7 M.length c7)
      have z0 : World.cell? _ ⟨w.heap.size + 2, 0, none⟩ = some (.int .i64 k) := Z9.cell 0
      have z1 : World.cell? _ ⟨w.heap.size + 2, 1, none⟩ = some (.int .i64 l) := Z9.cell 1
      have z2 : World.cell? _ ⟨w.heap.size + 2, 2, none⟩ = some (.slice p7 M.length c7) := Z9.cell 2
      have r9 := (((o7.rd.set_off o1 2 (.slice p7 M.length c7)).set_off o2 0 (.int .i64 k)).set_off o2 1 (.int .i64 l)).set_off o2 2 (.slice p7 M.length c7)
      have hbw9 := (((hbw7.setCell (p := ⟨w3.heap.size, 2, none⟩) (by show w.heap.size ≤ w3.heap.size; omega) (.slice p7 M.length c7)).setCell (p := ⟨w.heap.size + 2, 0, none⟩) (by show w.heap.size ≤ w.heap.size + 2; omega) (.int .i64 k)).setCell (p := ⟨w.heap.size + 2, 1, none⟩) (by show w.heap.size ≤ w.heap.size + 2; omega) (.int .i64 l)).setCell (p := ⟨w.heap.size + 2, 2, none⟩) (by show w.heap.size ≤ w.heap.size + 2; omega) (.slice p7 M.length c7)
      go_wp2_with fail
      exact bodyPost_ret (v := .tuple #[.agg #[.int .i64 k, .int .i64 l, .slice p7 M.length c7], .int .i64 0]) (by simp [results, Tryz.results42, go_sem, z0, z1, z2]) rfl ⟨_, rfl, r9, (fun j hj => by have := o7.lt j hj; omega), hbw9⟩
theorem r_bmerge {w : World} {l K K' : Int} {zs zs' : List Nd} {v v' : Value} (hr : RdN w v zs) (hr' : RdN w v' zs') (d : Dg l K zs) (d' : Dg l K' zs') (hz : zs.length + zs'.length ≤ 1999) (hs : sumL zs + sumL zs' ≤ 72057594037927935) :
    Calls Tryz.prog 42 #[.agg #[.int .i64 K, .int .i64 l, v], .agg #[.int .i64 K', .int .i64 l, v']] w (RMgPost l (min K K') (mergeL l (min K K') zs zs') w) :=
  (r_bmergeF hr hr' d d' hz hs).mono fun _ _ ⟨u, h1, h2, _, h3⟩ => ⟨u, h1, h2, h3⟩
end Go.Proofs.YtbbkfjbaocpknaaGreat
