/- The walks of package blend: lowered, Lower, wrong, Merge. -/
import Derived.Test.YtnakieopnobjmaaGreatBl1
import Derived.Test.YtnakieopnobjmaaGreatBlMath2
import Derived.Test.YtnakieopnobjmaaGreatDg3
import Derived.Deep.RegionWith
namespace Go.Proofs.YtnakieopnobjmaaGreat
open Go.RowKit Nl

theorem PoolV.is {w : World} {q g h m : Nat} {kind l : Int} {zs : List Nd} (d : PoolV w q g h kind l m zs) : poolIs kind l = true := by
  rcases d with ⟨rfl, hb, h1, h2, cs, ⟨u, t, d, v⟩, rfl⟩ | ⟨rfl, hb, h1, h2, b, xs, d, lim, hb3, rfl⟩
  · have := v.l1; have := v.l2; simp [poolIs]; omega
  · have := d.2.l1; have := d.2.l2; simp [poolIs]; omega
theorem Nl.Roll.nb {l : Int} {zs : List (Int × Int)} (r : Roll l zs) : NB zs := fun x hx => by
  have h1 := r.ids x hx
  have l1 := r.l1
  have l2 := r.l2
  have hc := r.strict.2 x hx
  have hle := Pos.le_sum r.strict.pos x hx
  have hm := r.most
  simp only [rightB, decide_eq_true_eq] at h1
  obtain ⟨n, rfl⟩ := Int.eq_ofNat_of_zero_le (show 0 ≤ l by omega)
  have := (pow48 (n := n) (by omega)).2
  simp only [Int.toNat_natCast] at h1
  exact ⟨⟨by omega, by omega⟩, ⟨by omega, by omega⟩⟩

set_option maxRecDepth 100000 in
set_option maxHeartbeats 2000000 in
theorem bl_lowered {w : World} {dg q g h m : Nat} {kind l K : Int} {zs : List Nd} (k : Int) (d : DgV w dg q g h kind l K m zs) (hm : m ≤ 100000) (hz : zs.length ≤ 1999) (hk : isK k = true) :
    Calls Tryz.prog 68 #[.pointer (some ⟨dg, 0, none⟩), .int .i64 k] w (IsNodes (lowL l k zs) w) := by
  have hroll := d.inv.roll
  have CF := hid (dg_conf d)
  have ND := hid (fun W (x : DgV W dg q g h kind l K m zs) => dg_nodes x hm)
  have LD := hid (fun W v (x : RdN W v zs) => pl_load kind l W d.pool.is (rollB_iff.2 hroll) x hroll.nb (by omega))
  have RN := hid (fun W q g h (x : PoolV W q g h kind l 2000 zs) => p_Run k hk x (by decide) (by omega) (by omega))
  have hlow : Hid (lowL l k zs = (runR l (capV (sumL zs) k) zs).1) := rfl
  have hlen := (run_facts (most := capV (sumL zs) k) hroll).2.2.1
  generalize runR l (capV (sumL zs) k) zs = R at *
  obtain ⟨Z, st⟩ := R
  have SN := hid (fun W q g h (x : PoolV W q g h kind l 2000 Z) => pl_snap x (by decide))
  clear hroll hlen
  go_enter Tryz.func68, Tryz.ntmps68
  go_wp2_with fail
  refine CF.out.mono ?_
  rintro e w1 ⟨rfl, hb1⟩
  have hs1 := hb1.size
  have hba : Below w1.heap.size w1 (w1.alloc (.cells #[.int .i64 l, .int .i64 K, .int .i64 kind] 23)) := (Below.refl _ _).alloc (Nat.le_refl _) _
  have X := Blk.new w1 #[.int .i64 l, .int .i64 K, .int .i64 kind] 23
  have hsa : (w1.alloc (.cells #[.int .i64 l, .int .i64 K, .int .i64 kind] 23)).heap.size = w1.heap.size + 1 := by simp
  have d2 := (d.below hb1 (Nat.le_refl _)).below hba (Nat.le_refl _)
  have hbw := hb1.trans (hba.mono hs1)
  clear CF d
  go_wp2_with fail
  generalize (w1.alloc (.cells #[.int .i64 l, .int .i64 K, .int .i64 kind] 23)) = w2 at *
  have x0 : w2.cell? ⟨w1.heap.size, 0, none⟩ = some (.int .i64 l) := X.cell 0
  have x2 : w2.cell? ⟨w1.heap.size, 2, none⟩ = some (.int .i64 kind) := X.cell 2
  have hl0 : w1.heap.size < w2.heap.size := by omega
  have hB0 := Below.refl w2.heap.size w2
  go_region_held3 (fun w' => w'.cell? ⟨w1.heap.size, 0, none⟩ = some (.int .i64 l) ∧ w'.cell? ⟨w1.heap.size, 2, none⟩ = some (.int .i64 kind) ∧ Below w2.heap.size w2 w')
    (first
      | exact ⟨x0, x2, below_drewN hB0 1⟩
      | exact ⟨(X.below' hB5 hl0).cell 0, (X.below' hB5 hl0).cell 2, hB5⟩
      | exact ⟨(X.below' hB6 hl0).cell 0, (X.below' hB6 hl0).cell 2, hB6⟩)
    (first
      | (go_at_call 31; have hB4 := (‹_ ∧ _ ∧ Below w2.heap.size w2 _›).2.2; refine (ND.out _ (d2.below hB4 (Nat.le_refl _))).mono ?_; rintro e w5 ⟨v5, rfl, o5, hb5⟩
         have hB5 := hB4.trans (hb5.mono hB4.size))
      | (go_at_call 101; refine (LD.out _ _ o5.rd).mono ?_; rintro e w6 ⟨q6, g6, h6, rfl, d6, hq6, hg6, hh6, hb6⟩
         have hB6 := hB5.trans (hb6.mono hB5.size)))
  have hB6' := hbw.trans (hB6.mono hbw.size)
  have d6' := d6.mono (m' := 2000) (by omega)
  have hsB := hB5.size
  clear d6 LD ND hb6
  go_wp2_with fail
  refine (RN.out _ _ _ _ d6').mono ?_
  rintro e w7 ⟨rfl, h7, d7, hh7, c7⟩
  have hs7 := c7.size
  go_wp2_with fail
  refine (SN.out _ _ _ _ d7).mono ?_
  rintro e w8 ⟨v8, rfl, o8, hb8⟩
  go_wp2_with fail
  go_ret
  rw [hlow.out]
  have hB7 : Below w.heap.size w w7 := hB6'.trans (c7.below (fun j _ hj => by rcases hj with e | e | e <;> omega) hB6'.size)
  exact ⟨_, rfl, o8.mono hB7.size, hB7.trans (hb8.mono hB7.size)⟩

def bl_code (l l' t t' : Int) : Int := if l ≠ l' then 6 else if 72057594037927935 - t' < t then 5 else 0

set_option maxRecDepth 100000 in
set_option maxHeartbeats 2000000 in
theorem bl_lower {w : World} {dg q g h m : Nat} {kind l K : Int} {zs : List Nd} (k : Int) (d : DgV w dg q g h kind l K m zs) (hm : m ≤ 100000) (hz : zs.length ≤ 1999) (h1 : 1 ≤ k) (h2 : k ≤ K) :
    Calls Tryz.prog 38 #[.pointer (some ⟨dg, 0, none⟩), .int .i64 k] w (DgNew kind l k 2000 (lowL l k zs) w) := by
  obtain ⟨g1, g2, g3, g4⟩ := low_spec d.inv h1 h2
  have k2 := d.inv.k2
  have hk : isK k = true := decide_eq_true ⟨h1, by omega⟩
  have CF := hid (dg_conf d)
  have LW := hid (fun W (x : DgV W dg q g h kind l K m zs) => bl_lowered k x hm hz hk)
  have h0 : loadE kind l k (lowL l k zs) = 0 := by
    unfold loadE
    rw [if_neg (by rw [d.pool.is, hk]; decide), if_neg (by rw [rollB_iff.2 g1.roll]; decide), if_neg (fun q => q.elim (fun q => by omega) (fun q => by rw [g1.light] at q; cases q))]
  have DL := hid (fun W v (x : RdN W v (lowL l k zs)) => dg_load kind l k x g1.roll.nb (by omega) h0)
  generalize lowL l k zs = Z at *
  clear g1 g2 g3 g4 h0 hk
  go_enter Tryz.func38, Tryz.ntmps38
  go_wp2_with fail
  refine CF.out.mono ?_
  rintro e w1 ⟨rfl, hb1⟩
  have hs1 := hb1.size
  have hba : Below w1.heap.size w1 (w1.alloc (.cells #[.int .i64 l, .int .i64 K, .int .i64 kind] 23)) := (Below.refl _ _).alloc (Nat.le_refl _) _
  have X := Blk.new w1 #[.int .i64 l, .int .i64 K, .int .i64 kind] 23
  have hsa : (w1.alloc (.cells #[.int .i64 l, .int .i64 K, .int .i64 kind] 23)).heap.size = w1.heap.size + 1 := by simp
  have d2 := (d.below hb1 (Nat.le_refl _)).below hba (Nat.le_refl _)
  have hbw := hb1.trans (hba.mono hs1)
  clear CF d
  go_wp2_with fail
  generalize (w1.alloc (.cells #[.int .i64 l, .int .i64 K, .int .i64 kind] 23)) = w2 at *
  refine (LW.out _ d2).mono ?_
  rintro e w3 ⟨v3, rfl, o3, hb3⟩
  have hs3 := hb3.size
  have X3 := X.below hb3 (Nat.le_refl _)
  have hl0 : w1.heap.size < w3.heap.size := by omega
  have x0 : w3.cell? ⟨w1.heap.size, 0, none⟩ = some (.int .i64 l) := X3.cell 0
  have x1 : w3.cell? ⟨w1.heap.size, 1, none⟩ = some (.int .i64 K) := X3.cell 1
  have x2 : w3.cell? ⟨w1.heap.size, 2, none⟩ = some (.int .i64 kind) := X3.cell 2
  have f1 := X3.free 1
  have hbw3 := hbw.trans (hb3.mono hbw.size)
  go_wp2_with fail
  have r4 : RdN (w3.setCell ⟨w1.heap.size, 1, none⟩ (.int .i64 k)) v3 Z := o3.rd.keep (fun j hj hv => Below.heap_setCell _ _ _ _ (by have := o3.lt j hv; show j ≠ w1.heap.size; omega)) (by simp)
  refine (DL.out _ _ r4).mono ?_
  rintro e w5 ⟨dg', q', g', h', rfl, d5, e1, e2, e3, e4, hb5⟩
  have hbw4 := hbw3.setCell (p := ⟨w1.heap.size, 1, none⟩) hs1 (.int .i64 k)
  simp only [World.size_setCell] at e1 e2 e3 e4
  go_wp2_with fail
  go_ret2
  exact ⟨dg', q', g', h', rfl, d5, by omega, by omega, by omega, by omega, hbw4.trans (hb5.mono hbw4.size)⟩

set_option maxRecDepth 100000 in
set_option maxHeartbeats 2000000 in
theorem bl_lower_no {w : World} {dg q g h m : Nat} {kind l K : Int} {zs : List Nd} (k : Int) (d : DgV w dg q g h kind l K m zs) (hk : k < 1 ∨ K < k) :
    Calls Tryz.prog 38 #[.pointer (some ⟨dg, 0, none⟩), .int .i64 k] w fun e w' => e = .returned (.tuple #[.pointer none, .int .i64 2]) ∧ Below w.heap.size w w' := by
  have CF := hid (dg_conf d)
  have hk2 : k < 1 ∨ (1 ≤ k ∧ K < k) := by omega
  clear d hk
  rcases hk2 with h1 | ⟨h1, h2⟩
  all_goals
    go_enter Tryz.func38, Tryz.ntmps38
    go_wp2_with fail
    refine CF.out.mono ?_
    rintro e w1 ⟨rfl, hb1⟩
    have hs1 := hb1.size
    go_wp2_with fail
    go_ret2
    exact ⟨rfl, hb1.trans (((Below.refl _ _).alloc (Nat.le_refl _) _).mono hs1)⟩

set_option maxRecDepth 100000 in
set_option maxHeartbeats 2000000 in
theorem bl_wrong {w : World} {dg q g h m dg' q' g' h' m' : Nat} {kind l K kind' l' K' : Int} {zs zs' : List Nd} (d : DgV w dg q g h kind l K m zs) (d' : DgV w dg' q' g' h' kind' l' K' m' zs') :
    Calls Tryz.prog 66 #[.pointer (some ⟨dg, 0, none⟩), .pointer (some ⟨dg', 0, none⟩)] w fun e w' => e = .returned (.int .i64 (bl_code l l' (sumL zs) (sumL zs'))) ∧ Below w.heap.size w w' := by
  have CF := hid (dg_conf d)
  have CF' := hid (fun W (x : DgV W dg' q' g' h' kind' l' K' m' zs') => dg_conf x)
  have DN := hid (fun W (x : DgV W dg q g h kind l K m zs) => dg_n x)
  have DN' := hid (fun W (x : DgV W dg' q' g' h' kind' l' K' m' zs') => dg_n x)
  have t0 := sumL_nonneg d.inv.roll.strict.pos
  have t1 := d.inv.roll.most
  have t2 := sumL_nonneg d'.inv.roll.strict.pos
  have t3 := d'.inv.roll.most
  obtain ⟨t, et⟩ : ∃ x, sumL zs = x := ⟨_, rfl⟩
  obtain ⟨t', et'⟩ : ∃ x, sumL zs' = x := ⟨_, rfl⟩
  rw [et] at t0 t1 DN ⊢
  rw [et'] at t2 t3 DN' ⊢
  clear et et'
  by_cases hl : l = l'
  · have hq : (l != l') = false := by simp [hl]
    by_cases hc : 72057594037927935 - t' < t
    · have ec : Hid (bl_code l l' t t' = 5) := by show _ = _; unfold bl_code; rw [if_neg (fun q => q hl), if_pos hc]
      rw [ec.out]
      clear hl
      go_enter Tryz.func66, Tryz.ntmps66
      go_wp2_with fail
      refine CF.out.mono ?_
      rintro e w1 ⟨rfl, hb1⟩
      have hs1 := hb1.size
      have d1 := d.below hb1 (Nat.le_refl _)
      have d1' := d'.below hb1 (Nat.le_refl _)
      go_wp2_with fail
      rename_i KK hKK
      show KK (Act.put _ (some 15) (Value.int .i64 l)) w1
      refine hKK _ _ ?_
      clear hKK
      go_wp2_with fail
      refine (CF'.out _ d1').mono ?_
      rintro e w2 ⟨rfl, hb2⟩
      have d2 := d1.below hb2 (Nat.le_refl _)
      have d2' := d1'.below hb2 (Nat.le_refl _)
      have hbw := hb1.trans (hb2.mono hs1)
      go_wp2_with fail
      rename_i KK hKK
      show KK (Act.put _ (some 18) (Value.int .i64 l')) w2
      refine hKK _ _ ?_
      clear hKK
      go_wp2_with fail
      refine (DN.out _ d2).mono ?_
      rintro e w3 ⟨rfl, rfl⟩
      go_wp2_with fail
      refine (DN'.out _ d2').mono ?_
      rintro e w3 ⟨rfl, rfl⟩
      go_wp2_with fail
      go_ret
      exact ⟨rfl, hbw⟩
    · have ec : Hid (bl_code l l' t t' = 0) := by show _ = _; unfold bl_code; rw [if_neg (fun q => q hl), if_neg hc]
      rw [ec.out]
      clear hl
      go_enter Tryz.func66, Tryz.ntmps66
      go_wp2_with fail
      refine CF.out.mono ?_
      rintro e w1 ⟨rfl, hb1⟩
      have hs1 := hb1.size
      have d1 := d.below hb1 (Nat.le_refl _)
      have d1' := d'.below hb1 (Nat.le_refl _)
      go_wp2_with fail
      rename_i KK hKK
      show KK (Act.put _ (some 15) (Value.int .i64 l)) w1
      refine hKK _ _ ?_
      clear hKK
      go_wp2_with fail
      refine (CF'.out _ d1').mono ?_
      rintro e w2 ⟨rfl, hb2⟩
      have d2 := d1.below hb2 (Nat.le_refl _)
      have d2' := d1'.below hb2 (Nat.le_refl _)
      have hbw := hb1.trans (hb2.mono hs1)
      go_wp2_with fail
      rename_i KK hKK
      show KK (Act.put _ (some 18) (Value.int .i64 l')) w2
      refine hKK _ _ ?_
      clear hKK
      go_wp2_with fail
      refine (DN.out _ d2).mono ?_
      rintro e w3 ⟨rfl, rfl⟩
      go_wp2_with fail
      refine (DN'.out _ d2').mono ?_
      rintro e w3 ⟨rfl, rfl⟩
      go_wp2_with fail
      go_ret
      exact ⟨rfl, hbw⟩
  · have hq : (l != l') = true := by simpa using hl
    have ec : Hid (bl_code l l' t t' = 6) := by show _ = _; unfold bl_code; rw [if_pos hl]
    rw [ec.out]
    clear hl
    go_enter Tryz.func66, Tryz.ntmps66
    go_wp2_with fail
    refine CF.out.mono ?_
    rintro e w1 ⟨rfl, hb1⟩
    have hs1 := hb1.size
    have d1' := d'.below hb1 (Nat.le_refl _)
    go_wp2_with fail
    rename_i KK hKK
    show KK (Act.put _ (some 15) (Value.int .i64 l)) w1
    refine hKK _ _ ?_
    clear hKK
    go_wp2_with fail
    refine (CF'.out _ d1').mono ?_
    rintro e w2 ⟨rfl, hb2⟩
    have hbw := hb1.trans (hb2.mono hs1)
    go_wp2_with fail
    rename_i KK hKK
    show KK (Act.put _ (some 18) (Value.int .i64 l')) w2
    refine hKK _ _ ?_
    clear hKK
    go_wp2_with fail
    go_ret
    exact ⟨rfl, hbw⟩

set_option maxRecDepth 100000 in
theorem conf_k (a b c : Int) (W : World) : (Instr.field 23 (.agg #[.int .i64 a, .int .i64 b, .int .i64 c]) 1).run Tryz.prog W = .ok (.int .i64 b) W := by
  simp [Instr.field, run_underlying Tryz.underlying23]
  rfl
set_option maxRecDepth 100000 in
set_option maxHeartbeats 2000000 in
theorem bl_merge_no {w : World} {dg q g h m dg' q' g' h' m' : Nat} {kind l K kind' l' K' : Int} {zs zs' : List Nd} (d : DgV w dg q g h kind l K m zs) (d' : DgV w dg' q' g' h' kind' l' K' m' zs') (hc : bl_code l l' (sumL zs) (sumL zs') ≠ 0) :
    Calls Tryz.prog 26 #[.pointer (some ⟨dg, 0, none⟩), .pointer (some ⟨dg', 0, none⟩)] w fun e w' => e = .returned (.tuple #[.pointer none, .int .i64 (bl_code l l' (sumL zs) (sumL zs'))]) ∧ Below w.heap.size w w' := by
  have WR := hid (bl_wrong d d')
  generalize bl_code l l' (sumL zs) (sumL zs') = c at *
  have hq : (c != 0) = true := by simpa using hc
  clear d d' hc
  go_enter Tryz.func26, Tryz.ntmps26
  go_wp2_with fail
  refine WR.out.mono ?_
  rintro e w1 ⟨rfl, hb1⟩
  go_wp2_with fail
  go_ret2
  exact ⟨rfl, hb1⟩

set_option maxRecDepth 100000 in
set_option maxHeartbeats 4000000 in
theorem bl_merge {w : World} {dg q g hp m dg' q' g' h' m' : Nat} {kind l K kind' K' : Int} {zs zs' : List Nd} (d : DgV w dg q g hp kind l K m zs) (d' : DgV w dg' q' g' h' kind' l K' m' zs') (hm : m ≤ 100000) (hm' : m' ≤ 100000) (hz : zs.length + zs'.length ≤ 1999) (hs : sumL zs + sumL zs' ≤ 72057594037927935) :
    Calls Tryz.prog 26 #[.pointer (some ⟨dg, 0, none⟩), .pointer (some ⟨dg', 0, none⟩)] w (DgNew kind l (min K K') 2000 (mergeL l (min K K') zs zs') w) := by
  have k1 := d.inv.k1
  have k2 := d.inv.k2
  have k1' := d'.inv.k1
  have k2' := d'.inv.k2
  have WR := hid (bl_wrong d d')
  have hcode : bl_code l l (sumL zs) (sumL zs') = 0 := by unfold bl_code; rw [if_neg (fun q => q rfl), if_neg (by omega)]
  rw [hcode] at WR
  have CF := hid (fun W (x : DgV W dg q g hp kind l K m zs) => dg_conf x)
  have CF' := hid (fun W (x : DgV W dg' q' g' h' kind' l K' m' zs') => dg_conf x)
  obtain ⟨k, ek⟩ : ∃ k, min K K' = k := ⟨_, rfl⟩
  have hk1 : 1 ≤ k := by omega
  have hkK : k ≤ K := by omega
  have hkK' : k ≤ K' := by omega
  have hk : isK k = true := decide_eq_true ⟨hk1, by omega⟩
  obtain ⟨g1, g2, g3, g4, -⟩ := merge_spec d.inv d'.inv hk1 hkK hkK' hs
  obtain ⟨a1, a2, a3, a4⟩ := low_spec d.inv hk1 hkK
  obtain ⟨b1, b2, b3, b4⟩ := low_spec d'.inv hk1 hkK'
  have LW := hid (fun W (x : DgV W dg q g hp kind l K m zs) => bl_lowered k x hm (by omega) hk)
  have LW' := hid (fun W (x : DgV W dg' q' g' h' kind' l K' m' zs') => bl_lowered k x hm' (by omega) hk)
  have JN := hid (fun W va vb (x : RdN W va (lowL l k zs)) (y : RdN W vb (lowL l k zs')) => o_join W x y (by omega) (fun z hz => by
    rcases List.mem_append.1 hz with hz | hz
    · exact a1.roll.strict.2 z hz
    · exact b1.roll.strict.2 z hz) (by rw [sumL_append]; omega) (fun z hz => by
    rcases List.mem_append.1 hz with hz | hz
    · exact a1.roll.nb z hz
    · exact b1.roll.nb z hz))
  have h0 := merge_load d.pool.is g1
  have DL := hid (fun W v (x : RdN W v (mergeL l k zs zs')) => dg_load kind l k x g1.roll.nb (by omega) h0)
  have hmin : Hid (min K K' = k) := ek
  have hJ : Hid (joinL (lowL l k zs) (lowL l k zs') = mergeL l k zs zs') := rfl
  rw [ek]
  generalize mergeL l k zs zs' = Z at *
  clear g1 g2 g3 g4 a1 a2 a3 a4 b1 b2 b3 b4 h0 hcode hk ek hs
  go_enter Tryz.func26, Tryz.ntmps26
  go_wp2_with fail
  refine WR.out.mono ?_
  rintro e w1 ⟨rfl, hb1⟩
  have hs1 := hb1.size
  have d1 := d.below hb1 (Nat.le_refl _)
  have d1' := d'.below hb1 (Nat.le_refl _)
  clear WR d d'
  go_wp2_with fail
  refine (CF.out _ d1).mono ?_
  rintro e w2 ⟨rfl, hb2⟩
  have hs2 := hb2.size
  have hba : Below w2.heap.size w2 (w2.alloc (.cells #[.int .i64 l, .int .i64 K, .int .i64 kind] 23)) := (Below.refl _ _).alloc (Nat.le_refl _) _
  have X := Blk.new w2 #[.int .i64 l, .int .i64 K, .int .i64 kind] 23
  have hsa : (w2.alloc (.cells #[.int .i64 l, .int .i64 K, .int .i64 kind] 23)).heap.size = w2.heap.size + 1 := by simp
  have d3 := (d1.below hb2 (Nat.le_refl _)).below hba (Nat.le_refl _)
  have d3' := (d1'.below hb2 (Nat.le_refl _)).below hba (Nat.le_refl _)
  have hbw := (hb1.trans (hb2.mono hs1)).trans (hba.mono (by omega))
  have hDb : Hid (∀ j, DB dg q g hp j → j < w2.heap.size) := fun j hj => by have := d1.ltB j hj; omega
  have hDb' : Hid (∀ j, DB dg' q' g' h' j → j < w2.heap.size) := fun j hj => by have := d1'.ltB j hj; omega
  clear d1 d1' CF
  go_wp2_with fail
  generalize (w2.alloc (.cells #[.int .i64 l, .int .i64 K, .int .i64 kind] 23)) = w3 at *
  have x1 : w3.cell? ⟨w2.heap.size, 1, none⟩ = some (.int .i64 K) := X.cell 1
  have f1 := X.free 1
  have hl0 : w2.heap.size < w3.heap.size := by omega
  have hB0 := Below.refl w3.heap.size w3
  have hfl := fun W : World => conf_k l K' kind' W
  have hcase : (K ≤ K' ∧ K = k) ∨ (K' < K ∧ K' = k) := by have := hmin.out; omega
  clear hmin
  rcases hcase with ⟨hmn, ekk⟩ | ⟨hmn, ekk⟩
  all_goals
    have Ekk := hid ekk
    clear ekk
    go_region_with ((go_at_call 36; refine (CF'.out _ (d3'.below (below_drewN hB0 1) (Nat.le_refl _))).mono ?_; rintro e w5 ⟨rfl, hb5⟩; have X5 := (X.drewN 1).below hb5 (Nat.le_refl _); have x15 : w5.cell? ⟨w2.heap.size, 1, none⟩ = some (.int .i64 K) := X5.cell 1; have f15 := X5.free 1; have hl5 : w2.heap.size < w5.heap.size := X5.lt))
    all_goals
      clear hfl x1 f1
      have hs5 := hb5.size
      have hs5' : w3.heap.size ≤ w5.heap.size := hs5
      have d5 := (d3.below (below_drewN hB0 1) (Nat.le_refl _)).below hb5 (Nat.le_refl _)
      have d5' := (d3'.below (below_drewN hB0 1) (Nat.le_refl _)).below hb5 (Nat.le_refl _)
      have hbw5 : Below w.heap.size w w5 := hbw.trans (((below_drewN hB0 1).trans (hb5.mono (Nat.le_refl _))).mono hbw.size)
      go_wp2_with fail
      rw [Ekk.out]
      have X6 := X5.set 1 (.int .i64 k)
      have d6 : DgV (w5.setCell ⟨w2.heap.size, 1, none⟩ (.int .i64 k)) dg q g hp kind l K m zs := d5.keepB (fun j _ hj => Below.heap_setCell _ _ _ _ (by have := hDb.out j hj; show j ≠ w2.heap.size; omega))
      have d6' : DgV (w5.setCell ⟨w2.heap.size, 1, none⟩ (.int .i64 k)) dg' q' g' h' kind' l K' m' zs' := d5'.keepB (fun j _ hj => Below.heap_setCell _ _ _ _ (by have := hDb'.out j hj; show j ≠ w2.heap.size; omega))
      have hbw6 := hbw5.setCell (p := ⟨w2.heap.size, 1, none⟩) (by show w.heap.size ≤ w2.heap.size; omega) (.int .i64 k)
      have hs6 : (w5.setCell ⟨w2.heap.size, 1, none⟩ (.int .i64 k)).heap.size = w5.heap.size := by simp
      generalize (w5.setCell ⟨w2.heap.size, 1, none⟩ (.int .i64 k)) = w6 at *
      have y1 : w6.cell? ⟨w2.heap.size, 1, none⟩ = some (.int .i64 k) := X6.cell 1
      have hl6 : w2.heap.size < w6.heap.size := X6.lt
      have hB6 := Below.refl w6.heap.size w6
      clear x15 f15 X5 d5 d5' hb5 hbw5 d3 d3' X
      go_region_held3 (fun w' => w'.cell? ⟨w2.heap.size, 1, none⟩ = some (.int .i64 k) ∧ Below w6.heap.size w6 w')
        (first
          | exact ⟨y1, below_drewN hB6 1⟩
          | exact ⟨(X6.below' hB7 hl6).cell 1, hB7⟩
          | exact ⟨(X6.below' hB8 hl6).cell 1, hB8⟩
          | exact ⟨(X6.below' hB9 hl6).cell 1, hB9⟩)
        (first
          | (go_at_call_of 68 (Value.pointer (some ⟨dg, 0, none⟩)); have hB4 := (‹_ ∧ Below w6.heap.size w6 _›).2; refine (LW.out _ (d6.below hB4 (Nat.le_refl _))).mono ?_; rintro e w7 ⟨v7, rfl, o7, hb7⟩
             have hB7 := hB4.trans (hb7.mono hB4.size))
          | (go_at_call_of 68 (Value.pointer (some ⟨dg', 0, none⟩)); have hB4 := (‹_ ∧ Below w6.heap.size w6 _›).2; refine (LW'.out _ (d6'.below hB4 (Nat.le_refl _))).mono ?_; rintro e w8 ⟨v8, rfl, o8, hb8⟩
             have hB8 := hB4.trans (hb8.mono hB4.size))
          | (go_at_call 67; have hB4 := (‹_ ∧ Below w6.heap.size w6 _›).2; refine (JN.out _ _ _ (o7.rd.below hb8 (Nat.le_refl _)) o8.rd).mono ?_; rintro e w9 ⟨v9, rfl, o9, hb9⟩
             have hB9 := hB4.trans (hb9.mono hB4.size)))
      have X9 := X6.below' hB9 hl6
      have z0 : w9.cell? ⟨w2.heap.size, 0, none⟩ = some (.int .i64 l) := X9.cell 0
      have z1 : w9.cell? ⟨w2.heap.size, 1, none⟩ = some (.int .i64 k) := X9.cell 1
      have z2 : w9.cell? ⟨w2.heap.size, 2, none⟩ = some (.int .i64 kind) := X9.cell 2
      rw [hJ.out] at o9
      have hbw9 := hbw6.trans (hB9.mono hbw6.size)
      have hs9 := hbw9.size
      clear hb7 hb8 hb9 o7 o8 y1
      go_wp2_with fail
      refine (DL.out _ _ o9.rd).mono ?_
      rintro e w10 ⟨dg0, q0, g0, h0, rfl, d10, e1, e2, e3, e4, hb10⟩
      go_wp2_with fail
      go_ret2
      exact ⟨dg0, q0, g0, h0, rfl, d10, by omega, by omega, by omega, by omega, hbw9.trans (hb10.mono hbw9.size)⟩
end Go.Proofs.YtnakieopnobjmaaGreat
