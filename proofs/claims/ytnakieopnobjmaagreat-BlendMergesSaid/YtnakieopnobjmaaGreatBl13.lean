/- The walk of BlendMerges. -/
import Derived.Test.YtnakieopnobjmaaGreatBl11
import Derived.Test.YtnakieopnobjmaaGreatBl12
namespace Go.Proofs.YtnakieopnobjmaaGreat
open Go.RowKit Nl

set_option maxRecDepth 100000 in
set_option maxHeartbeats 8000000 in
theorem blm_walk (l k kind : Int) (v : Value) (os : List Op3) (l' k' kind' : Int) (v' : Value) (os' : List Op3) (w : World) (ho : RdO w v os) (ho' : RdO w v' os') :
    Calls Tryz.prog 6 #[.agg #[.int .i64 l, .int .i64 k, .int .i64 kind, v], .agg #[.int .i64 l', .int .i64 k', .int .i64 kind', v']] w fun e w' => e = .returned (.bool true) ∧ Below w.heap.size w w' := by
  have A := hid (fun W : World => al14 W)
  obtain ⟨p, cap, rfl, hlen, -⟩ := id ho
  obtain ⟨p', cap', rfl, hlen', -⟩ := id ho'
  have FW := hid (fun (W : World) (h : RdO W (.slice p os.length cap) os) => s_few_any l k kind _ os W h)
  have FW' := hid (fun (W : World) (h : RdO W (.slice p' os'.length cap') os') => s_few_any l' k' kind' _ os' W h)
  have MD := hid (fun (h1 : poolIs kind l = true) (h2 : isK k = true) (h3 : os.length ≤ 60) (W : World) (h : RdO W (.slice p os.length cap) os) => s_made l k kind _ os W h (by omega) h1 h2)
  have MD' := hid (fun (h1 : poolIs kind' l' = true) (h2 : isK k' = true) (h3 : os'.length ≤ 60) (W : World) (h : RdO W (.slice p' os'.length cap') os') => s_made l' k' kind' _ os' W h (by omega) h1 h2)
  have X1 := (Blk.new w #[.int .i64 l, .int .i64 k, .int .i64 kind, .slice p os.length cap] 26).alloc (.cells #[.int .i64 l', .int .i64 k', .int .i64 kind', .slice p' os'.length cap'] 26)
  have Y1 := Blk.new (w.alloc (.cells #[.int .i64 l, .int .i64 k, .int .i64 kind, .slice p os.length cap] 26)) #[.int .i64 l', .int .i64 k', .int .i64 kind', .slice p' os'.length cap'] 26
  rw [World.size_alloc] at Y1
  have hbw1 : Below w.heap.size w ((w.alloc (.cells #[.int .i64 l, .int .i64 k, .int .i64 kind, .slice p os.length cap] 26)).alloc (.cells #[.int .i64 l', .int .i64 k', .int .i64 kind', .slice p' os'.length cap'] 26)) := ((Below.refl _ _).alloc (Nat.le_refl _) _).alloc (by simp) _
  have hs1 : ((w.alloc (.cells #[.int .i64 l, .int .i64 k, .int .i64 kind, .slice p os.length cap] 26)).alloc (.cells #[.int .i64 l', .int .i64 k', .int .i64 kind', .slice p' os'.length cap'] 26)).heap.size = w.heap.size + 2 := by simp
  have o1 := ho.below hbw1 (Nat.le_refl _)
  have t1 := ho'.below hbw1 (Nat.le_refl _)
  clear ho ho' hlen hlen'
  go_enter Tryz.func6, Tryz.ntmps6
  go_wp2_with fail
  generalize ((w.alloc (.cells #[.int .i64 l, .int .i64 k, .int .i64 kind, .slice p os.length cap] 26)).alloc (.cells #[.int .i64 l', .int .i64 k', .int .i64 kind', .slice p' os'.length cap'] 26)) = w1 at *
  refine (FW.out _ o1).mono ?_
  rintro e w2 ⟨b, rfl, hF, hb2⟩
  have hs2 := hb2.size
  have X2 := X1.below hb2 (Nat.le_refl _)
  have Y2 := Y1.below hb2 (Nat.le_refl _)
  have o2 := o1.below hb2 (Nat.le_refl _)
  have t2 := t1.below hb2 (Nat.le_refl _)
  have hbw2 := hbw1.trans (hb2.mono hbw1.size)
  clear X1 Y1 o1 t1 hbw1
  cases b
  · go_wp2_with fail
    refine (A.out _).mono ?_
    rintro e w3 ⟨rfl, hb3⟩
    go_wp2_with fail
    go_ret
    exact ⟨rfl, hbw2.trans (hb3.mono hbw2.size)⟩
  obtain ⟨hP1, hP2, h60⟩ := hF rfl
  clear hF
  have y0 := Y2.cell 0
  have y1 := Y2.cell 1
  have y2 := Y2.cell 2
  have y3 := Y2.cell 3
  go_wp2_with fail
  refine (FW'.out _ t2).mono ?_
  rintro e w3 ⟨b, rfl, hF, hb3⟩
  have hs3 := hb3.size
  have X3 := X2.below hb3 (Nat.le_refl _)
  have Y3 := Y2.below hb3 (Nat.le_refl _)
  have o3 := o2.below hb3 (Nat.le_refl _)
  have t3 := t2.below hb3 (Nat.le_refl _)
  have hbw3 := hbw2.trans (hb3.mono hbw2.size)
  clear y0 y1 y2 y3
  clear X2 Y2 o2 t2 hbw2
  cases b
  · go_wp2_with fail
    refine (A.out _).mono ?_
    rintro e w4 ⟨rfl, hb4⟩
    go_wp2_with fail
    go_ret
    exact ⟨rfl, hbw3.trans (hb4.mono hbw3.size)⟩
  obtain ⟨hP1', hP2', h60'⟩ := hF rfl
  clear hF
  have x0 := X3.cell 0
  have x1 := X3.cell 1
  have x2 := X3.cell 2
  have x3 := X3.cell 3
  go_wp2_with fail
  refine (MD.out hP1 hP2 h60 _ o3).mono ?_
  rintro e w4 ⟨dg, q, g, h0, v4, rfl, d4, r4, hl4, -, hb4⟩
  clear o3
  have hs4 := hb4.size
  have X4 := X3.below hb4 (Nat.le_refl _)
  have Y4 := Y3.below hb4 (Nat.le_refl _)
  have t4 := t3.below hb4 (Nat.le_refl _)
  have hbw4 := hbw3.trans (hb4.mono hbw3.size)
  clear x0 x1 x2 x3
  clear X3 Y3 t3 hbw3
  generalize dgAll l k os = F at *
  obtain ⟨pr, cr, rfl⟩ := r4.val
  have i4 := hid d4.inv
  have y0 : World.cell? _ ⟨w.heap.size + 1, 0, none⟩ = _ := (Y4.alloc (.cells #[.int .i64 k, .int .i64 l, .slice pr F.length cr] 37)).cell 0
  have y1 : World.cell? _ ⟨w.heap.size + 1, 1, none⟩ = _ := (Y4.alloc (.cells #[.int .i64 k, .int .i64 l, .slice pr F.length cr] 37)).cell 1
  have y2 : World.cell? _ ⟨w.heap.size + 1, 2, none⟩ = _ := (Y4.alloc (.cells #[.int .i64 k, .int .i64 l, .slice pr F.length cr] 37)).cell 2
  have y3 : World.cell? _ ⟨w.heap.size + 1, 3, none⟩ = _ := (Y4.alloc (.cells #[.int .i64 k, .int .i64 l, .slice pr F.length cr] 37)).cell 3
  have hb5 : Below w4.heap.size w4 (w4.alloc (.cells #[.int .i64 k, .int .i64 l, .slice pr F.length cr] 37)) := (Below.refl _ _).alloc (Nat.le_refl _) _
  have V5 := Blk.new w4 #[.int .i64 k, .int .i64 l, .slice pr F.length cr] 37
  have hs5 : (w4.alloc (.cells #[.int .i64 k, .int .i64 l, .slice pr F.length cr] 37)).heap.size = w4.heap.size + 1 := by simp
  have X5 := X4.below hb5 (Nat.le_refl _)
  have Y5 := Y4.below hb5 (Nat.le_refl _)
  have t5 := t4.below hb5 (Nat.le_refl _)
  have d5 := d4.below hb5 (Nat.le_refl _)
  have r5 := r4.below hb5 (Nat.le_refl _)
  have hbw5 := hbw4.trans (hb5.mono hbw4.size)
  clear X4 Y4 t4 d4 r4 hbw4
  go_wp2_with fail
  generalize (w4.alloc (.cells #[.int .i64 k, .int .i64 l, .slice pr F.length cr] 37)) = w5 at *
  clear y0 y1 y2 y3
  refine (MD'.out hP1' hP2' h60' _ t5).mono ?_
  rintro e w6 ⟨dg', q', g', h0', v6, rfl, f6, s6, hl6, -, hb6⟩
  clear t5
  have hs6 := hb6.size
  have X6 := X5.below hb6 (Nat.le_refl _)
  have Y6 := Y5.below hb6 (Nat.le_refl _)
  have d6 := d5.below hb6 (Nat.le_refl _)
  have r6 := r5.below hb6 (Nat.le_refl _)
  have V6 := V5.below hb6 (Nat.le_refl _)
  have hbw6 := hbw5.trans (hb6.mono hbw5.size)
  clear X5 Y5 d5 r5 V5 hbw5
  generalize dgAll l' k' os' = G at *
  obtain ⟨ps, cs, rfl⟩ := s6.val
  have i6 := hid f6.inv
  have hb7 : Below w6.heap.size w6 (w6.alloc (.cells #[.int .i64 k', .int .i64 l', .slice ps G.length cs] 37)) := (Below.refl _ _).alloc (Nat.le_refl _) _
  have U7 := Blk.new w6 #[.int .i64 k', .int .i64 l', .slice ps G.length cs] 37
  have hs7 : (w6.alloc (.cells #[.int .i64 k', .int .i64 l', .slice ps G.length cs] 37)).heap.size = w6.heap.size + 1 := by simp
  have X7 := X6.below hb7 (Nat.le_refl _)
  have Y7 := Y6.below hb7 (Nat.le_refl _)
  have d7 := d6.below hb7 (Nat.le_refl _)
  have r7 := r6.below hb7 (Nat.le_refl _)
  have V7 := V6.below hb7 (Nat.le_refl _)
  have f7 := f6.below hb7 (Nat.le_refl _)
  have s7 := s6.below hb7 (Nat.le_refl _)
  have hbw7 := hbw6.trans (hb7.mono hbw6.size)
  clear X6 Y6 d6 r6 V6 f6 s6 hbw6
  go_wp2_with fail
  generalize (w6.alloc (.cells #[.int .i64 k', .int .i64 l', .slice ps G.length cs] 37)) = w7 at *
  clear MD MD' FW FW' hP1 hP2 hP1' hP2'
  have LK := hid (fun W (y : DgV W dg q g h0 kind l k 2000 F) v (z : RdN W v F) => d_like14 y (by decide) z (by omega))
  have LK' := hid (fun W (y : DgV W dg' q' g' h0' kind' l' k' 2000 G) v (z : RdN W v G) => d_like14 y (by decide) z (by omega))
  by_cases hc : bl_code l l' (sumL F) (sumL G) = 0
  · have hls : l = l' ∧ sumL F + sumL G ≤ 72057594037927935 := by
      unfold bl_code at hc
      by_cases e : l = l'
      · refine ⟨e, ?_⟩
        rw [if_neg (fun q => q e)] at hc
        split at hc <;> omega
      · rw [if_pos e] at hc
        omega
    obtain ⟨rfl, hsum⟩ := hls
    clear hc
    have MG0 := fun W (y : DgV W dg q g h0 kind l k 2000 F) (z : DgV W dg' q' g' h0' kind' l k' 2000 G) => bl_merge y z (by decide) (by decide) (by omega) hsum
    have RM0 := fun W (y : RdN W (.slice pr F.length cr) F) (z : RdN W (.slice ps G.length cs) G) => r_bmerge y z i4.out i6.out (by omega) hsum
    have k1 := i4.out.k1
    have k1' := i6.out.k1
    obtain ⟨g1, g2, g3, g4, -⟩ := merge_spec i4.out i6.out (k := min k k') (by omega) (by omega) (by omega) hsum
    obtain ⟨kk, ek⟩ : ∃ x, min k k' = x := ⟨_, rfl⟩
    rw [ek] at MG0 RM0 g1 g2 g3 g4
    have MG := hid MG0
    have RM := hid RM0
    clear MG0 RM0 ek
    generalize mergeL l kk F G = Z at *
    have hzl : Z.length ≤ 4000 := by omega
    have LZ := hid (fun W dg q g h (y : DgV W dg q g h kind l kk 2000 Z) v (z : RdN W v Z) => d_like14 y (by decide) z hzl)
    clear g1 g2 g3 g4 hzl hsum k1 k1' i4
    refine (MG.out _ d7 f7).mono ?_
    rintro e w8 ⟨dm, qm, gm, hm, rfl, m8, -, -, -, -, hb8⟩
    have hs8 := hb8.size
    have X8 := X7.below hb8 (Nat.le_refl _)
    have Y8 := Y7.below hb8 (Nat.le_refl _)
    have d8 := d7.below hb8 (Nat.le_refl _)
    have r8 := r7.below hb8 (Nat.le_refl _)
    have V8 := V7.below hb8 (Nat.le_refl _)
    have f8 := f7.below hb8 (Nat.le_refl _)
    have s8 := s7.below hb8 (Nat.le_refl _)
    have U8 := U7.below hb8 (Nat.le_refl _)
    have hbw8 := hbw7.trans (hb8.mono hbw7.size)
    clear X7 Y7 d7 r7 V7 f7 s7 U7 hbw7
    have c0 := V8.cell 0
    have c1 := V8.cell 1
    have c2 := V8.cell 2
    have e0 := U8.cell 0
    have e1 := U8.cell 1
    have e2 := U8.cell 2
    go_wp2_with fail
    refine (RM.out _ r8 s8).mono ?_
    rintro e w9 ⟨vz, rfl, z9, hb9⟩
    have hs9 := hb9.size
    have X9 := X8.below hb9 (Nat.le_refl _)
    have Y9 := Y8.below hb9 (Nat.le_refl _)
    have d9 := d8.below hb9 (Nat.le_refl _)
    have r9 := r8.below hb9 (Nat.le_refl _)
    have V9 := V8.below hb9 (Nat.le_refl _)
    have f9 := f8.below hb9 (Nat.le_refl _)
    have s9 := s8.below hb9 (Nat.le_refl _)
    have U9 := U8.below hb9 (Nat.le_refl _)
    have m9 := m8.below hb9 (Nat.le_refl _)
    have hbw9 := hbw8.trans (hb9.mono hbw8.size)
    clear c0 c1 c2 e0 e1 e2
    clear X8 Y8 d8 r8 V8 f8 s8 U8 m8 hbw8
    obtain ⟨pz, cz, rfl⟩ := z9.val
    have c0 : World.cell? _ ⟨w4.heap.size, 0, none⟩ = _ := (V9.alloc (.cells #[.int .i64 kk, .int .i64 l, .slice pz Z.length cz] 37)).cell 0
    have c1 : World.cell? _ ⟨w4.heap.size, 1, none⟩ = _ := (V9.alloc (.cells #[.int .i64 kk, .int .i64 l, .slice pz Z.length cz] 37)).cell 1
    have c2 : World.cell? _ ⟨w4.heap.size, 2, none⟩ = _ := (V9.alloc (.cells #[.int .i64 kk, .int .i64 l, .slice pz Z.length cz] 37)).cell 2
    have x2 : World.cell? _ ⟨w.heap.size, 2, none⟩ = _ := (X9.alloc (.cells #[.int .i64 kk, .int .i64 l, .slice pz Z.length cz] 37)).cell 2
    have hb10 : Below w9.heap.size w9 (w9.alloc (.cells #[.int .i64 kk, .int .i64 l, .slice pz Z.length cz] 37)) := (Below.refl _ _).alloc (Nat.le_refl _) _
    have T10 := Blk.new w9 #[.int .i64 kk, .int .i64 l, .slice pz Z.length cz] 37
    have hs10 : (w9.alloc (.cells #[.int .i64 kk, .int .i64 l, .slice pz Z.length cz] 37)).heap.size = w9.heap.size + 1 := by simp
    have X10 := X9.below hb10 (Nat.le_refl _)
    have Y10 := Y9.below hb10 (Nat.le_refl _)
    have d10 := d9.below hb10 (Nat.le_refl _)
    have r10 := r9.below hb10 (Nat.le_refl _)
    have V10 := V9.below hb10 (Nat.le_refl _)
    have f10 := f9.below hb10 (Nat.le_refl _)
    have s10 := s9.below hb10 (Nat.le_refl _)
    have U10 := U9.below hb10 (Nat.le_refl _)
    have m10 := m9.below hb10 (Nat.le_refl _)
    have z10 := z9.below hb10 (Nat.le_refl _)
    have hbw10 := hbw9.trans (hb10.mono hbw9.size)
    clear X9 Y9 d9 r9 V9 f9 s9 U9 m9 z9 hbw9
    go_wp2_with fail
    generalize (w9.alloc (.cells #[.int .i64 kk, .int .i64 l, .slice pz Z.length cz] 37)) = w10 at *
    clear c0 c1 c2 x2
    refine (LK.out _ d10 _ r10).mono ?_
    rintro e w11 ⟨rfl, hb11⟩
    clear d10 r10
    have hs11 := hb11.size
    have X11 := X10.below hb11 (Nat.le_refl _)
    have Y11 := Y10.below hb11 (Nat.le_refl _)
    have V11 := V10.below hb11 (Nat.le_refl _)
    have f11 := f10.below hb11 (Nat.le_refl _)
    have s11 := s10.below hb11 (Nat.le_refl _)
    have U11 := U10.below hb11 (Nat.le_refl _)
    have m11 := m10.below hb11 (Nat.le_refl _)
    have z11 := z10.below hb11 (Nat.le_refl _)
    have T11 := T10.below hb11 (Nat.le_refl _)
    have hbw11 := hbw10.trans (hb11.mono hbw10.size)
    clear X10 Y10 V10 f10 s10 U10 m10 z10 T10 hbw10
    have c0 := U11.cell 0
    have c1 := U11.cell 1
    have c2 := U11.cell 2
    have x2 := Y11.cell 2
    go_wp2_with fail
    refine (LK'.out _ f11 _ s11).mono ?_
    rintro e w12 ⟨rfl, hb12⟩
    have hs12 := hb12.size
    have X12 := X11.below hb12 (Nat.le_refl _)
    have Y12 := Y11.below hb12 (Nat.le_refl _)
    have V12 := V11.below hb12 (Nat.le_refl _)
    have f12 := f11.below hb12 (Nat.le_refl _)
    have s12 := s11.below hb12 (Nat.le_refl _)
    have U12 := U11.below hb12 (Nat.le_refl _)
    have m12 := m11.below hb12 (Nat.le_refl _)
    have z12 := z11.below hb12 (Nat.le_refl _)
    have T12 := T11.below hb12 (Nat.le_refl _)
    have hbw12 := hbw11.trans (hb12.mono hbw11.size)
    clear c0 c1 c2 x2
    clear X11 Y11 V11 f11 s11 U11 m11 z11 T11 hbw11
    have c0 := T12.cell 0
    have c1 := T12.cell 1
    have c2 := T12.cell 2
    have x2 := X12.cell 2
    go_wp2_with fail
    refine (LZ.out _ _ _ _ _ m12 _ z12).mono ?_
    rintro e w13 ⟨rfl, hb13⟩
    clear m12 z12
    have hs13 := hb13.size
    have X13 := X12.below hb13 (Nat.le_refl _)
    have Y13 := Y12.below hb13 (Nat.le_refl _)
    have V13 := V12.below hb13 (Nat.le_refl _)
    have f13 := f12.below hb13 (Nat.le_refl _)
    have s13 := s12.below hb13 (Nat.le_refl _)
    have U13 := U12.below hb13 (Nat.le_refl _)
    have T13 := T12.below hb13 (Nat.le_refl _)
    have hbw13 := hbw12.trans (hb13.mono hbw12.size)
    clear c0 c1 c2 x2
    clear X12 Y12 V12 f12 s12 U12 T12 hbw12
    clear MG RM LZ LK LK'
    by_cases hc2 : bl_code l l (sumL G) (sumL G) = 0
    · have hs2 : sumL G + sumL G ≤ 72057594037927935 := by
        unfold bl_code at hc2
        rw [if_neg (fun q => q rfl)] at hc2
        split at hc2
        · cases hc2
        · omega
      have hkm : min k' k' = k' := by omega
      have MB0 := fun W (y : DgV W dg' q' g' h0' kind' l k' 2000 G) => bl_merge y y (by decide) (by decide) (by omega) hs2
      have RB0 := fun W (y : RdN W (.slice ps G.length cs) G) => r_bmerge y y i6.out i6.out (by omega) hs2
      obtain ⟨g1, g2, g3, g4, -⟩ := merge_spec i6.out i6.out i6.out.k1 (Int.le_refl _) (Int.le_refl _) hs2
      rw [hkm] at MB0 RB0
      have MB := hid MB0
      have RB := hid RB0
      clear MB0 RB0
      generalize mergeL l k' G G = Q at *
      have hql : Q.length ≤ 4000 := by omega
      have LQ := hid (fun W dg q g h (y : DgV W dg q g h kind' l k' 2000 Q) v (z : RdN W v Q) => d_like14 y (by decide) z hql)
      clear g1 g2 g3 g4 hql hs2 hkm hc2 i6
      go_wp2_with fail
      refine (MB.out _ f13).mono ?_
      rintro e w14 ⟨dn, qn, gn, hn, rfl, m14, -, -, -, -, hb14⟩
      have hs14 := hb14.size
      have X14 := X13.below hb14 (Nat.le_refl _)
      have Y14 := Y13.below hb14 (Nat.le_refl _)
      have V14 := V13.below hb14 (Nat.le_refl _)
      have f14 := f13.below hb14 (Nat.le_refl _)
      have s14 := s13.below hb14 (Nat.le_refl _)
      have U14 := U13.below hb14 (Nat.le_refl _)
      have T14 := T13.below hb14 (Nat.le_refl _)
      have hbw14 := hbw13.trans (hb14.mono hbw13.size)
      clear X13 Y13 V13 f13 s13 U13 T13 hbw13
      have c0 := U14.cell 0
      have c1 := U14.cell 1
      have c2 := U14.cell 2
      go_wp2_with fail
      refine (RB.out _ s14).mono ?_
      rintro e w15 ⟨vy, rfl, z15, hb15⟩
      have hs15 := hb15.size
      have X15 := X14.below hb15 (Nat.le_refl _)
      have Y15 := Y14.below hb15 (Nat.le_refl _)
      have V15 := V14.below hb15 (Nat.le_refl _)
      have f15 := f14.below hb15 (Nat.le_refl _)
      have s15 := s14.below hb15 (Nat.le_refl _)
      have U15 := U14.below hb15 (Nat.le_refl _)
      have T15 := T14.below hb15 (Nat.le_refl _)
      have m15 := m14.below hb15 (Nat.le_refl _)
      have hbw15 := hbw14.trans (hb15.mono hbw14.size)
      clear c0 c1 c2
      clear X14 Y14 V14 f14 s14 U14 T14 m14 hbw14
      obtain ⟨py, cy, rfl⟩ := z15.val
      have x2 : World.cell? _ ⟨w.heap.size + 1, 2, none⟩ = _ := (Y15.alloc (.cells #[.int .i64 k', .int .i64 l, .slice py Q.length cy] 37)).cell 2
      have hb16 : Below w15.heap.size w15 (w15.alloc (.cells #[.int .i64 k', .int .i64 l, .slice py Q.length cy] 37)) := (Below.refl _ _).alloc (Nat.le_refl _) _
      have S16 := Blk.new w15 #[.int .i64 k', .int .i64 l, .slice py Q.length cy] 37
      have hs16 : (w15.alloc (.cells #[.int .i64 k', .int .i64 l, .slice py Q.length cy] 37)).heap.size = w15.heap.size + 1 := by simp
      have X16 := X15.below hb16 (Nat.le_refl _)
      have Y16 := Y15.below hb16 (Nat.le_refl _)
      have V16 := V15.below hb16 (Nat.le_refl _)
      have f16 := f15.below hb16 (Nat.le_refl _)
      have s16 := s15.below hb16 (Nat.le_refl _)
      have U16 := U15.below hb16 (Nat.le_refl _)
      have T16 := T15.below hb16 (Nat.le_refl _)
      have m16 := m15.below hb16 (Nat.le_refl _)
      have z16 := z15.below hb16 (Nat.le_refl _)
      have hbw16 := hbw15.trans (hb16.mono hbw15.size)
      clear X15 Y15 V15 f15 s15 U15 T15 m15 z15 hbw15
      go_wp2_with fail
      generalize (w15.alloc (.cells #[.int .i64 k', .int .i64 l, .slice py Q.length cy] 37)) = w16 at *
      clear x2
      refine (LQ.out _ _ _ _ _ m16 _ z16).mono ?_
      rintro e w17 ⟨rfl, hb17⟩
      have hs17 := hb17.size
      have X17 := X16.below hb17 (Nat.le_refl _)
      have Y17 := Y16.below hb17 (Nat.le_refl _)
      have V17 := V16.below hb17 (Nat.le_refl _)
      have f17 := f16.below hb17 (Nat.le_refl _)
      have s17 := s16.below hb17 (Nat.le_refl _)
      have U17 := U16.below hb17 (Nat.le_refl _)
      have T17 := T16.below hb17 (Nat.le_refl _)
      have m17 := m16.below hb17 (Nat.le_refl _)
      have z17 := z16.below hb17 (Nat.le_refl _)
      have S17 := S16.below hb17 (Nat.le_refl _)
      have hbw17 := hbw16.trans (hb17.mono hbw16.size)
      clear X16 Y16 V16 f16 s16 U16 T16 m16 z16 S16 hbw16
      go_wp2_with fail
      refine (A.out _).mono ?_
      rintro e wz ⟨rfl, hbz⟩
      go_wp2_with fail
      go_ret
      exact ⟨rfl, hbw17.trans (hbz.mono hbw17.size)⟩
    · have MN2 := hid (fun W (y : DgV W dg' q' g' h0' kind' l k' 2000 G) => bl_merge_no y y hc2)
      have RN2 := hid (fun W (y : RdN W (.slice ps G.length cs) G) => r_bmerge_no (K := k') (K' := k') y y (by omega) (by omega) i6.out.roll i6.out.roll hc2)
      generalize bl_code l l (sumL G) (sumL G) = c2 at *
      have hq2 : (c2 != 0) = true := by simpa using hc2
      have hq3 : (c2 == c2) = true := by simp
      have hq4 : (c2 != c2) = false := by simp
      clear hc2 i6
      go_wp2_with fail
      refine (MN2.out _ f13).mono ?_
      rintro e w14 ⟨rfl, hb14⟩
      have hs14 := hb14.size
      have X14 := X13.below hb14 (Nat.le_refl _)
      have Y14 := Y13.below hb14 (Nat.le_refl _)
      have V14 := V13.below hb14 (Nat.le_refl _)
      have f14 := f13.below hb14 (Nat.le_refl _)
      have s14 := s13.below hb14 (Nat.le_refl _)
      have U14 := U13.below hb14 (Nat.le_refl _)
      have T14 := T13.below hb14 (Nat.le_refl _)
      have hbw14 := hbw13.trans (hb14.mono hbw13.size)
      clear X13 Y13 V13 f13 s13 U13 T13 hbw13
      have c0 := U14.cell 0
      have c1 := U14.cell 1
      have c2 := U14.cell 2
      go_wp2_with fail
      refine (RN2.out _ s14).mono ?_
      rintro e w15 ⟨rfl, hb15⟩
      have hs15 := hb15.size
      have X15 := X14.below hb15 (Nat.le_refl _)
      have Y15 := Y14.below hb15 (Nat.le_refl _)
      have V15 := V14.below hb15 (Nat.le_refl _)
      have f15 := f14.below hb15 (Nat.le_refl _)
      have s15 := s14.below hb15 (Nat.le_refl _)
      have U15 := U14.below hb15 (Nat.le_refl _)
      have T15 := T14.below hb15 (Nat.le_refl _)
      have hbw15 := hbw14.trans (hb15.mono hbw14.size)
      clear c0 c1 c2
      clear X14 Y14 V14 f14 s14 U14 T14 hbw14
      have hb16 : Below w15.heap.size w15 (w15.alloc (.cells #[.int .i64 0, .int .i64 0, .slice none 0 0] 37)) := (Below.refl _ _).alloc (Nat.le_refl _) _
      have S16 := Blk.new w15 #[.int .i64 0, .int .i64 0, .slice none 0 0] 37
      have hs16 : (w15.alloc (.cells #[.int .i64 0, .int .i64 0, .slice none 0 0] 37)).heap.size = w15.heap.size + 1 := by simp
      have X16 := X15.below hb16 (Nat.le_refl _)
      have Y16 := Y15.below hb16 (Nat.le_refl _)
      have V16 := V15.below hb16 (Nat.le_refl _)
      have f16 := f15.below hb16 (Nat.le_refl _)
      have s16 := s15.below hb16 (Nat.le_refl _)
      have U16 := U15.below hb16 (Nat.le_refl _)
      have T16 := T15.below hb16 (Nat.le_refl _)
      have hbw16 := hbw15.trans (hb16.mono hbw15.size)
      clear X15 Y15 V15 f15 s15 U15 T15 hbw15
      go_wp2_with fail
      generalize (w15.alloc (.cells #[.int .i64 0, .int .i64 0, .slice none 0 0] 37)) = w16 at *
      refine (A.out _).mono ?_
      rintro e wz ⟨rfl, hbz⟩
      go_wp2_with fail
      go_ret
      exact ⟨rfl, hbw16.trans (hbz.mono hbw16.size)⟩
  · have MN := hid (fun W (y : DgV W dg q g h0 kind l k 2000 F) (z : DgV W dg' q' g' h0' kind' l' k' 2000 G) => bl_merge_no y z hc)
    have RN := hid (fun W (y : RdN W (.slice pr F.length cr) F) (z : RdN W (.slice ps G.length cs) G) => r_bmerge_no (K := k) (K' := k') y z (by omega) (by omega) i4.out.roll i6.out.roll hc)
    generalize bl_code l l' (sumL F) (sumL G) = c1 at *
    have hq1 : (c1 != 0) = true := by simpa using hc
    have hq5 : (c1 != c1) = false := by simp
    clear hc i4
    refine (MN.out _ d7 f7).mono ?_
    rintro e w8 ⟨rfl, hb8⟩
    have hs8 := hb8.size
    have X8 := X7.below hb8 (Nat.le_refl _)
    have Y8 := Y7.below hb8 (Nat.le_refl _)
    have d8 := d7.below hb8 (Nat.le_refl _)
    have r8 := r7.below hb8 (Nat.le_refl _)
    have V8 := V7.below hb8 (Nat.le_refl _)
    have f8 := f7.below hb8 (Nat.le_refl _)
    have s8 := s7.below hb8 (Nat.le_refl _)
    have U8 := U7.below hb8 (Nat.le_refl _)
    have hbw8 := hbw7.trans (hb8.mono hbw7.size)
    clear X7 Y7 d7 r7 V7 f7 s7 U7 hbw7
    have c0 := V8.cell 0
    have c1 := V8.cell 1
    have c2 := V8.cell 2
    have e0 := U8.cell 0
    have e1 := U8.cell 1
    have e2 := U8.cell 2
    go_wp2_with fail
    refine (RN.out _ r8 s8).mono ?_
    rintro e w9 ⟨rfl, hb9⟩
    have hs9 := hb9.size
    have X9 := X8.below hb9 (Nat.le_refl _)
    have Y9 := Y8.below hb9 (Nat.le_refl _)
    have d9 := d8.below hb9 (Nat.le_refl _)
    have r9 := r8.below hb9 (Nat.le_refl _)
    have V9 := V8.below hb9 (Nat.le_refl _)
    have f9 := f8.below hb9 (Nat.le_refl _)
    have s9 := s8.below hb9 (Nat.le_refl _)
    have U9 := U8.below hb9 (Nat.le_refl _)
    have hbw9 := hbw8.trans (hb9.mono hbw8.size)
    clear c0 c1 c2 e0 e1 e2
    clear X8 Y8 d8 r8 V8 f8 s8 U8 hbw8
    have c0 : World.cell? _ ⟨w4.heap.size, 0, none⟩ = _ := (V9.alloc (.cells #[.int .i64 0, .int .i64 0, .slice none 0 0] 37)).cell 0
    have c1 : World.cell? _ ⟨w4.heap.size, 1, none⟩ = _ := (V9.alloc (.cells #[.int .i64 0, .int .i64 0, .slice none 0 0] 37)).cell 1
    have c2 : World.cell? _ ⟨w4.heap.size, 2, none⟩ = _ := (V9.alloc (.cells #[.int .i64 0, .int .i64 0, .slice none 0 0] 37)).cell 2
    have x2 : World.cell? _ ⟨w.heap.size, 2, none⟩ = _ := (X9.alloc (.cells #[.int .i64 0, .int .i64 0, .slice none 0 0] 37)).cell 2
    have hb10 : Below w9.heap.size w9 (w9.alloc (.cells #[.int .i64 0, .int .i64 0, .slice none 0 0] 37)) := (Below.refl _ _).alloc (Nat.le_refl _) _
    have T10 := Blk.new w9 #[.int .i64 0, .int .i64 0, .slice none 0 0] 37
    have hs10 : (w9.alloc (.cells #[.int .i64 0, .int .i64 0, .slice none 0 0] 37)).heap.size = w9.heap.size + 1 := by simp
    have X10 := X9.below hb10 (Nat.le_refl _)
    have Y10 := Y9.below hb10 (Nat.le_refl _)
    have d10 := d9.below hb10 (Nat.le_refl _)
    have r10 := r9.below hb10 (Nat.le_refl _)
    have V10 := V9.below hb10 (Nat.le_refl _)
    have f10 := f9.below hb10 (Nat.le_refl _)
    have s10 := s9.below hb10 (Nat.le_refl _)
    have U10 := U9.below hb10 (Nat.le_refl _)
    have hbw10 := hbw9.trans (hb10.mono hbw9.size)
    clear X9 Y9 d9 r9 V9 f9 s9 U9 hbw9
    go_wp2_with fail
    generalize (w9.alloc (.cells #[.int .i64 0, .int .i64 0, .slice none 0 0] 37)) = w10 at *
    clear c0 c1 c2 x2
    refine (LK.out _ d10 _ r10).mono ?_
    rintro e w11 ⟨rfl, hb11⟩
    clear d10 r10
    have hs11 := hb11.size
    have X11 := X10.below hb11 (Nat.le_refl _)
    have Y11 := Y10.below hb11 (Nat.le_refl _)
    have V11 := V10.below hb11 (Nat.le_refl _)
    have f11 := f10.below hb11 (Nat.le_refl _)
    have s11 := s10.below hb11 (Nat.le_refl _)
    have U11 := U10.below hb11 (Nat.le_refl _)
    have T11 := T10.below hb11 (Nat.le_refl _)
    have hbw11 := hbw10.trans (hb11.mono hbw10.size)
    clear X10 Y10 V10 f10 s10 U10 T10 hbw10
    have c0 := U11.cell 0
    have c1 := U11.cell 1
    have c2 := U11.cell 2
    have x2 := Y11.cell 2
    go_wp2_with fail
    refine (LK'.out _ f11 _ s11).mono ?_
    rintro e w12 ⟨rfl, hb12⟩
    have hs12 := hb12.size
    have X12 := X11.below hb12 (Nat.le_refl _)
    have Y12 := Y11.below hb12 (Nat.le_refl _)
    have V12 := V11.below hb12 (Nat.le_refl _)
    have f12 := f11.below hb12 (Nat.le_refl _)
    have s12 := s11.below hb12 (Nat.le_refl _)
    have U12 := U11.below hb12 (Nat.le_refl _)
    have T12 := T11.below hb12 (Nat.le_refl _)
    have hbw12 := hbw11.trans (hb12.mono hbw11.size)
    clear c0 c1 c2 x2
    clear X11 Y11 V11 f11 s11 U11 T11 hbw11
    clear MN RN LK LK'
    by_cases hc2 : bl_code l' l' (sumL G) (sumL G) = 0
    · have hs2 : sumL G + sumL G ≤ 72057594037927935 := by
        unfold bl_code at hc2
        rw [if_neg (fun q => q rfl)] at hc2
        split at hc2
        · cases hc2
        · omega
      have hkm : min k' k' = k' := by omega
      have MB0 := fun W (y : DgV W dg' q' g' h0' kind' l' k' 2000 G) => bl_merge y y (by decide) (by decide) (by omega) hs2
      have RB0 := fun W (y : RdN W (.slice ps G.length cs) G) => r_bmerge y y i6.out i6.out (by omega) hs2
      obtain ⟨g1, g2, g3, g4, -⟩ := merge_spec i6.out i6.out i6.out.k1 (Int.le_refl _) (Int.le_refl _) hs2
      rw [hkm] at MB0 RB0
      have MB := hid MB0
      have RB := hid RB0
      clear MB0 RB0
      generalize mergeL l' k' G G = Q at *
      have hql : Q.length ≤ 4000 := by omega
      have LQ := hid (fun W dg q g h (y : DgV W dg q g h kind' l' k' 2000 Q) v (z : RdN W v Q) => d_like14 y (by decide) z hql)
      clear g1 g2 g3 g4 hql hs2 hkm hc2 i6
      go_wp2_with fail
      refine (MB.out _ f12).mono ?_
      rintro e w13 ⟨dn, qn, gn, hn, rfl, m13, -, -, -, -, hb13⟩
      have hs13 := hb13.size
      have X13 := X12.below hb13 (Nat.le_refl _)
      have Y13 := Y12.below hb13 (Nat.le_refl _)
      have V13 := V12.below hb13 (Nat.le_refl _)
      have f13 := f12.below hb13 (Nat.le_refl _)
      have s13 := s12.below hb13 (Nat.le_refl _)
      have U13 := U12.below hb13 (Nat.le_refl _)
      have T13 := T12.below hb13 (Nat.le_refl _)
      have hbw13 := hbw12.trans (hb13.mono hbw12.size)
      clear X12 Y12 V12 f12 s12 U12 T12 hbw12
      have c0 := U13.cell 0
      have c1 := U13.cell 1
      have c2 := U13.cell 2
      go_wp2_with fail
      refine (RB.out _ s13).mono ?_
      rintro e w14 ⟨vy, rfl, z14, hb14⟩
      have hs14 := hb14.size
      have X14 := X13.below hb14 (Nat.le_refl _)
      have Y14 := Y13.below hb14 (Nat.le_refl _)
      have V14 := V13.below hb14 (Nat.le_refl _)
      have f14 := f13.below hb14 (Nat.le_refl _)
      have s14 := s13.below hb14 (Nat.le_refl _)
      have U14 := U13.below hb14 (Nat.le_refl _)
      have T14 := T13.below hb14 (Nat.le_refl _)
      have m14 := m13.below hb14 (Nat.le_refl _)
      have hbw14 := hbw13.trans (hb14.mono hbw13.size)
      clear c0 c1 c2
      clear X13 Y13 V13 f13 s13 U13 T13 m13 hbw13
      obtain ⟨py, cy, rfl⟩ := z14.val
      have x2 : World.cell? _ ⟨w.heap.size + 1, 2, none⟩ = _ := (Y14.alloc (.cells #[.int .i64 k', .int .i64 l', .slice py Q.length cy] 37)).cell 2
      have hb15 : Below w14.heap.size w14 (w14.alloc (.cells #[.int .i64 k', .int .i64 l', .slice py Q.length cy] 37)) := (Below.refl _ _).alloc (Nat.le_refl _) _
      have S15 := Blk.new w14 #[.int .i64 k', .int .i64 l', .slice py Q.length cy] 37
      have hs15 : (w14.alloc (.cells #[.int .i64 k', .int .i64 l', .slice py Q.length cy] 37)).heap.size = w14.heap.size + 1 := by simp
      have X15 := X14.below hb15 (Nat.le_refl _)
      have Y15 := Y14.below hb15 (Nat.le_refl _)
      have V15 := V14.below hb15 (Nat.le_refl _)
      have f15 := f14.below hb15 (Nat.le_refl _)
      have s15 := s14.below hb15 (Nat.le_refl _)
      have U15 := U14.below hb15 (Nat.le_refl _)
      have T15 := T14.below hb15 (Nat.le_refl _)
      have m15 := m14.below hb15 (Nat.le_refl _)
      have z15 := z14.below hb15 (Nat.le_refl _)
      have hbw15 := hbw14.trans (hb15.mono hbw14.size)
      clear X14 Y14 V14 f14 s14 U14 T14 m14 z14 hbw14
      go_wp2_with fail
      generalize (w14.alloc (.cells #[.int .i64 k', .int .i64 l', .slice py Q.length cy] 37)) = w15 at *
      clear x2
      refine (LQ.out _ _ _ _ _ m15 _ z15).mono ?_
      rintro e w16 ⟨rfl, hb16⟩
      have hs16 := hb16.size
      have X16 := X15.below hb16 (Nat.le_refl _)
      have Y16 := Y15.below hb16 (Nat.le_refl _)
      have V16 := V15.below hb16 (Nat.le_refl _)
      have f16 := f15.below hb16 (Nat.le_refl _)
      have s16 := s15.below hb16 (Nat.le_refl _)
      have U16 := U15.below hb16 (Nat.le_refl _)
      have T16 := T15.below hb16 (Nat.le_refl _)
      have m16 := m15.below hb16 (Nat.le_refl _)
      have z16 := z15.below hb16 (Nat.le_refl _)
      have S16 := S15.below hb16 (Nat.le_refl _)
      have hbw16 := hbw15.trans (hb16.mono hbw15.size)
      clear X15 Y15 V15 f15 s15 U15 T15 m15 z15 S15 hbw15
      go_wp2_with fail
      refine (A.out _).mono ?_
      rintro e wz ⟨rfl, hbz⟩
      go_wp2_with fail
      go_ret
      exact ⟨rfl, hbw16.trans (hbz.mono hbw16.size)⟩
    · have MN2 := hid (fun W (y : DgV W dg' q' g' h0' kind' l' k' 2000 G) => bl_merge_no y y hc2)
      have RN2 := hid (fun W (y : RdN W (.slice ps G.length cs) G) => r_bmerge_no (K := k') (K' := k') y y (by omega) (by omega) i6.out.roll i6.out.roll hc2)
      generalize bl_code l' l' (sumL G) (sumL G) = c2 at *
      have hq2 : (c2 != 0) = true := by simpa using hc2
      have hq3 : (c2 == c2) = true := by simp
      have hq4 : (c2 != c2) = false := by simp
      clear hc2 i6
      go_wp2_with fail
      refine (MN2.out _ f12).mono ?_
      rintro e w13 ⟨rfl, hb13⟩
      have hs13 := hb13.size
      have X13 := X12.below hb13 (Nat.le_refl _)
      have Y13 := Y12.below hb13 (Nat.le_refl _)
      have V13 := V12.below hb13 (Nat.le_refl _)
      have f13 := f12.below hb13 (Nat.le_refl _)
      have s13 := s12.below hb13 (Nat.le_refl _)
      have U13 := U12.below hb13 (Nat.le_refl _)
      have T13 := T12.below hb13 (Nat.le_refl _)
      have hbw13 := hbw12.trans (hb13.mono hbw12.size)
      clear X12 Y12 V12 f12 s12 U12 T12 hbw12
      have c0 := U13.cell 0
      have c1 := U13.cell 1
      have c2 := U13.cell 2
      go_wp2_with fail
      refine (RN2.out _ s13).mono ?_
      rintro e w14 ⟨rfl, hb14⟩
      have hs14 := hb14.size
      have X14 := X13.below hb14 (Nat.le_refl _)
      have Y14 := Y13.below hb14 (Nat.le_refl _)
      have V14 := V13.below hb14 (Nat.le_refl _)
      have f14 := f13.below hb14 (Nat.le_refl _)
      have s14 := s13.below hb14 (Nat.le_refl _)
      have U14 := U13.below hb14 (Nat.le_refl _)
      have T14 := T13.below hb14 (Nat.le_refl _)
      have hbw14 := hbw13.trans (hb14.mono hbw13.size)
      clear c0 c1 c2
      clear X13 Y13 V13 f13 s13 U13 T13 hbw13
      have hb15 : Below w14.heap.size w14 (w14.alloc (.cells #[.int .i64 0, .int .i64 0, .slice none 0 0] 37)) := (Below.refl _ _).alloc (Nat.le_refl _) _
      have S15 := Blk.new w14 #[.int .i64 0, .int .i64 0, .slice none 0 0] 37
      have hs15 : (w14.alloc (.cells #[.int .i64 0, .int .i64 0, .slice none 0 0] 37)).heap.size = w14.heap.size + 1 := by simp
      have X15 := X14.below hb15 (Nat.le_refl _)
      have Y15 := Y14.below hb15 (Nat.le_refl _)
      have V15 := V14.below hb15 (Nat.le_refl _)
      have f15 := f14.below hb15 (Nat.le_refl _)
      have s15 := s14.below hb15 (Nat.le_refl _)
      have U15 := U14.below hb15 (Nat.le_refl _)
      have T15 := T14.below hb15 (Nat.le_refl _)
      have hbw15 := hbw14.trans (hb15.mono hbw14.size)
      clear X14 Y14 V14 f14 s14 U14 T14 hbw14
      go_wp2_with fail
      generalize (w14.alloc (.cells #[.int .i64 0, .int .i64 0, .slice none 0 0] 37)) = w15 at *
      refine (A.out _).mono ?_
      rintro e wz ⟨rfl, hbz⟩
      go_wp2_with fail
      go_ret
      exact ⟨rfl, hbw15.trans (hbz.mono hbw15.size)⟩

theorem BlendMerges_walk (v0 : Value) (s0 : Int × Int × Int × Value × List Op3) (v1 : Value) (s1 : Int × Int × Int × Value × List Op3) (w : World)
    (h0 : v0 = .agg #[.int .i64 s0.1, .int .i64 s0.2.1, .int .i64 s0.2.2.1, s0.2.2.2.1] ∧ ((Lit.int .i64 s0.1).wf = true ∧ (Lit.int .i64 s0.2.1).wf = true ∧ (Lit.int .i64 s0.2.2.1).wf = true) ∧ RdO w s0.2.2.2.1 s0.2.2.2.2)
    (h1 : v1 = .agg #[.int .i64 s1.1, .int .i64 s1.2.1, .int .i64 s1.2.2.1, s1.2.2.2.1] ∧ ((Lit.int .i64 s1.1).wf = true ∧ (Lit.int .i64 s1.2.1).wf = true ∧ (Lit.int .i64 s1.2.2.1).wf = true) ∧ RdO w s1.2.2.2.1 s1.2.2.2.2) :
    Calls Tryz.prog 6 #[v0, v1] w fun e w' => e = .returned (.bool true) ∧ Below w.heap.size w w' := by
  obtain ⟨rfl, -, r0⟩ := h0
  obtain ⟨rfl, -, r1⟩ := h1
  exact blm_walk _ _ _ _ _ _ _ _ _ _ w r0 r1
end Go.Proofs.YtnakieopnobjmaaGreat
