/- The walk of BlendStands. -/
import Derived.Test.YtnakieopnobjmaaGreatBl4
import Derived.Test.YtnakieopnobjmaaGreatBlMath3
import Derived.Test.YtnakieopnobjmaaGreatOpenSide
import Derived.Test.YtnakieopnobjmaaGreatDg6
import Derived.Deep.CutBlock
namespace Go.Proofs.YtnakieopnobjmaaGreat
open Go.RowKit Nl

/-- A digest made, or none. -/
def MdAny (l k kind : Int) (n : Nat) (w : World) (e : Ending) (w' : World) : Prop :=
  (e = .returned (.tuple #[.pointer none, .agg #[.int .i64 0, .slice none 0 0]]) ∧ Below w.heap.size w w') ∨ MdPost l k kind n w e w'
theorem d_made_any (l k kind : Int) (v : Value) (os : List Op3) (w : World) (bk : In64 k) (ho : RdO w v os) (hN : os.length ≤ 1000) :
    Calls Tryz.prog 21 #[.agg #[.int .i64 l, .int .i64 k, .int .i64 kind], v] w (MdAny l k kind os.length w) := by
  cases hP : (poolIs kind l && isK k)
  · exact (d_made_no l k kind v os w bk ho hP).mono fun e w' h => .inl h
  · simp only [Bool.and_eq_true] at hP
    exact (d_made l k kind v os w ho hN hP.1 hP.2).mono fun e w' h => .inr h
/-- As much of it as one needs who goes no further. -/
def MdSome (w : World) (e : Ending) (w' : World) : Prop :=
  ∃ a z p n c, e = .returned (.tuple #[.pointer a, .agg #[.int .i64 z, .slice p n c]]) ∧ Below w.heap.size w w'
theorem MdAny.some {l k kind : Int} {n : Nat} {w w' : World} {e : Ending} (h : MdAny l k kind n w e w') : MdSome w e w' := by
  rcases h with ⟨rfl, hb⟩ | ⟨dg, q, g, h, v, zs, its, rfl, -, rb, -, -, -, -, -, hb⟩
  · exact ⟨_, _, _, _, _, rfl, hb⟩
  · obtain ⟨pb, capb, rfl⟩ := rb.val
    exact ⟨_, _, _, _, _, rfl, hb⟩
theorem r_ends_any (l id0 : Int) (bl : In64 l) (bi : In64 id0) : Hid (∀ W : World, ∃ a b c, Calls Tryz.prog 29 #[.int .i64 l, .int .i64 id0] W fun e w' => e = .returned (.tuple #[.int .i64 a, .int .i64 b, .bool c]) ∧ W = w') := fun W => by
  cases hr : rightB l id0
  · exact ⟨_, _, _, r_ends_no l id0 W bl bi hr⟩
  · exact ⟨_, _, _, r_ends l id0 W hr⟩

set_option maxRecDepth 100000 in
set_option maxHeartbeats 4000000 in
theorem bs_walk (l k kind : Int) (v : Value) (os : List Op3) (l' k' kind' : Int) (v' : Value) (os' : List Op3) (id0 : Int) (w : World) (bl : In64 l) (bk : In64 k) (bl' : In64 l') (bk' : In64 k') (ho : RdO w v os) (ho' : RdO w v' os') (bi : In64 id0) :
    Calls Tryz.prog 7 #[.agg #[.int .i64 l, .int .i64 k, .int .i64 kind, v], .agg #[.int .i64 l', .int .i64 k', .int .i64 kind', v'], .int .i64 id0] w fun e w' => e = .returned (.bool true) ∧ Below w.heap.size w w' := by
  have A := hid (fun W : World => al14 W)
  have S1 := hid (fun (W : World) (h : RdO W v os) => s_some l k kind v os W h)
  have S2 := hid (fun (W : World) (h : RdO W v' os') => s_some l' k' kind' v' os' W h)
  obtain ⟨p, cap, rfl, hlen, -⟩ := id ho
  obtain ⟨p', cap', rfl, hlen', -⟩ := id ho'
  have hba : Below w.heap.size w ((w.alloc (.cells #[.int .i64 l, .int .i64 k, .int .i64 kind, .slice p os.length cap] 26)).alloc (.cells #[.int .i64 l', .int .i64 k', .int .i64 kind', .slice p' os'.length cap'] 26)) := ((Below.refl _ _).alloc (Nat.le_refl _) _).alloc (by simp) _
  have X := (Blk.new w #[.int .i64 l, .int .i64 k, .int .i64 kind, .slice p os.length cap] 26).alloc (.cells #[.int .i64 l', .int .i64 k', .int .i64 kind', .slice p' os'.length cap'] 26)
  have Y : Blk ((w.alloc (.cells #[.int .i64 l, .int .i64 k, .int .i64 kind, .slice p os.length cap] 26)).alloc (.cells #[.int .i64 l', .int .i64 k', .int .i64 kind', .slice p' os'.length cap'] 26)) (w.heap.size + 1) #[.int .i64 l', .int .i64 k', .int .i64 kind', .slice p' os'.length cap'] 26 := by
    have h := Blk.new (w.alloc (.cells #[.int .i64 l, .int .i64 k, .int .i64 kind, .slice p os.length cap] 26)) #[.int .i64 l', .int .i64 k', .int .i64 kind', .slice p' os'.length cap'] 26
    simpa using h
  have hsx : ((w.alloc (.cells #[.int .i64 l, .int .i64 k, .int .i64 kind, .slice p os.length cap] 26)).alloc (.cells #[.int .i64 l', .int .i64 k', .int .i64 kind', .slice p' os'.length cap'] 26)).heap.size = w.heap.size + 2 := by simp
  have ho1 := ho.below hba (Nat.le_refl _)
  have ho1' := ho'.below hba (Nat.le_refl _)
  clear ho ho'
  cases q1 : someB os.length kind l
  · rw [q1] at S1
    go_enter Tryz.func7, Tryz.ntmps7
    go_wp2_with fail
    refine (S1.out _ ho1).mono ?_
    rintro e w2 ⟨rfl, hb2⟩
    have hbw2 := hba.trans (hb2.mono (by omega))
    go_wp2_with fail
    refine (A.out _).mono ?_
    rintro e w3 ⟨rfl, hb3⟩
    go_wp2_with fail
    go_ret
    exact ⟨rfl, hbw2.trans (hb3.mono hbw2.size)⟩
  have hl100 : os.length ≤ 100 := by
    unfold someB at q1; simp at q1; exact q1.1
  rw [q1] at S1
  cases q2 : someB os'.length kind' l'
  · rw [q2] at S2
    go_enter Tryz.func7, Tryz.ntmps7
    go_wp2_with fail
    refine (S1.out _ ho1).mono ?_
    rintro e w2 ⟨rfl, hb2⟩
    have hbw2 := hba.trans (hb2.mono (by omega))
    have Y2 := Y.below hb2 (Nat.le_refl _)
    have ho2' := ho1'.below hb2 (Nat.le_refl _)
    have y0 := Y2.cell 0
    have y1 := Y2.cell 1
    have y2 := Y2.cell 2
    have y3 := Y2.cell 3
    go_wp2_with fail
    refine (S2.out _ ho2').mono ?_
    rintro e w3 ⟨rfl, hb3⟩
    have hbw3 := hbw2.trans (hb3.mono hbw2.size)
    go_wp2_with fail
    refine (A.out _).mono ?_
    rintro e w4 ⟨rfl, hb4⟩
    go_wp2_with fail
    go_ret
    exact ⟨rfl, hbw3.trans (hb4.mono hbw3.size)⟩
  have hl100' : os'.length ≤ 100 := by
    unfold someB at q2; simp at q2; exact q2.1
  rw [q2] at S2
  have M1 := hid (fun (W : World) (h : RdO W (.slice p os.length cap) os) => d_made_any l k kind _ os W bk h (by omega))
  have M2 := hid (fun (W : World) (h : RdO W (.slice p' os'.length cap') os') => d_made_any l' k' kind' _ os' W bk' h (by omega))
  have EA := r_ends_any l id0 bl bi
  clear q1 q2
  go_enter Tryz.func7, Tryz.ntmps7
  go_wp2_with fail
  refine (S1.out _ ho1).mono ?_
  rintro e w2 ⟨rfl, hb2⟩
  have hbw2 := hba.trans (hb2.mono (by omega))
  have X2 := X.below hb2 (Nat.le_refl _)
  have Y2 := Y.below hb2 (Nat.le_refl _)
  have ho2 := ho1.below hb2 (Nat.le_refl _)
  have ho2' := ho1'.below hb2 (Nat.le_refl _)
  have y0 := Y2.cell 0
  have y1 := Y2.cell 1
  have y2 := Y2.cell 2
  have y3 := Y2.cell 3
  have hs2 := hb2.size
  clear X Y hba ho1 ho1' S1
  go_wp2_with fail
  refine (S2.out _ ho2').mono ?_
  rintro e w3 ⟨rfl, hb3⟩
  have hbw3 := hbw2.trans (hb3.mono hbw2.size)
  have X3 := X2.below hb3 (Nat.le_refl _)
  have Y3 := Y2.below hb3 (Nat.le_refl _)
  have ho3 := ho2.below hb3 (Nat.le_refl _)
  have ho3' := ho2'.below hb3 (Nat.le_refl _)
  have hs3 := hb3.size
  clear y0 y1 y2 y3 X2 Y2 hbw2 ho2 ho2' S2 hb2 hb3
  have x0 := X3.cell 0
  have x1 := X3.cell 1
  have x2 := X3.cell 2
  have x3 := X3.cell 3
  go_wp2_with fail
  refine (M1.out _ ho3).mono ?_
  rintro e w4 (⟨rfl, hb4⟩ | ⟨dg, q, g, h, vb, zs, its, rfl, d, rb, -, mi, hzl, hil, -, hb4⟩)
  · have hs4 := hb4.size
    have hbw4 := hbw3.trans (hb4.mono hbw3.size)
    have X4 := X3.below hb4 (Nat.le_refl _)
    have Y4 := Y3.below hb4 (Nat.le_refl _)
    have hb5 : Below w4.heap.size w4 (w4.alloc (.cells #[.int .i64 0, .slice none 0 0] 49)) := (Below.refl _ _).alloc (Nat.le_refl _) _
    have ho5 := (ho3'.below hb4 (Nat.le_refl _)).below hb5 (Nat.le_refl _)
    have X5 := X4.below hb5 (Nat.le_refl _)
    have hbw5 := hbw4.trans (hb5.mono hbw4.size)
    have hlw : w.heap.size < w4.heap.size := by omega
    have hlw1 : w.heap.size + 1 < w4.heap.size := by omega
    clear x0 x1 x2 x3 X3 Y3 hb4 hb5 ho3 ho3' X4
    have y0 := Y4.cell 0
    have y1 := Y4.cell 1
    have y2 := Y4.cell 2
    have y3 := Y4.cell 3
    go_wp2_with fail
    refine (M2.out _ ho5).mono ?_
    rintro e w6 hM
    obtain ⟨a6, z6, p6, n6, c6, rfl, hb6⟩ := hM.some
    have hbw6 := hbw5.trans (hb6.mono hbw5.size)
    have X6 := X5.below hb6 (Nat.le_refl _)
    have x0 := X6.cell 0
    have hs6 := hb6.size
    have hs5 : (w4.alloc (.cells #[.int .i64 0, .slice none 0 0] 49)).heap.size = w4.heap.size + 1 := by simp
    have hlw6 : w.heap.size < w6.heap.size := by omega
    have hb7 : Below w6.heap.size w6 (w6.alloc (.cells #[.int .i64 z6, .slice p6 n6 c6] 49)) := (Below.refl _ _).alloc (Nat.le_refl _) _
    have hbw7 := hbw6.trans (hb7.mono hbw6.size)
    clear y0 y1 y2 y3 Y4 hM hb6 hb7
    go_wp2_with fail
    obtain ⟨a7, b7, c7, he⟩ := EA.out (w6.alloc (.cells #[.int .i64 z6, .slice p6 n6 c6] 49))
    refine he.mono ?_
    rintro e w8 ⟨rfl, rfl⟩
    clear he
    go_wp2_with fail
    refine (A.out _).mono ?_
    rintro e w9 ⟨rfl, hb9⟩
    go_wp2_with fail
    go_ret
    exact ⟨rfl, hbw7.trans (hb9.mono hbw7.size)⟩
  obtain ⟨pb, capb, rfl⟩ := rb.val
  have hs4 := hb4.size
  have hbw4 := hbw3.trans (hb4.mono hbw3.size)
  have X4 := X3.below hb4 (Nat.le_refl _)
  have Y4 := Y3.below hb4 (Nat.le_refl _)
  have hb5 : Below w4.heap.size w4 (w4.alloc (.cells #[.int .i64 l, .slice pb its.length capb] 49)) := (Below.refl _ _).alloc (Nat.le_refl _) _
  have ho5 := (ho3'.below hb4 (Nat.le_refl _)).below hb5 (Nat.le_refl _)
  have X5 := X4.below hb5 (Nat.le_refl _)
  have Y5 := Y4.below hb5 (Nat.le_refl _)
  have V5 := Blk.new w4 #[.int .i64 l, .slice pb its.length capb] 49
  have d5 := d.below hb5 (Nat.le_refl _)
  have rb5 := rb.below hb5 (Nat.le_refl _)
  have hbw5 := hbw4.trans (hb5.mono hbw4.size)
  have hlw : w.heap.size < w4.heap.size := by omega
  have hlw1 : w.heap.size + 1 < w4.heap.size := by omega
  have hs5 : (w4.alloc (.cells #[.int .i64 l, .slice pb its.length capb] 49)).heap.size = w4.heap.size + 1 := by simp
  clear x0 x1 x2 x3 X3 Y3 hb4 hb5 ho3 ho3' X4 d rb M1
  have y0 := Y4.cell 0
  have y1 := Y4.cell 1
  have y2 := Y4.cell 2
  have y3 := Y4.cell 3
  go_wp2_with fail
  refine (M2.out _ ho5).mono ?_
  rintro e w6 (⟨rfl, hb6⟩ | ⟨dg', q', g', h', vb', zs', its', rfl, d', rb', -, mi', hzl', hil', -, hb6⟩)
  · have hs6 := hb6.size
    have hbw6 := hbw5.trans (hb6.mono hbw5.size)
    have X6 := X5.below hb6 (Nat.le_refl _)
    have x0 := X6.cell 0
    have hlw6 : w.heap.size < w6.heap.size := by omega
    have hb7 : Below w6.heap.size w6 (w6.alloc (.cells #[.int .i64 0, .slice none 0 0] 49)) := (Below.refl _ _).alloc (Nat.le_refl _) _
    have hbw7 := hbw6.trans (hb7.mono hbw6.size)
    clear y0 y1 y2 y3 Y4 hb6 hb7 mi d5 rb5 V5 X5 Y5
    go_wp2_with fail
    obtain ⟨a7, b7, c7, he⟩ := EA.out (w6.alloc (.cells #[.int .i64 0, .slice none 0 0] 49))
    refine he.mono ?_
    rintro e w8 ⟨rfl, rfl⟩
    clear he
    go_wp2_with fail
    refine (A.out _).mono ?_
    rintro e w9 ⟨rfl, hb9⟩
    go_wp2_with fail
    go_ret
    exact ⟨rfl, hbw7.trans (hb9.mono hbw7.size)⟩
  obtain ⟨pb', capb', rfl⟩ := rb'.val
  have hs6 := hb6.size
  have hbw6 := hbw5.trans (hb6.mono hbw5.size)
  have X6 := X5.below hb6 (Nat.le_refl _)
  have hb7 : Below w6.heap.size w6 (w6.alloc (.cells #[.int .i64 l', .slice pb' its'.length capb'] 49)) := (Below.refl _ _).alloc (Nat.le_refl _) _
  have X7 := X6.below hb7 (Nat.le_refl _)
  have Y7 := (Y5.below hb6 (Nat.le_refl _)).below hb7 (Nat.le_refl _)
  have V7 := (V5.below hb6 (Nat.le_refl _)).below hb7 (Nat.le_refl _)
  have U7 := Blk.new w6 #[.int .i64 l', .slice pb' its'.length capb'] 49
  have d7 := (d5.below hb6 (Nat.le_refl _)).below hb7 (Nat.le_refl _)
  have rb7 := (rb5.below hb6 (Nat.le_refl _)).below hb7 (Nat.le_refl _)
  have d7' := d'.below hb7 (Nat.le_refl _)
  have rb7' := rb'.below hb7 (Nat.le_refl _)
  have hbw7 := hbw6.trans (hb7.mono hbw6.size)
  have hs7 : (w6.alloc (.cells #[.int .i64 l', .slice pb' its'.length capb'] 49)).heap.size = w6.heap.size + 1 := by simp
  have hlw6 : w.heap.size < w6.heap.size := by omega
  have x0 := X6.cell 0
  clear y0 y1 y2 y3 Y4 hb6 hb7 d5 rb5 V5 X5 Y5 X6 d' rb' ho5 M2 hbw3 hbw4 hbw5 hbw6
  have HM := hid mi
  have HM' := hid mi'
  clear mi mi'
  cases hr : rightB l id0
  · have EN := hid (fun W : World => r_ends_no l id0 W bl bi hr)
    clear hr EA
    go_wp2_with fail
    generalize (w6.alloc (.cells #[.int .i64 l', .slice pb' its'.length capb'] 49)) = w7 at *
    refine (EN.out _).mono ?_
    rintro e w8 ⟨rfl, rfl⟩
    clear d7 d7' rb7 rb7'
    go_wp2_with fail
    refine (A.out _).mono ?_
    rintro e w9 ⟨rfl, hb9⟩
    go_wp2_with fail
    go_ret
    exact ⟨rfl, hbw7.trans (hb9.mono hbw7.size)⟩
  have EN := hid (fun W : World => r_ends l id0 W hr)
  have HR := hid hr
  clear hr EA
  have EN2 : Hid (∀ W : World, Calls Tryz.prog 29 #[.int .i64 l, .int .i64 id0] W fun e w' => e = .returned (.tuple #[.int .i64 (endsLo l id0), .int .i64 (endsHi l id0), .bool true]) ∧ W = w') := fun W => by
    have := EN.out W; unfold EndsPost at this; exact this
  generalize elo : endsLo l id0 = lo at *
  generalize ehi : endsHi l id0 = hi at *
  have ELO := hid elo
  have EHI := hid ehi
  clear EN elo ehi
  go_wp2_with fail
  generalize (w6.alloc (.cells #[.int .i64 l', .slice pb' its'.length capb'] 49)) = w7 at *
  refine (EN2.out _).mono ?_
  rintro e w8 ⟨rfl, rfl⟩
  clear EN2 x0
  by_cases hc : bl_code l l' (sumL zs) (sumL zs') = 0
  case neg =>
    have hpa := sumL_nonneg HM.out.dg.roll.strict.pos
    have hpb := sumL_nonneg HM'.out.dg.roll.strict.pos
    have hma := HM.out.dg.roll.most
    have hmb := HM'.out.dg.roll.most
    have MN := hid (bl_merge_no d7 d7' hc)
    have DN := hid (fun W (y : DgV W dg q g h kind l k 2000 zs) => dg_n y)
    have DN' := hid (fun W (y : DgV W dg' q' g' h' kind' l' k' 2000 zs') => dg_n y)
    have hcb : (bl_code l l' (sumL zs) (sumL zs') != 0) = true := by simpa using hc
    have hwhy : l ≠ l' ∨ l = l' ∧ 72057594037927935 - sumL zs' < sumL zs := by
      unfold bl_code at hc
      by_cases e : l = l'
      · right
        refine ⟨e, ?_⟩
        rw [if_neg (fun q => q e)] at hc
        split at hc <;> omega
      · exact .inl e
    generalize bl_code l l' (sumL zs) (sumL zs') = c at *
    generalize sumL zs = S at *
    generalize sumL zs' = S' at *
    clear hc HM HM'
    go_wp2_with fail
    refine MN.out.mono ?_
    rintro e w9 ⟨rfl, hb9⟩
    have hs9 := hb9.size
    have X9 := X7.below hb9 (Nat.le_refl _)
    have Y9 := Y7.below hb9 (Nat.le_refl _)
    have d9 := d7.below hb9 (Nat.le_refl _)
    have d9' := d7'.below hb9 (Nat.le_refl _)
    have hbw9 := hbw7.trans (hb9.mono hbw7.size)
    have x0 := X9.cell 0
    have y0 := Y9.cell 0
    clear X7 Y7 d7 d7' hb9 MN rb7 rb7' V7 U7
    rcases hwhy with e | ⟨rfl, hlt⟩
    · have hne : (l != l') = true := by simpa using e
      go_wp2_with fail
      refine (A.out _).mono ?_
      rintro e w10 ⟨rfl, hb10⟩
      go_wp2_with fail
      go_ret
      exact ⟨rfl, hbw9.trans (hb10.mono hbw9.size)⟩
    · have hne : (l != l) = false := by simp
      have hw : IntKind.i64.wrap (72057594037927935 - S') = 72057594037927935 - S' := IntWalk.i64_in _ ⟨by omega, by omega⟩
      have hd : decide (72057594037927935 - S' < S) = true := decide_eq_true hlt
      go_wp2_with fail
      refine (DN.out _ d9).mono ?_
      rintro e w10 ⟨rfl, rfl⟩
      go_wp2_with fail
      refine (DN'.out _ d9').mono ?_
      rintro e w10 ⟨rfl, rfl⟩
      go_wp2_with fail
      refine (A.out _).mono ?_
      rintro e w10 ⟨rfl, hb10⟩
      go_wp2_with fail
      go_ret
      exact ⟨rfl, hbw9.trans (hb10.mono hbw9.size)⟩
  case pos =>
    have hls : l = l' ∧ sumL zs + sumL zs' ≤ 72057594037927935 := by
      unfold bl_code at hc
      by_cases e : l = l'
      · refine ⟨e, ?_⟩
        rw [if_neg (fun q => q e)] at hc
        split at hc <;> omega
      · rw [if_pos e] at hc
        omega
    obtain ⟨rfl, hsum⟩ := hls
    clear hc
    have k1 := HM.out.dg.k1
    have k2 := HM.out.dg.k2
    have k1' := HM'.out.dg.k1
    have k2' := HM'.out.dg.k2
    have hpa := sumL_nonneg HM.out.dg.roll.strict.pos
    have hpb := sumL_nonneg HM'.out.dg.roll.strict.pos
    obtain ⟨mD, mS, mL, mL2, -⟩ := merge_spec HM.out.dg HM'.out.dg (k := min k k') (by omega) (by omega) (by omega) hsum
    have mC := merge_comm HM.out.dg HM'.out.dg (k := min k k') (by omega) (by omega) (by omega) hsum
    obtain ⟨st1, st2⟩ := merge_stands HM.out.dg HM'.out.dg HM.out.st HM'.out.st (k := min k k') (by omega) (by omega) (by omega) hsum id0 (right_pos HR.out)
    have MG := hid (fun W (x : DgV W dg q g h kind l k 2000 zs) (y : DgV W dg' q' g' h' kind' l k' 2000 zs') => bl_merge x y (by decide) (by decide) (by omega) hsum)
    have MG1 := fun W (x : DgV W dg q g h kind l k 2000 zs) (y : DgV W dg' q' g' h' kind' l k' 2000 zs') => bl_merge y x (by decide) (by decide) (by omega) (by omega)
    rw [Int.min_comm k' k, mC] at MG1
    have MG' := hid MG1
    have DN := hid (fun W (y : DgV W dg q g h kind l k 2000 zs) => dg_n y)
    have DN' := hid (fun W (y : DgV W dg' q' g' h' kind' l k' 2000 zs') => dg_n y)
    have eb : betV lo hi its = heldV l id0 its := by rw [← ELO.out, ← EHI.out]; exact held_bet HR.out HM.out.bag
    have eb' : betV lo hi its' = heldV l id0 its' := by rw [← ELO.out, ← EHI.out]; exact held_bet HR.out HM'.out.bag
    have hbt := bet_le (lo := lo) (hi := hi) HM.out.bag.pos'
    have hbt' := bet_le (lo := lo) (hi := hi) HM'.out.bag.pos'
    have BT := hid (fun W (y : RdN W (.slice pb its.length capb) its) => b_between l lo hi y (by omega) HM.out.bag.pos' HM.out.bag.most)
    have BT' := hid (fun W (y : RdN W (.slice pb' its'.length capb') its') => b_between l lo hi y (by omega) HM'.out.bag.pos' HM'.out.bag.most)
    rw [eb] at BT hbt
    rw [eb'] at BT' hbt'
    rw [HM.out.sum] at hbt
    rw [HM'.out.sum] at hbt'
    obtain ⟨kk, ekk⟩ : ∃ x, min k k' = x := ⟨_, rfl⟩
    have hcase : (k ≤ k' ∧ k = kk) ∨ (k' < k ∧ k' = kk) := by omega
    obtain ⟨Z, eZ⟩ : ∃ x, mergeL l (min k k') zs zs' = x := ⟨_, rfl⟩
    rw [eZ] at mD mS mL mL2 MG MG' st1 st2
    rw [ekk] at mD mL MG MG'
    have mk1 := mD.k1
    have mk2 := mD.k2
    have mroll := mD.roll
    have mlight : (lightB l Z (capV (sumL Z) kk) && isK kk) = true := by rw [mD.light]; simp [isK]; omega
    have habv := above_le_sum (id := id0) mroll.strict.pos
    have BL := hid (fun W v' (y : RdN W v' Z) => r_below id0 y (by omega) mroll bi)
    have AB := hid (fun W v' (y : RdN W v' Z) => r_aboveV id0 y (by omega) mroll bi)
    have LG0 := fun W v' (y : RdN W v' Z) => r_clight kk y (by omega) mroll ⟨by omega, by omega⟩
    rw [mlight] at LG0
    have LG := hid LG0
    have NS0 := fun W (a b : Value) (x : RdN W a Z) (y : RdN W b Z) => r_same W x y (by omega) (by omega)
    rw [show decide (Z = Z) = true by simp] at NS0
    have NS := hid NS0
    have NM := hid (fun W d0 q0 g0 h0 (y : DgV W d0 q0 g0 h0 kind l kk 2000 Z) => dg_n y)
    have CF := hid (fun W d0 q0 g0 h0 (y : DgV W d0 q0 g0 h0 kind l kk 2000 Z) => dg_conf y)
    have ND := hid (fun W kd d0 q0 g0 h0 (y : DgV W d0 q0 g0 h0 kd l kk 2000 Z) => dg_nodes y (by decide))
    rw [mS] at NM habv
    obtain ⟨hA, eA⟩ : ∃ x, heldV l id0 its = x := ⟨_, rfl⟩
    obtain ⟨hB, eB⟩ : ∃ x, heldV l id0 its' = x := ⟨_, rfl⟩
    obtain ⟨low, elow⟩ : ∃ x, belowV id0 Z = x := ⟨_, rfl⟩
    obtain ⟨abv, eabv⟩ : ∃ x, aboveV id0 Z = x := ⟨_, rfl⟩
    obtain ⟨S, eS⟩ : ∃ x, sumL zs = x := ⟨_, rfl⟩
    obtain ⟨S', eS'⟩ : ∃ x, sumL zs' = x := ⟨_, rfl⟩
    rw [eA] at BT hbt
    rw [eB] at BT' hbt'
    rw [eA, eB, elow] at st1
    rw [eA, eB, elow, eabv] at st2
    rw [elow] at BL
    rw [eabv] at AB habv
    rw [eS] at DN hbt hpa
    rw [eS'] at DN' hbt' hpb
    rw [eS, eS'] at NM habv hsum
    obtain ⟨t1, t2⟩ := hbt
    obtain ⟨t1', t2'⟩ := hbt'
    obtain ⟨u1, u2⟩ := habv
    clear MG1 mC eb eb' eZ mD mS mroll mlight LG0 NS0 eA eB elow eabv eS eS' HM HM' HR ELO EHI ekk
    go_wp2_with fail
    refine (MG.out _ d7 d7').mono ?_
    rintro e w9 ⟨dm, qm, gm, hm, rfl, m9, -, -, -, -, hb9⟩
    have hs9 := hb9.size
    have X9 := X7.below hb9 (Nat.le_refl _)
    have Y9 := Y7.below hb9 (Nat.le_refl _)
    have V9 := V7.below hb9 (Nat.le_refl _)
    have U9 := U7.below hb9 (Nat.le_refl _)
    have d9 := d7.below hb9 (Nat.le_refl _)
    have d9' := d7'.below hb9 (Nat.le_refl _)
    have rb9 := rb7.below hb9 (Nat.le_refl _)
    have rb9' := rb7'.below hb9 (Nat.le_refl _)
    have hbw9 := hbw7.trans (hb9.mono hbw7.size)
    have x0 : w9.cell? ⟨w.heap.size, 0, none⟩ = some (.int .i64 l) := X9.cell 0
    have hB0 := Below.refl w9.heap.size w9
    have hXl := X9.lt
    have hXn : w.heap.size ≠ w9.heap.size := by omega
    have ccA : ((w9.drew).alloc (.cells #[.int .i64 0, .slice none 0 0] 35)).cell? ⟨w.heap.size, 0, none⟩ = some (.int .i64 l) := ((X9.drewN 1).alloc _).cell 0
    clear X7 Y7 V7 U7 d7 d7' rb7 rb7' hb9 MG
    go_wp2_with fail
    go_upto_region 11 with fail
    go_cut [16] (fun sv wx => ∃ b vs, sv = .pointer (some ⟨b, 0, none⟩) ∧ Blk wx b #[.int .i64 l, vs] 35 ∧ RdN wx vs Z ∧ Below w9.heap.size w9 wx)
    case first =>
      have hBd : Below w9.heap.size w9 w9.drew := below_drewN hB0 1
      refine wp_region_held_drew (S := fun w' => w'.cell? ⟨w.heap.size, 0, none⟩ = some (.int .i64 l) ∧ Below w9.heap.size w9 w') (by kernel_rfl) ⟨x0, hBd⟩ (fun hHeld => ?_)
      refine wpAnyH_take (i := 0) (v := ?_) rfl (by kernel_rfl) (by kernel_rfl) (by kernel_rfl) (fun _ _ _ h => h) (Or.inl ⟨by rfl, ?_⟩) hHeld ?_
      rotate_left 1
      · intro w hSw; (try dsimp only at hSw); go_simp; first | done | with_reducible rfl
      show wpAnyH _ _ _ _ _ _ _ (Act.put _ (some 97) _) _
      try simp only [Act.put, List.setIfInBounds_toArray, List.set_cons_zero, List.set_cons_succ]
      refine wpAnyH_take (i := 1) (v := ?_) rfl (by kernel_rfl) (by kernel_rfl) (by kernel_rfl) (fun _ _ _ h => h) (Or.inl ⟨by rfl, ?_⟩) hHeld ?_
      rotate_left 1
      · intro w hSw; (try dsimp only at hSw); go_simp; first | done | with_reducible rfl
      show wpAnyH _ _ _ _ _ _ _ (Act.put _ (some 98) _) _
      try simp only [Act.put, List.setIfInBounds_toArray, List.set_cons_zero, List.set_cons_succ]
      refine wpAnyH_take (i := 2) (v := ?_) rfl (by kernel_rfl) (by kernel_rfl) (by kernel_rfl) (fun _ _ _ h => h) (Or.inl ⟨by rfl, ?_⟩) hHeld ?_
      rotate_left 1
      · intro w hSw; (try dsimp only at hSw); go_simp; first | done | with_reducible rfl
      show wpAnyH _ _ _ _ _ _ _ (Act.put _ (some 99) _) _
      try simp only [Act.put, List.setIfInBounds_toArray, List.set_cons_zero, List.set_cons_succ]
      refine wpAnyH_take (i := 3) (v := ?_) rfl (by kernel_rfl) (by kernel_rfl) (by kernel_rfl) (fun _ _ _ h => h) (Or.inl ⟨by rfl, ?_⟩) hHeld ?_
      rotate_left 1
      · intro w hSw; (try dsimp only at hSw); go_simp; first | done | with_reducible rfl
      show wpAnyH _ _ _ _ _ _ _ (Act.put _ (some 100) _) _
      try simp only [Act.put, List.setIfInBounds_toArray, List.set_cons_zero, List.set_cons_succ]
      refine wpAnyH_ready (rs := [4, 6]) (by kernel_rfl) (by simp) ?_
      refine AllReadyH.cons rfl (fun K hK => ?_) (AllReadyH.cons rfl (fun K hK => ?_) AllReadyH.nil)
      · go_simp
        (go_at_call 31; have hBa := hHeld.2; refine (ND.out _ _ _ _ _ _ (m9.below hBa (Nat.le_refl _))).mono ?_; rintro e w5 hN; obtain ⟨v5, rfl, own5, hb5⟩ := hN; obtain ⟨p5, c5, rfl⟩ := own5.val; have hBq := hBa.trans (hb5.mono hBa.size); go_simp)
        refine hK.out _ _ ⟨(X9.below hBq (Nat.le_refl _)).cell 0, hBq⟩ (fun hHeld => ?_)
        clear hK K
        try simp only [Act.put, List.setIfInBounds_toArray, List.set_cons_zero, List.set_cons_succ]
        refine wpAnyH_take (i := 5) (v := ?_) rfl (by kernel_rfl) (by kernel_rfl) (by kernel_rfl) (fun _ _ _ h => h) (Or.inl ⟨by rfl, ?_⟩) hHeld ?_
        rotate_left 1
        · intro w hSw; (try dsimp only at hSw); go_simp; first | done | with_reducible rfl
        show wpAnyH _ _ _ _ _ _ _ (Act.put _ (some 102) _) _
        try simp only [Act.put, List.setIfInBounds_toArray, List.set_cons_zero, List.set_cons_succ]
        refine wpAnyH_ready (rs := [6]) (by kernel_rfl) (by simp) ?_
        refine AllReadyH.cons rfl (fun K hK => ?_) AllReadyH.nil
        go_simp
        skip
        refine hK.out _ _ ⟨((X9.below hHeld.2 (Nat.le_refl _)).alloc _).cell 0, hHeld.2.alloc hHeld.2.size _⟩ (fun hHeld => ?_)
        clear hK K
        try simp only [Act.put, List.setIfInBounds_toArray, List.set_cons_zero, List.set_cons_succ]
        refine wpAnyH_ready (rs := [7]) (by kernel_rfl) (by simp) ?_
        refine AllReadyH.cons rfl (fun K hK => ?_) AllReadyH.nil
        go_simp
        skip
        refine hK.out _ _ ⟨((X9.below hBq (Nat.le_refl _)).alloc _).cell 0, hBq.alloc hBq.size _⟩ (fun hHeld => ?_)
        clear hK K
        try simp only [Act.put, List.setIfInBounds_toArray, List.set_cons_zero, List.set_cons_succ]
        refine wpAnyH_done (by kernel_rfl) ?_ _
        go_wp2_with fail
        go_meet
        exact ⟨w5.heap.size, .slice p5 Z.length c5, rfl, Blk.new w5 _ _, own5.rd.below ((Below.refl w5.heap.size w5).alloc (Nat.le_refl _) _) (Nat.le_refl _), hBq.alloc hBq.size _⟩
      · go_simp
        refine hK.out _ _ ⟨((X9.below hHeld.2 (Nat.le_refl _)).alloc _).cell 0, hHeld.2.alloc hHeld.2.size _⟩ (fun hHeld => ?_)
        clear hK K
        try simp only [Act.put, List.setIfInBounds_toArray, List.set_cons_zero, List.set_cons_succ]
        refine wpAnyH_ready (rs := [4]) (by kernel_rfl) (by simp) ?_
        refine AllReadyH.cons rfl (fun K hK => ?_) AllReadyH.nil
        go_simp
        (go_at_call 31; have hBa := hHeld.2; refine (ND.out _ _ _ _ _ _ (m9.below hBa (Nat.le_refl _))).mono ?_; rintro e w5 hN; obtain ⟨v5, rfl, own5, hb5⟩ := hN; obtain ⟨p5, c5, rfl⟩ := own5.val; have hBq := hBa.trans (hb5.mono hBa.size); have Y := (Blk.new w9.drew #[.int .i64 0, .slice none 0 0] 35).below hb5 (Nat.le_refl _); have y0 : w5.cell? ⟨w9.heap.size, 0, none⟩ = some (.int .i64 0) := Y.cell 0; have y1 : w5.cell? ⟨w9.heap.size, 1, none⟩ = some (.slice none 0 0) := Y.cell 1; have yf0 : w5.frozen? ⟨w9.heap.size, 0, none⟩ = false := Y.free 0; have yf1 : w5.frozen? ⟨w9.heap.size, 1, none⟩ = false := Y.free 1; go_simp)
        refine hK.out _ _ ⟨(X9.below hBq (Nat.le_refl _)).cell 0, hBq⟩ (fun hHeld => ?_)
        clear hK K
        try simp only [Act.put, List.setIfInBounds_toArray, List.set_cons_zero, List.set_cons_succ]
        refine wpAnyH_take (i := 5) (v := ?_) rfl (by kernel_rfl) (by kernel_rfl) (by kernel_rfl) (fun _ _ _ h => h) (Or.inl ⟨by rfl, ?_⟩) hHeld ?_
        rotate_left 1
        · intro w hSw; (try dsimp only at hSw); go_simp; first | done | with_reducible rfl
        show wpAnyH _ _ _ _ _ _ _ (Act.put _ (some 102) _) _
        try simp only [Act.put, List.setIfInBounds_toArray, List.set_cons_zero, List.set_cons_succ]
        refine wpAnyH_ready (rs := [7]) (by kernel_rfl) (by simp) ?_
        refine AllReadyH.cons rfl (fun K hK => ?_) AllReadyH.nil
        go_simp
        skip
        refine hK.out _ _ ⟨(((X9.below hBq (Nat.le_refl _)).set_other 0 (.int .i64 l) hXn).set_other 1 (.slice p5 Z.length c5) hXn).cell 0, (hBq.setCell (p := ⟨w9.heap.size, 0, none⟩) (Nat.le_refl _) _).setCell (p := ⟨w9.heap.size, 1, none⟩) (Nat.le_refl _) _⟩ (fun hHeld => ?_)
        clear hK K
        try simp only [Act.put, List.setIfInBounds_toArray, List.set_cons_zero, List.set_cons_succ]
        refine wpAnyH_done (by kernel_rfl) ?_ _
        go_wp2_with fail
        go_meet
        have hni : NotIn (.slice p5 Z.length c5) Z w9.heap.size := .inr (fun i hi => by have h1 : w9.heap.size < i := Nat.lt_of_lt_of_le (by simp) (own5.lt i hi); omega)
        exact ⟨w9.heap.size, .slice p5 Z.length c5, rfl, (Y.set 0 (.int .i64 l)).set 1 (.slice p5 Z.length c5), (own5.rd.set_off hni _ _).set_off hni _ _, (hBq.setCell (p := ⟨w9.heap.size, 0, none⟩) (Nat.le_refl _) _).setCell (p := ⟨w9.heap.size, 1, none⟩) (Nat.le_refl _) _⟩
    case rest =>
      obtain ⟨b, vs, rfl, Bs, hrs, hbc⟩ := hcut
      obtain ⟨ps, cs, rfl⟩ := hrs.val
      obtain ⟨w10, rfl⟩ : ∃ x, x = wc := ⟨_, rfl⟩
      have hs10 := hbc.size
      have X10 := X9.below hbc (Nat.le_refl _)
      have Y10 := Y9.below hbc (Nat.le_refl _)
      have V10 := V9.below hbc (Nat.le_refl _)
      have U10 := U9.below hbc (Nat.le_refl _)
      have d10 := d9.below hbc (Nat.le_refl _)
      have d10' := d9'.below hbc (Nat.le_refl _)
      have rb10 := rb9.below hbc (Nat.le_refl _)
      have rb10' := rb9'.below hbc (Nat.le_refl _)
      have m10 := m9.below hbc (Nat.le_refl _)
      have hbw10 := hbw9.trans (hbc.mono hbw9.size)
      have x1 : w10.cell? ⟨w.heap.size, 1, none⟩ = some (.int .i64 k) := X10.cell 1
      have y1 : w10.cell? ⟨w.heap.size + 1, 1, none⟩ = some (.int .i64 k') := Y10.cell 1
      clear X9 Y9 V9 U9 d9 d9' rb9 rb9' m9 hbw9 hbc x0 ccA hXl hXn hB0
      go_upto_region 12 with fail
      go_cut [17] (fun sv wx => sv = .int .i64 kk ∧ w10 = wx)
      case first =>
        rcases hcase with ⟨hmn, ekk⟩ | ⟨hmn, ekk⟩
        all_goals
          have Ekk := hid ekk
          clear ekk
          go_wp2_with fail
          go_meet
          exact ⟨by rw [Ekk.out], rfl⟩
      case rest =>
        obtain ⟨rfl, rfl⟩ := hcut
        clear x1 y1 hcase
        have v0 : w10.cell? ⟨w4.heap.size, 0, none⟩ = some (.int .i64 l) := V10.cell 0
        have v1 : w10.cell? ⟨w4.heap.size, 1, none⟩ = some (.slice pb its.length capb) := V10.cell 1
        have u0 : w10.cell? ⟨w6.heap.size, 0, none⟩ = some (.int .i64 l) := U10.cell 0
        have u1 : w10.cell? ⟨w6.heap.size, 1, none⟩ = some (.slice pb' its'.length capb') := U10.cell 1
        have hB0 := Below.refl w10.heap.size w10
        have FX := hid (fun W (hb : Below w10.heap.size w10 W) => show W.cell? ⟨w4.heap.size, 0, none⟩ = some (.int .i64 l) ∧ W.cell? ⟨w4.heap.size, 1, none⟩ = some (.slice pb its.length capb) ∧ W.cell? ⟨w6.heap.size, 0, none⟩ = some (.int .i64 l) ∧ W.cell? ⟨w6.heap.size, 1, none⟩ = some (.slice pb' its'.length capb') ∧ Below w10.heap.size w10 W from
          ⟨(V10.below hb (Nat.le_refl _)).cell 0, (V10.below hb (Nat.le_refl _)).cell 1, (U10.below hb (Nat.le_refl _)).cell 0, (U10.below hb (Nat.le_refl _)).cell 1, hb⟩)
        have hw0 : IntKind.i64.wrap (hA + hB) = hA + hB := IntWalk.i64_in _ ⟨by omega, by omega⟩
        go_upto_region 13 with fail
        go_cut [18] (fun sv wx => sv = .int .i64 (hA + hB) ∧ Below w10.heap.size w10 wx)
        case first =>
          go_region_held3 (fun w' => w'.cell? ⟨w4.heap.size, 0, none⟩ = some (.int .i64 l) ∧ w'.cell? ⟨w4.heap.size, 1, none⟩ = some (.slice pb its.length capb) ∧ w'.cell? ⟨w6.heap.size, 0, none⟩ = some (.int .i64 l) ∧ w'.cell? ⟨w6.heap.size, 1, none⟩ = some (.slice pb' its'.length capb') ∧ Below w10.heap.size w10 w')
            (first
              | exact FX.out _ (below_drewN hB0 1)
              | exact FX.out _ hB8
              | exact FX.out _ hB9)
            (first
              | (go_at_call_of 32 (Value.agg #[.int .i64 l, .slice pb its.length capb]); have hB4 := (‹_ ∧ _ ∧ _ ∧ _ ∧ Below w10.heap.size w10 _›).2.2.2.2; refine (BT.out _ (rb10.below hB4 (Nat.le_refl _))).mono ?_; rintro e w11 ⟨rfl, hb⟩
                 have hB8 := hB4.trans (hb.mono hB4.size))
              | (go_at_call_of 32 (Value.agg #[.int .i64 l, .slice pb' its'.length capb']); have hB4 := (‹_ ∧ _ ∧ _ ∧ _ ∧ Below w10.heap.size w10 _›).2.2.2.2; refine (BT'.out _ (rb10'.below hB4 (Nat.le_refl _))).mono ?_; rintro e w12 ⟨rfl, hb⟩
                 have hB9 := hB4.trans (hb.mono hB4.size)))
          all_goals
            go_wp2_with fail
            go_meet
            first
              | exact ⟨rfl, hB9⟩
              | exact ⟨rfl, hB8⟩
        case rest =>
          obtain ⟨rfl, hb11⟩ := hcut
          obtain ⟨w11, rfl⟩ : ∃ x, x = wc := ⟨_, rfl⟩
          have hs11 := hb11.size
          have B11 := Bs.below hb11 (Nat.le_refl _)
          have r11 := hrs.below hb11 (Nat.le_refl _)
          have d11 := d10.below hb11 (Nat.le_refl _)
          have d11' := d10'.below hb11 (Nat.le_refl _)
          have m11 := m10.below hb11 (Nat.le_refl _)
          have hbw11 := hbw10.trans (hb11.mono hbw10.size)
          have e0 : w11.cell? ⟨b, 0, none⟩ = some (.int .i64 l) := B11.cell 0
          have e1 : w11.cell? ⟨b, 1, none⟩ = some (.slice ps Z.length cs) := B11.cell 1
          clear X10 Y10 V10 U10 d10 d10' rb10 rb10' m10 hbw10 hb11 Bs hrs FX v0 v1 u0 u1 hB0 hw0 BT BT'
          go_wp2_with fail
          refine (BL.out _ _ r11).mono ?_
          rintro e w12 ⟨rfl, hb12⟩
          have hs12 := hb12.size
          have B12 := B11.below hb12 (Nat.le_refl _)
          have r12 := r11.below hb12 (Nat.le_refl _)
          have d12 := d11.below hb12 (Nat.le_refl _)
          have d12' := d11'.below hb12 (Nat.le_refl _)
          have m12 := m11.below hb12 (Nat.le_refl _)
          have hbw12 := hbw11.trans (hb12.mono hbw11.size)
          clear e0 e1 B11 r11 d11 d11' m11 hb12 hbw11
          have e0 : w12.cell? ⟨b, 0, none⟩ = some (.int .i64 l) := B12.cell 0
          have e1 : w12.cell? ⟨b, 1, none⟩ = some (.slice ps Z.length cs) := B12.cell 1
          have c1 : decide (hA + hB < low) = false := decide_eq_false (by omega)
          have c2 : decide (low + abv < hA + hB) = false := decide_eq_false (by omega)
          have c3 : ((S + S') != (S + S')) = false := by simp
          have c4 : decide (8 * kk - 2 < (Z.length : Int)) = false := decide_eq_false (by omega)
          have c5 : (kk != kk) = false := by simp
          have hw1 : IntKind.i64.wrap (low + abv) = low + abv := IntWalk.i64_in _ ⟨by omega, by omega⟩
          have hw2 : IntKind.i64.wrap (S + S') = S + S' := IntWalk.i64_in _ ⟨by omega, by omega⟩
          have hw3 : IntKind.i64.wrap (8 * kk) = 8 * kk := IntWalk.i64_in _ ⟨by omega, by omega⟩
          have hw4 : IntKind.i64.wrap (8 * kk - 2) = 8 * kk - 2 := IntWalk.i64_in _ ⟨by omega, by omega⟩
          have hfl := fun W : World => conf_k l kk kind W
          go_wp2_with fail
          refine (AB.out _ _ r12).mono ?_
          rintro e w13 ⟨rfl, rfl⟩
          go_wp2_with fail
          refine (NM.out _ _ _ _ _ m12).mono ?_
          rintro e w13 ⟨rfl, rfl⟩
          go_wp2_with fail
          refine (DN.out _ d12).mono ?_
          rintro e w13 ⟨rfl, rfl⟩
          go_wp2_with fail
          refine (DN'.out _ d12').mono ?_
          rintro e w13 ⟨rfl, rfl⟩
          go_wp2_with fail
          refine (LG.out _ _ r12).mono ?_
          rintro e w13 ⟨rfl, hb13⟩
          have hs13 := hb13.size
          have B13 := B12.below hb13 (Nat.le_refl _)
          have r13 := r12.below hb13 (Nat.le_refl _)
          have d13 := d12.below hb13 (Nat.le_refl _)
          have d13' := d12'.below hb13 (Nat.le_refl _)
          have m13 := m12.below hb13 (Nat.le_refl _)
          have hbw13 := hbw12.trans (hb13.mono hbw12.size)
          clear e0 e1 B12 r12 d12 d12' m12 hb13 hbw12 AB NM DN DN' LG BL
          go_wp2_with fail
          refine (CF.out _ _ _ _ _ m13).mono ?_
          rintro e w14 ⟨rfl, hb14⟩
          have hs14 := hb14.size
          have B14 := B13.below hb14 (Nat.le_refl _)
          have r14 := r13.below hb14 (Nat.le_refl _)
          have d14 := d13.below hb14 (Nat.le_refl _)
          have d14' := d13'.below hb14 (Nat.le_refl _)
          have hbw14 := hbw13.trans (hb14.mono hbw13.size)
          clear B13 r13 d13 d13' m13 hb14 hbw13
          go_wp2_with fail
          refine (MG'.out _ d14 d14').mono ?_
          rintro e w15 ⟨dt, qt, gt, ht, rfl, t15, -, -, -, -, hb15⟩
          have hs15 := hb15.size
          have B15 := B14.below hb15 (Nat.le_refl _)
          have r15 := r14.below hb15 (Nat.le_refl _)
          have hbw15 := hbw14.trans (hb15.mono hbw14.size)
          have e1 : w15.cell? ⟨b, 1, none⟩ = some (.slice ps Z.length cs) := B15.cell 1
          have hB0 := Below.refl w15.heap.size w15
          have hlb := B15.lt
          clear hfl c1 c2 c3 c4 c5 hw1 hw2 hw3 hw4 B14 r14 d14 d14' hb15 hbw14 MG' CF
          go_wp2_with fail
          go_region_held3 (fun w' => w'.cell? ⟨b, 1, none⟩ = some (.slice ps Z.length cs) ∧ Below w15.heap.size w15 w')
            (first
              | exact ⟨e1, below_drewN hB0 1⟩
              | exact ⟨(B15.below' hb16 hlb).cell 1, hb16⟩
              | exact ⟨(B15.below' hb17 hlb).cell 1, hb17⟩
              | exact ⟨(B15.below' hb18 hlb).cell 1, hb18⟩)
            (first
              | (go_at_call 31; have hB4 := (‹_ ∧ Below w15.heap.size w15 _›).2; refine (ND.out _ _ _ _ _ _ (t15.below hB4 (Nat.le_refl _))).mono ?_; rintro e w16 hN; obtain ⟨v16, rfl, own16, hb⟩ := hN; obtain ⟨p16, c16, rfl⟩ := own16.val
                 have hb16 := hB4.trans (hb.mono hB4.size))
              | (go_at_call 37; have hB4 := (‹_ ∧ Below w15.heap.size w15 _›).2; refine (NS.out _ _ _ own16.rd (r15.below hB4 (Nat.le_refl _))).mono ?_; rintro e w17 ⟨rfl, n17, rfl⟩
                 have hb17 := below_drewN hB4 n17)
              | (go_at_call 25; have hB4 := (‹_ ∧ Below w15.heap.size w15 _›).2; refine (A.out _).mono ?_; rintro e w18 ⟨rfl, hb⟩
                 have hb18 := hB4.trans (hb.mono hB4.size)))
          go_wp2_with fail
          go_ret
          exact ⟨rfl, hbw15.trans (hb18.mono hbw15.size)⟩

theorem BlendStands_walk (v0 : Value) (s0 : Int × Int × Int × Value × List Op3) (v1 : Value) (s1 : Int × Int × Int × Value × List Op3) (id0 : Int) (w : World)
    (h0 : v0 = .agg #[.int .i64 s0.1, .int .i64 s0.2.1, .int .i64 s0.2.2.1, s0.2.2.2.1] ∧ ((Lit.int .i64 s0.1).wf = true ∧ (Lit.int .i64 s0.2.1).wf = true ∧ (Lit.int .i64 s0.2.2.1).wf = true) ∧ RdO w s0.2.2.2.1 s0.2.2.2.2)
    (h1 : v1 = .agg #[.int .i64 s1.1, .int .i64 s1.2.1, .int .i64 s1.2.2.1, s1.2.2.2.1] ∧ ((Lit.int .i64 s1.1).wf = true ∧ (Lit.int .i64 s1.2.1).wf = true ∧ (Lit.int .i64 s1.2.2.1).wf = true) ∧ RdO w s1.2.2.2.1 s1.2.2.2.2) (bi : In64 id0) :
    Calls Tryz.prog 7 #[v0, v1, .int .i64 id0] w fun e w' => e = .returned (.bool true) ∧ Below w.heap.size w w' := by
  obtain ⟨rfl, ⟨a0, a1, -⟩, r0⟩ := h0
  obtain ⟨rfl, ⟨b0, b1, -⟩, r1⟩ := h1
  exact bs_walk _ _ _ _ _ _ _ _ _ _ id0 w (bd_i64 _ a0) (bd_i64 _ a1) (bd_i64 _ b0) (bd_i64 _ b1) r0 r1 bi
end Go.Proofs.YtnakieopnobjmaaGreat
