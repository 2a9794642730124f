/- The walk of BlendLowers. -/
import Derived.Test.YtnakieopnobjmaaGreatBL2
import Derived.Test.YtnakieopnobjmaaGreatDgNil
import Derived.Test.YtnakieopnobjmaaGreatGO
namespace Go.Proofs.YtnakieopnobjmaaGreat
open Go.RowKit Nl

set_option maxRecDepth 100000 in
set_option maxHeartbeats 1000000 in
theorem bl_lower_nil (k : Int) (w : World) :
    Calls Tryz.prog 38 #[.pointer none, .int .i64 k] w fun e w' => e = .returned (.tuple #[.pointer none, .int .i64 1]) ∧ Below w.heap.size w w' := by
  have CF := hid (fun W : World => nd_conf W)
  go_enter Tryz.func38, Tryz.ntmps38
  go_wp2_with fail
  refine (CF.out _).mono ?_
  rintro e w1 ⟨rfl, hb1⟩
  have hs1 := hb1.size
  go_wp2_with fail
  go_ret2
  exact ⟨rfl, hb1.trans (((Below.refl _ _).alloc (Nat.le_refl _) _).mono hs1)⟩

/-- What a side is that may be tried. -/
def FewC (l k kind : Int) (n : Nat) (b : Bool) : Prop := b = true → poolIs kind l = true ∧ isK k = true ∧ n ≤ 60
theorem s_few_any (l k kind : Int) (v : Value) (os : List Op3) (w : World) (ho : RdO w v os) :
    Calls Tryz.prog 13 #[.agg #[.int .i64 l, .int .i64 k, .int .i64 kind, v]] w fun e w' => ∃ b, e = .returned (.bool b) ∧ FewC l k kind os.length b ∧ Below w.heap.size w w' := by
  cases hP : (isK k && poolIs kind l)
  · exact s_few l k kind v os w ho (FewC l k kind os.length) (fun W => (d_few_no l k kind os.length W hP).mono fun e w' ⟨h1, h2⟩ => ⟨false, h1, fun h => (by cases h), h2⟩)
  · simp only [Bool.and_eq_true] at hP
    have hl : 1 ≤ l ∧ l ≤ 48 := by have := hP.2; unfold poolIs at this; simp at this; omega
    exact s_few l k kind v os w ho (FewC l k kind os.length) (fun W => (d_few l k kind os.length W hP.1 hP.2 (by omega) hl.1 hl.2).mono fun e w' ⟨b, h1, h2, h3⟩ => ⟨b, h1, fun h => ⟨hP.2, hP.1, by have := h2 h; omega⟩, h3⟩)

set_option maxRecDepth 100000 in
set_option maxHeartbeats 4000000 in
theorem bll_walk (l k kind : Int) (v : Value) (os : List Op3) (k0 : Int) (w : World) (bk : In64 k) (ho : RdO w v os) :
    Calls Tryz.prog 8 #[.agg #[.int .i64 l, .int .i64 k, .int .i64 kind, v], .int .i64 k0] w fun e w' => e = .returned (.bool true) ∧ Below w.heap.size w w' := by
  have A := hid (fun W : World => al14 W)
  have NL := hid (fun W : World => bl_lower_nil k0 W)
  obtain ⟨p, cap, rfl, hlen, -⟩ := id ho
  have FW := hid (fun (W : World) (h : RdO W (.slice p os.length cap) os) => s_few_any l k kind _ os W h)
  have MD := hid (fun (h1 : poolIs kind l = true) (h2 : isK k = true) (h3 : os.length ≤ 60) (W : World) (h : RdO W (.slice p os.length cap) os) => s_made l k kind _ os W h (by omega) h1 h2)
  have hb1 : Below w.heap.size w (w.alloc (.cells #[.int .i64 l, .int .i64 k, .int .i64 kind, .slice p os.length cap] 26)) := (Below.refl _ _).alloc (Nat.le_refl _) _
  have X1 := Blk.new w #[.int .i64 l, .int .i64 k, .int .i64 kind, .slice p os.length cap] 26
  have hs1 : (w.alloc (.cells #[.int .i64 l, .int .i64 k, .int .i64 kind, .slice p os.length cap] 26)).heap.size = w.heap.size + 1 := by simp
  have ho1 := ho.below hb1 (Nat.le_refl _)
  have hbw1 := hb1
  clear ho hb1 hlen
  go_enter Tryz.func8, Tryz.ntmps8
  go_wp2_with fail
  generalize (w.alloc (.cells #[.int .i64 l, .int .i64 k, .int .i64 kind, .slice p os.length cap] 26)) = w1 at *
  refine (NL.out _).mono ?_
  rintro e w2 ⟨rfl, hb2⟩
  have hs2 := hb2.size
  have X2 := X1.below hb2 (Nat.le_refl _)
  have ho2 := ho1.below hb2 (Nat.le_refl _)
  have hbw2 := hbw1.trans (hb2.mono hbw1.size)
  clear X1 ho1 hbw1
  have x0 := X2.cell 0
  have x1 := X2.cell 1
  have x2 := X2.cell 2
  have x3 := X2.cell 3
  go_wp2_with fail
  refine (FW.out _ ho2).mono ?_
  rintro e w3 ⟨b, rfl, hF, hb3⟩
  have hs3 := hb3.size
  have X3 := X2.below hb3 (Nat.le_refl _)
  have ho3 := ho2.below hb3 (Nat.le_refl _)
  have hbw3 := hbw2.trans (hb3.mono hbw2.size)
  clear x0 x1 x2 x3
  clear X2 ho2 hbw2
  cases b
  · go_wp2_with fail
    refine (A.out _).mono ?_
    rintro e w4 ⟨rfl, hb4⟩
    go_wp2_with fail
    go_ret
    exact ⟨rfl, hbw3.trans (hb4.mono hbw3.size)⟩
  obtain ⟨hP1, hP2, h60⟩ := hF rfl
  clear hF
  have x0 := X3.cell 0
  have x1 := X3.cell 1
  have x2 := X3.cell 2
  have x3 := X3.cell 3
  go_wp2_with fail
  refine (MD.out hP1 hP2 h60 _ ho3).mono ?_
  rintro e w4 ⟨dg, q, g, h0, v4, rfl, d4, r4, hl4, -, hb4⟩
  clear ho3
  have hs4 := hb4.size
  have X4 := X3.below hb4 (Nat.le_refl _)
  have hbw4 := hbw3.trans (hb4.mono hbw3.size)
  clear x0 x1 x2 x3
  clear X3 hbw3
  generalize dgAll l k os = F at *
  obtain ⟨p4, c4, rfl⟩ := r4.val
  have i4 := d4.inv
  clear MD FW hP1 hP2
  have LK0 := fun W (y : DgV W dg q g h0 kind l k 2000 F) v (z : RdN W v F) => d_like14 y (by decide) z (by omega)
  have LK := hid LK0
  clear LK0
  by_cases hk : 1 ≤ k0 ∧ k0 ≤ k
  · obtain ⟨hk1, hk2⟩ := hk
    have LW := hid (fun W (y : DgV W dg q g h0 kind l k 2000 F) => bl_lower k0 y (by decide) (by omega) hk1 hk2)
    have RL := hid (fun W (z : RdN W (.slice p4 F.length c4) F) => r_blower k0 z (by omega) i4.roll hk1 hk2 bk)
    obtain ⟨-, lo2, lo3, lo4⟩ := low_spec i4 hk1 hk2
    generalize lowL l k0 F = Z at *
    have hzl : Z.length ≤ 4000 := by omega
    have LZ := hid (fun W dg q g h (y : DgV W dg q g h kind l k0 2000 Z) v (z : RdN W v Z) => d_like14 y (by decide) z hzl)
    clear lo2 lo3 lo4 hzl i4
    have hb5 : Below w4.heap.size w4 (w4.alloc (.cells #[.int .i64 k, .int .i64 l, .slice p4 F.length c4] 37)) := (Below.refl _ _).alloc (Nat.le_refl _) _
    have D5 := Blk.new w4 #[.int .i64 k, .int .i64 l, .slice p4 F.length c4] 37
    have hs5 : (w4.alloc (.cells #[.int .i64 k, .int .i64 l, .slice p4 F.length c4] 37)).heap.size = w4.heap.size + 1 := by simp
    have X5 := X4.below hb5 (Nat.le_refl _)
    have d5 := d4.below hb5 (Nat.le_refl _)
    have r5 := r4.below hb5 (Nat.le_refl _)
    have hbw5 := hbw4.trans (hb5.mono hbw4.size)
    clear X4 d4 r4 hbw4
    go_wp2_with fail
    generalize (w4.alloc (.cells #[.int .i64 k, .int .i64 l, .slice p4 F.length c4] 37)) = w5 at *
    have hdl := D5.lt
    refine (LW.out _ d5).mono ?_
    rintro e w6 ⟨dg', q', g', h', rfl, m6, -, -, -, -, hb6⟩
    have hs6 := hb6.size
    have X6 := X5.below hb6 (Nat.le_refl _)
    have d6 := d5.below hb6 (Nat.le_refl _)
    have r6 := r5.below hb6 (Nat.le_refl _)
    have D6 := D5.below hb6 (Nat.le_refl _)
    have hbw6 := hbw5.trans (hb6.mono hbw5.size)
    clear X5 d5 r5 D5 hbw5
    have c0 := D6.cell 0
    have c1 := D6.cell 1
    have c2 := D6.cell 2
    go_wp2_with fail
    refine (RL.out _ r6).mono ?_
    rintro e w7 ⟨v7, rfl, z7, hb7⟩
    have hs7 := hb7.size
    have X7 := X6.below hb7 (Nat.le_refl _)
    have d7 := d6.below hb7 (Nat.le_refl _)
    have r7 := r6.below hb7 (Nat.le_refl _)
    have D7 := D6.below hb7 (Nat.le_refl _)
    have m7 := m6.below hb7 (Nat.le_refl _)
    have hbw7 := hbw6.trans (hb7.mono hbw6.size)
    clear c0 c1 c2
    clear X6 d6 r6 D6 m6 hbw6
    obtain ⟨p7, c7, rfl⟩ := z7.val
    have c0 := D7.cell 0
    have c1 := D7.cell 1
    have c2 := D7.cell 2
    have x2 := X7.cell 2
    have q0 : World.cell? _ ⟨w4.heap.size, 0, none⟩ = _ := (D7.alloc (.cells #[.int .i64 k0, .int .i64 l, .slice p7 Z.length c7] 37)).cell 0
    have q1 : World.cell? _ ⟨w4.heap.size, 1, none⟩ = _ := (D7.alloc (.cells #[.int .i64 k0, .int .i64 l, .slice p7 Z.length c7] 37)).cell 1
    have q2 : World.cell? _ ⟨w4.heap.size, 2, none⟩ = _ := (D7.alloc (.cells #[.int .i64 k0, .int .i64 l, .slice p7 Z.length c7] 37)).cell 2
    have q3 : World.cell? _ ⟨w.heap.size, 2, none⟩ = _ := (X7.alloc (.cells #[.int .i64 k0, .int .i64 l, .slice p7 Z.length c7] 37)).cell 2
    have hb8 : Below w7.heap.size w7 (w7.alloc (.cells #[.int .i64 k0, .int .i64 l, .slice p7 Z.length c7] 37)) := (Below.refl _ _).alloc (Nat.le_refl _) _
    have V8 := Blk.new w7 #[.int .i64 k0, .int .i64 l, .slice p7 Z.length c7] 37
    have hs8 : (w7.alloc (.cells #[.int .i64 k0, .int .i64 l, .slice p7 Z.length c7] 37)).heap.size = w7.heap.size + 1 := by simp
    have X8 := X7.below hb8 (Nat.le_refl _)
    have d8 := d7.below hb8 (Nat.le_refl _)
    have r8 := r7.below hb8 (Nat.le_refl _)
    have D8 := D7.below hb8 (Nat.le_refl _)
    have m8 := m7.below hb8 (Nat.le_refl _)
    have z8 := z7.below hb8 (Nat.le_refl _)
    have hbw8 := hbw7.trans (hb8.mono hbw7.size)
    clear X7 d7 r7 D7 m7 z7 hbw7
    go_wp2_with fail
    generalize (w7.alloc (.cells #[.int .i64 k0, .int .i64 l, .slice p7 Z.length c7] 37)) = w8 at *
    clear c0 c1 c2 x2 q0 q1 q2 q3
    refine (LK.out _ d8 _ r8).mono ?_
    rintro e w9 ⟨rfl, hb9⟩
    clear d8 r8
    have hs9 := hb9.size
    have X9 := X8.below hb9 (Nat.le_refl _)
    have D9 := D8.below hb9 (Nat.le_refl _)
    have m9 := m8.below hb9 (Nat.le_refl _)
    have z9 := z8.below hb9 (Nat.le_refl _)
    have V9 := V8.below hb9 (Nat.le_refl _)
    have hbw9 := hbw8.trans (hb9.mono hbw8.size)
    clear X8 D8 m8 z8 V8 hbw8
    have c0 := V9.cell 0
    have c1 := V9.cell 1
    have c2 := V9.cell 2
    have x2 := X9.cell 2
    go_wp2_with fail
    refine (LZ.out _ _ _ _ _ m9 _ z9).mono ?_
    rintro e w10 ⟨rfl, hb10⟩
    have hs10 := hb10.size
    have X10 := X9.below hb10 (Nat.le_refl _)
    have D10 := D9.below hb10 (Nat.le_refl _)
    have m10 := m9.below hb10 (Nat.le_refl _)
    have z10 := z9.below hb10 (Nat.le_refl _)
    have V10 := V9.below hb10 (Nat.le_refl _)
    have hbw10 := hbw9.trans (hb10.mono hbw9.size)
    clear c0 c1 c2 x2
    clear X9 D9 m9 z9 V9 hbw9
    go_wp2_with fail
    refine (A.out _).mono ?_
    rintro e wz ⟨rfl, hbz⟩
    go_wp2_with fail
    go_ret
    exact ⟨rfl, hbw10.trans (hbz.mono hbw10.size)⟩
  · have hk' : k0 < 1 ∨ k < k0 := by omega
    have LN := hid (fun W (y : DgV W dg q g h0 kind l k 2000 F) => bl_lower_no k0 y hk')
    have RN := hid (fun W : World => r_blower_no (w := W) (l := l) (K := k) (p := p4) (n := F.length) (c := c4) k0 hk')
    clear hk hk' i4
    have hb5 : Below w4.heap.size w4 (w4.alloc (.cells #[.int .i64 k, .int .i64 l, .slice p4 F.length c4] 37)) := (Below.refl _ _).alloc (Nat.le_refl _) _
    have D5 := Blk.new w4 #[.int .i64 k, .int .i64 l, .slice p4 F.length c4] 37
    have hs5 : (w4.alloc (.cells #[.int .i64 k, .int .i64 l, .slice p4 F.length c4] 37)).heap.size = w4.heap.size + 1 := by simp
    have X5 := X4.below hb5 (Nat.le_refl _)
    have d5 := d4.below hb5 (Nat.le_refl _)
    have r5 := r4.below hb5 (Nat.le_refl _)
    have hbw5 := hbw4.trans (hb5.mono hbw4.size)
    clear X4 d4 r4 hbw4
    go_wp2_with fail
    generalize (w4.alloc (.cells #[.int .i64 k, .int .i64 l, .slice p4 F.length c4] 37)) = w5 at *
    have hdl := D5.lt
    refine (LN.out _ d5).mono ?_
    rintro e w6 ⟨rfl, hb6⟩
    have hs6 := hb6.size
    have X6 := X5.below hb6 (Nat.le_refl _)
    have d6 := d5.below hb6 (Nat.le_refl _)
    have r6 := r5.below hb6 (Nat.le_refl _)
    have D6 := D5.below hb6 (Nat.le_refl _)
    have hbw6 := hbw5.trans (hb6.mono hbw5.size)
    clear X5 d5 r5 D5 hbw5
    have c0 := D6.cell 0
    have c1 := D6.cell 1
    have c2 := D6.cell 2
    go_wp2_with fail
    refine (RN.out _).mono ?_
    rintro e w7 ⟨rfl, hb7⟩
    have hs7 := hb7.size
    have X7 := X6.below hb7 (Nat.le_refl _)
    have d7 := d6.below hb7 (Nat.le_refl _)
    have r7 := r6.below hb7 (Nat.le_refl _)
    have D7 := D6.below hb7 (Nat.le_refl _)
    have hbw7 := hbw6.trans (hb7.mono hbw6.size)
    clear c0 c1 c2
    clear X6 d6 r6 D6 hbw6
    have q0 : World.cell? _ ⟨w4.heap.size, 0, none⟩ = _ := (D7.alloc (.cells #[.int .i64 0, .int .i64 0, .slice none 0 0] 37)).cell 0
    have q1 : World.cell? _ ⟨w4.heap.size, 1, none⟩ = _ := (D7.alloc (.cells #[.int .i64 0, .int .i64 0, .slice none 0 0] 37)).cell 1
    have q2 : World.cell? _ ⟨w4.heap.size, 2, none⟩ = _ := (D7.alloc (.cells #[.int .i64 0, .int .i64 0, .slice none 0 0] 37)).cell 2
    have q3 : World.cell? _ ⟨w.heap.size, 2, none⟩ = _ := (X7.alloc (.cells #[.int .i64 0, .int .i64 0, .slice none 0 0] 37)).cell 2
    have hb8 : Below w7.heap.size w7 (w7.alloc (.cells #[.int .i64 0, .int .i64 0, .slice none 0 0] 37)) := (Below.refl _ _).alloc (Nat.le_refl _) _
    have V8 := Blk.new w7 #[.int .i64 0, .int .i64 0, .slice none 0 0] 37
    have hs8 : (w7.alloc (.cells #[.int .i64 0, .int .i64 0, .slice none 0 0] 37)).heap.size = w7.heap.size + 1 := by simp
    have X8 := X7.below hb8 (Nat.le_refl _)
    have d8 := d7.below hb8 (Nat.le_refl _)
    have r8 := r7.below hb8 (Nat.le_refl _)
    have D8 := D7.below hb8 (Nat.le_refl _)
    have hbw8 := hbw7.trans (hb8.mono hbw7.size)
    clear X7 d7 r7 D7 hbw7
    go_wp2_with fail
    generalize (w7.alloc (.cells #[.int .i64 0, .int .i64 0, .slice none 0 0] 37)) = w8 at *
    clear q0 q1 q2 q3
    refine (LK.out _ d8 _ r8).mono ?_
    rintro e w9 ⟨rfl, hb9⟩
    clear d8 r8
    have hs9 := hb9.size
    have X9 := X8.below hb9 (Nat.le_refl _)
    have D9 := D8.below hb9 (Nat.le_refl _)
    have V9 := V8.below hb9 (Nat.le_refl _)
    have hbw9 := hbw8.trans (hb9.mono hbw8.size)
    clear X8 D8 V8 hbw8
    go_wp2_with fail
    refine (A.out _).mono ?_
    rintro e wz ⟨rfl, hbz⟩
    go_wp2_with fail
    go_ret
    exact ⟨rfl, hbw9.trans (hbz.mono hbw9.size)⟩

theorem BlendLowers_walk (v0 : Value) (s0 : Int × Int × Int × Value × List Op3) (k0 : Int) (w : World)
    (h0 : v0 = .agg #[.int .i64 s0.1, .int .i64 s0.2.1, .int .i64 s0.2.2.1, s0.2.2.2.1] ∧ ((Lit.int .i64 s0.1).wf = true ∧ (Lit.int .i64 s0.2.1).wf = true ∧ (Lit.int .i64 s0.2.2.1).wf = true) ∧ RdO w s0.2.2.2.1 s0.2.2.2.2) (_bi : In64 k0) :
    Calls Tryz.prog 8 #[v0, .int .i64 k0] w fun e w' => e = .returned (.bool true) ∧ Below w.heap.size w w' := by
  obtain ⟨rfl, ⟨-, a1, -⟩, r0⟩ := h0
  exact bll_walk _ _ _ _ _ k0 w (bd_i64 _ a1) r0
end Go.Proofs.YtnakieopnobjmaaGreat
