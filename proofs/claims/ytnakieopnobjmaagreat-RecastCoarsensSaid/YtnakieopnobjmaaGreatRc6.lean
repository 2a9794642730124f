/- The walks of RecastGrows and RecastCoarsens. -/
import Derived.Test.YtnakieopnobjmaaGreatRc5
import Derived.Test.YtnakieopnobjmaaGreatBl11
namespace Go.Proofs.YtnakieopnobjmaaGreat
open Go.RowKit Nl

set_option maxRecDepth 100000 in
set_option maxHeartbeats 4000000 in
theorem rcg_walk (l k kind : Int) (v : Value) (os : List Op3) (l0 : Int) (w : World) (ho : RdO w v os) :
    Calls Tryz.prog 3 #[.agg #[.int .i64 l, .int .i64 k, .int .i64 kind, v], .int .i64 l0] w fun e w' => e = .returned (.bool true) ∧ Below w.heap.size w w' := by
  have A := hid (fun W : World => al15 W)
  have NL := hid (fun W : World => rc_grow_nil l0 W)
  obtain ⟨p, cap, rfl, hlen, -⟩ := id ho
  have FW := hid (fun (W : World) (h : RdO W (.slice p os.length cap) os) => s_few_any l k kind _ os W h)
  have MD := hid (fun (h1 : poolIs kind l = true) (h2 : isK k = true) (h3 : os.length ≤ 60) (W : World) (h : RdO W (.slice p os.length cap) os) => s_made l k kind _ os W h (by omega) h1 h2)
  have hb1 : Below w.heap.size w (w.alloc (.cells #[.int .i64 l, .int .i64 k, .int .i64 kind, .slice p os.length cap] 26)) := (Below.refl _ _).alloc (Nat.le_refl _) _
  have X1 := Blk.new w #[.int .i64 l, .int .i64 k, .int .i64 kind, .slice p os.length cap] 26
  have hs1 : (w.alloc (.cells #[.int .i64 l, .int .i64 k, .int .i64 kind, .slice p os.length cap] 26)).heap.size = w.heap.size + 1 := by simp
  have ho1 := ho.below hb1 (Nat.le_refl _)
  have hbw1 := hb1
  clear ho hb1 hlen
  go_enter Tryz.func3, Tryz.ntmps3
  go_wp2_with fail
  generalize (w.alloc (.cells #[.int .i64 l, .int .i64 k, .int .i64 kind, .slice p os.length cap] 26)) = w1 at *
  refine (NL.out _).mono ?_
  rintro e w' ⟨rfl, rfl⟩
  have x0 := X1.cell 0
  have x1 := X1.cell 1
  have x2 := X1.cell 2
  have x3 := X1.cell 3
  go_wp2_with fail
  refine (FW.out _ ho1).mono ?_
  rintro e w2 ⟨b, rfl, hF, hb2⟩
  have hs2 := hb2.size
  have X2 := X1.below hb2 (Nat.le_refl _)
  have ho2 := ho1.below hb2 (Nat.le_refl _)
  have hbw2 := hbw1.trans (hb2.mono hbw1.size)
  clear x0 x1 x2 x3
  clear X1 ho1 hbw1
  cases b
  · go_wp2_with fail
    refine (A.out _).mono ?_
    rintro e w4 ⟨rfl, hb4⟩
    go_wp2_with fail
    go_ret
    exact ⟨rfl, hbw2.trans (hb4.mono hbw2.size)⟩
  obtain ⟨hP1, hP2, h60⟩ := hF rfl
  clear hF
  have x0 := X2.cell 0
  have x1 := X2.cell 1
  have x2 := X2.cell 2
  have x3 := X2.cell 3
  go_wp2_with fail
  refine (MD.out hP1 hP2 h60 _ ho2).mono ?_
  rintro e w3 ⟨dg, q, g, h0, v4, rfl, d3, r3, hl4, -, hb3⟩
  clear ho2
  have hs3 := hb3.size
  have X3 := X2.below hb3 (Nat.le_refl _)
  have hbw3 := hbw2.trans (hb3.mono hbw2.size)
  clear x0 x1 x2 x3
  clear X2 hbw2
  generalize dgAll l k os = F at *
  obtain ⟨p4, c4, rfl⟩ := r3.val
  have i4 := d3.inv
  clear MD FW hP1 hP2
  have LK0 := fun W (y : DgV W dg q g h0 kind l k 2000 F) v (z : RdN W v F) => d_like14 y (by decide) z (by omega)
  have LK := hid LK0
  clear LK0
  cases hk : growB kind l l0
  case true =>
    have LW := hid (fun W (y : DgV W dg q g h0 kind l k 2000 F) => rc_grow l0 y (by decide) (by omega) hk)
    have RL := hid (fun W (z : RdN W (.slice p4 F.length c4) F) => r_rgrow kind l0 i4 z (by omega) hk)
    have hgg : l ≤ l0 ∧ l0 ≤ 48 := by
      simp only [growB, Bool.and_eq_true, decide_eq_true_eq] at hk
      exact ⟨hk.1, (pool_bd hk.2).2⟩
    have hlow := (grow_spec i4 (show 0 ≤ l0 - l by omega) (show l + (l0 - l) ≤ 48 by omega)).2.2.1
    generalize growL (l0 - l) F = Z at *
    have SM := hid (fun W dg q g h (y : DgV W dg q g h kind l0 k 2000 Z) v (z : RdN W v Z) => rc_same y (by decide) z (by omega))
    clear hlow i4 hk hgg
    have hb4 : Below w3.heap.size w3 (w3.alloc (.cells #[.int .i64 k, .int .i64 l, .slice p4 F.length c4] 37)) := (Below.refl _ _).alloc (Nat.le_refl _) _
    have D4 := Blk.new w3 #[.int .i64 k, .int .i64 l, .slice p4 F.length c4] 37
    have hs4 : (w3.alloc (.cells #[.int .i64 k, .int .i64 l, .slice p4 F.length c4] 37)).heap.size = w3.heap.size + 1 := by simp
    have X4 := X3.below hb4 (Nat.le_refl _)
    have d4 := d3.below hb4 (Nat.le_refl _)
    have r4 := r3.below hb4 (Nat.le_refl _)
    have hbw4 := hbw3.trans (hb4.mono hbw3.size)
    clear X3 d3 r3 hbw3
    go_wp2_with fail
    generalize (w3.alloc (.cells #[.int .i64 k, .int .i64 l, .slice p4 F.length c4] 37)) = w4 at *
    have hdl := D4.lt
    refine (LW.out _ d4).mono ?_
    rintro e w5 ⟨dg', q', g', h', rfl, m5, -, -, -, -, hb5⟩
    have hs5 := hb5.size
    have X5 := X4.below hb5 (Nat.le_refl _)
    have d5 := d4.below hb5 (Nat.le_refl _)
    have r5 := r4.below hb5 (Nat.le_refl _)
    have D5 := D4.below hb5 (Nat.le_refl _)
    have hbw5 := hbw4.trans (hb5.mono hbw4.size)
    clear X4 d4 r4 D4 hbw4
    have c0 := D5.cell 0
    have c1 := D5.cell 1
    have c2 := D5.cell 2
    have x2 := X5.cell 2
    go_wp2_with fail
    refine (RL.out _ r5).mono ?_
    rintro e w6 ⟨v7, rfl, z6, hb6⟩
    have hs6 := hb6.size
    have X6 := X5.below hb6 (Nat.le_refl _)
    have d6 := d5.below hb6 (Nat.le_refl _)
    have r6 := r5.below hb6 (Nat.le_refl _)
    have D6 := D5.below hb6 (Nat.le_refl _)
    have m6 := m5.below hb6 (Nat.le_refl _)
    have hbw6 := hbw5.trans (hb6.mono hbw5.size)
    clear c0 c1 c2 x2
    clear X5 d5 r5 D5 m5 hbw5
    obtain ⟨p7, c7, rfl⟩ := z6.val
    have x2 : World.cell? _ ⟨w.heap.size, 2, none⟩ = _ := (X6.alloc (.cells #[.int .i64 k, .int .i64 l0, .slice p7 Z.length c7] 37)).cell 2
    have hb7 : Below w6.heap.size w6 (w6.alloc (.cells #[.int .i64 k, .int .i64 l0, .slice p7 Z.length c7] 37)) := (Below.refl _ _).alloc (Nat.le_refl _) _
    have V7 := Blk.new w6 #[.int .i64 k, .int .i64 l0, .slice p7 Z.length c7] 37
    have hs7 : (w6.alloc (.cells #[.int .i64 k, .int .i64 l0, .slice p7 Z.length c7] 37)).heap.size = w6.heap.size + 1 := by simp
    have X7 := X6.below hb7 (Nat.le_refl _)
    have d7 := d6.below hb7 (Nat.le_refl _)
    have r7 := r6.below hb7 (Nat.le_refl _)
    have D7 := D6.below hb7 (Nat.le_refl _)
    have m7 := m6.below hb7 (Nat.le_refl _)
    have z7 := z6.below hb7 (Nat.le_refl _)
    have hbw7 := hbw6.trans (hb7.mono hbw6.size)
    clear X6 d6 r6 D6 m6 z6 hbw6
    go_wp2_with fail
    generalize (w6.alloc (.cells #[.int .i64 k, .int .i64 l0, .slice p7 Z.length c7] 37)) = w7 at *
    clear x2
    refine (SM.out _ _ _ _ _ m7 _ z7).mono ?_
    rintro e w8 ⟨rfl, hb8⟩
    clear m7 z7
    have hs8 := hb8.size
    have X8 := X7.below hb8 (Nat.le_refl _)
    have d8 := d7.below hb8 (Nat.le_refl _)
    have r8 := r7.below hb8 (Nat.le_refl _)
    have D8 := D7.below hb8 (Nat.le_refl _)
    have V8 := V7.below hb8 (Nat.le_refl _)
    have hbw8 := hbw7.trans (hb8.mono hbw7.size)
    clear X7 d7 r7 D7 V7 hbw7
    have c0 := D8.cell 0
    have c1 := D8.cell 1
    have c2 := D8.cell 2
    have x2 := X8.cell 2
    go_wp2_with fail
    refine (LK.out _ d8 _ r8).mono ?_
    rintro e w9 ⟨rfl, hb9⟩
    clear d8 r8
    have hs9 := hb9.size
    have X9 := X8.below hb9 (Nat.le_refl _)
    have D9 := D8.below hb9 (Nat.le_refl _)
    have V9 := V8.below hb9 (Nat.le_refl _)
    have hbw9 := hbw8.trans (hb9.mono hbw8.size)
    clear c0 c1 c2 x2
    clear X8 D8 V8 hbw8
    go_wp2_with fail
    refine (A.out _).mono ?_
    rintro e wz ⟨rfl, hbz⟩
    go_wp2_with fail
    go_ret
    exact ⟨rfl, hbw9.trans (hbz.mono hbw9.size)⟩
  case false =>
    have LW := hid (fun W (y : DgV W dg q g h0 kind l k 2000 F) => rc_grow_no l0 y hk)
    have RL := hid (fun W : World => r_rgrow_no (w := W) (l := l) (k := k) (p := p4) (n := F.length) (c := c4) kind l0 hk)
    have SM := hid (fun W : World => rc_same_no kind 0 0 none 0 0 W)
    clear hk i4
    have hb4 : Below w3.heap.size w3 (w3.alloc (.cells #[.int .i64 k, .int .i64 l, .slice p4 F.length c4] 37)) := (Below.refl _ _).alloc (Nat.le_refl _) _
    have D4 := Blk.new w3 #[.int .i64 k, .int .i64 l, .slice p4 F.length c4] 37
    have hs4 : (w3.alloc (.cells #[.int .i64 k, .int .i64 l, .slice p4 F.length c4] 37)).heap.size = w3.heap.size + 1 := by simp
    have X4 := X3.below hb4 (Nat.le_refl _)
    have d4 := d3.below hb4 (Nat.le_refl _)
    have r4 := r3.below hb4 (Nat.le_refl _)
    have hbw4 := hbw3.trans (hb4.mono hbw3.size)
    clear X3 d3 r3 hbw3
    go_wp2_with fail
    generalize (w3.alloc (.cells #[.int .i64 k, .int .i64 l, .slice p4 F.length c4] 37)) = w4 at *
    have hdl := D4.lt
    refine (LW.out _ d4).mono ?_
    rintro e w5 ⟨rfl, hb5⟩
    have hs5 := hb5.size
    have X5 := X4.below hb5 (Nat.le_refl _)
    have d5 := d4.below hb5 (Nat.le_refl _)
    have r5 := r4.below hb5 (Nat.le_refl _)
    have D5 := D4.below hb5 (Nat.le_refl _)
    have hbw5 := hbw4.trans (hb5.mono hbw4.size)
    clear X4 d4 r4 D4 hbw4
    have c0 := D5.cell 0
    have c1 := D5.cell 1
    have c2 := D5.cell 2
    have x2 := X5.cell 2
    go_wp2_with fail
    refine (RL.out _).mono ?_
    rintro e w6 ⟨rfl, hb6⟩
    have hs6 := hb6.size
    have X6 := X5.below hb6 (Nat.le_refl _)
    have d6 := d5.below hb6 (Nat.le_refl _)
    have r6 := r5.below hb6 (Nat.le_refl _)
    have D6 := D5.below hb6 (Nat.le_refl _)
    have hbw6 := hbw5.trans (hb6.mono hbw5.size)
    clear c0 c1 c2 x2
    clear X5 d5 r5 D5 hbw5
    have x2 : World.cell? _ ⟨w.heap.size, 2, none⟩ = _ := (X6.alloc (.cells #[.int .i64 0, .int .i64 0, .slice none 0 0] 37)).cell 2
    have hb7 : Below w6.heap.size w6 (w6.alloc (.cells #[.int .i64 0, .int .i64 0, .slice none 0 0] 37)) := (Below.refl _ _).alloc (Nat.le_refl _) _
    have V7 := Blk.new w6 #[.int .i64 0, .int .i64 0, .slice none 0 0] 37
    have hs7 : (w6.alloc (.cells #[.int .i64 0, .int .i64 0, .slice none 0 0] 37)).heap.size = w6.heap.size + 1 := by simp
    have X7 := X6.below hb7 (Nat.le_refl _)
    have d7 := d6.below hb7 (Nat.le_refl _)
    have r7 := r6.below hb7 (Nat.le_refl _)
    have D7 := D6.below hb7 (Nat.le_refl _)
    have hbw7 := hbw6.trans (hb7.mono hbw6.size)
    clear X6 d6 r6 D6 hbw6
    go_wp2_with fail
    generalize (w6.alloc (.cells #[.int .i64 0, .int .i64 0, .slice none 0 0] 37)) = w7 at *
    clear x2
    refine (SM.out _).mono ?_
    rintro e w8 ⟨rfl, hb8⟩
    have hs8 := hb8.size
    have X8 := X7.below hb8 (Nat.le_refl _)
    have d8 := d7.below hb8 (Nat.le_refl _)
    have r8 := r7.below hb8 (Nat.le_refl _)
    have D8 := D7.below hb8 (Nat.le_refl _)
    have V8 := V7.below hb8 (Nat.le_refl _)
    have hbw8 := hbw7.trans (hb8.mono hbw7.size)
    clear X7 d7 r7 D7 V7 hbw7
    have c0 := D8.cell 0
    have c1 := D8.cell 1
    have c2 := D8.cell 2
    have x2 := X8.cell 2
    go_wp2_with fail
    refine (LK.out _ d8 _ r8).mono ?_
    rintro e w9 ⟨rfl, hb9⟩
    clear d8 r8
    have hs9 := hb9.size
    have X9 := X8.below hb9 (Nat.le_refl _)
    have D9 := D8.below hb9 (Nat.le_refl _)
    have V9 := V8.below hb9 (Nat.le_refl _)
    have hbw9 := hbw8.trans (hb9.mono hbw8.size)
    clear c0 c1 c2 x2
    clear X8 D8 V8 hbw8
    go_wp2_with fail
    refine (A.out _).mono ?_
    rintro e wz ⟨rfl, hbz⟩
    go_wp2_with fail
    go_ret
    exact ⟨rfl, hbw9.trans (hbz.mono hbw9.size)⟩

theorem RecastGrows_walk (v0 : Value) (s0 : Int × Int × Int × Value × List Op3) (k0 : Int) (w : World)
    (h0 : v0 = .agg #[.int .i64 s0.1, .int .i64 s0.2.1, .int .i64 s0.2.2.1, s0.2.2.2.1] ∧ ((Lit.int .i64 s0.1).wf = true ∧ (Lit.int .i64 s0.2.1).wf = true ∧ (Lit.int .i64 s0.2.2.1).wf = true) ∧ RdO w s0.2.2.2.1 s0.2.2.2.2) (_bi : In64 k0) :
    Calls Tryz.prog 3 #[v0, .int .i64 k0] w fun e w' => e = .returned (.bool true) ∧ Below w.heap.size w w' := by
  obtain ⟨rfl, -, r0⟩ := h0
  exact rcg_walk _ _ _ _ _ k0 w r0

set_option maxRecDepth 100000 in
set_option maxHeartbeats 4000000 in
theorem rcc_walk (l k kind : Int) (v : Value) (os : List Op3) (l0 : Int) (w : World) (ho : RdO w v os) :
    Calls Tryz.prog 4 #[.agg #[.int .i64 l, .int .i64 k, .int .i64 kind, v], .int .i64 l0] w fun e w' => e = .returned (.bool true) ∧ Below w.heap.size w w' := by
  have A := hid (fun W : World => al15 W)
  have NL := hid (fun W : World => rc_coar_nil l0 W)
  obtain ⟨p, cap, rfl, hlen, -⟩ := id ho
  have FW := hid (fun (W : World) (h : RdO W (.slice p os.length cap) os) => s_few_any l k kind _ os W h)
  have MD := hid (fun (h1 : poolIs kind l = true) (h2 : isK k = true) (h3 : os.length ≤ 60) (W : World) (h : RdO W (.slice p os.length cap) os) => s_made l k kind _ os W h (by omega) h1 h2)
  have hb1 : Below w.heap.size w (w.alloc (.cells #[.int .i64 l, .int .i64 k, .int .i64 kind, .slice p os.length cap] 26)) := (Below.refl _ _).alloc (Nat.le_refl _) _
  have X1 := Blk.new w #[.int .i64 l, .int .i64 k, .int .i64 kind, .slice p os.length cap] 26
  have hs1 : (w.alloc (.cells #[.int .i64 l, .int .i64 k, .int .i64 kind, .slice p os.length cap] 26)).heap.size = w.heap.size + 1 := by simp
  have ho1 := ho.below hb1 (Nat.le_refl _)
  have hbw1 := hb1
  clear ho hb1 hlen
  go_enter Tryz.func4, Tryz.ntmps4
  go_wp2_with fail
  generalize (w.alloc (.cells #[.int .i64 l, .int .i64 k, .int .i64 kind, .slice p os.length cap] 26)) = w1 at *
  refine (NL.out _).mono ?_
  rintro e w' ⟨rfl, rfl⟩
  have x0 := X1.cell 0
  have x1 := X1.cell 1
  have x2 := X1.cell 2
  have x3 := X1.cell 3
  go_wp2_with fail
  refine (FW.out _ ho1).mono ?_
  rintro e w2 ⟨b, rfl, hF, hb2⟩
  have hs2 := hb2.size
  have X2 := X1.below hb2 (Nat.le_refl _)
  have ho2 := ho1.below hb2 (Nat.le_refl _)
  have hbw2 := hbw1.trans (hb2.mono hbw1.size)
  clear x0 x1 x2 x3
  clear X1 ho1 hbw1
  cases b
  · go_wp2_with fail
    refine (A.out _).mono ?_
    rintro e w4 ⟨rfl, hb4⟩
    go_wp2_with fail
    go_ret
    exact ⟨rfl, hbw2.trans (hb4.mono hbw2.size)⟩
  obtain ⟨hP1, hP2, h60⟩ := hF rfl
  clear hF
  have x0 := X2.cell 0
  have x1 := X2.cell 1
  have x2 := X2.cell 2
  have x3 := X2.cell 3
  go_wp2_with fail
  refine (MD.out hP1 hP2 h60 _ ho2).mono ?_
  rintro e w3 ⟨dg, q, g, h0, v4, rfl, d3, r3, hl4, -, hb3⟩
  clear ho2
  have hs3 := hb3.size
  have X3 := X2.below hb3 (Nat.le_refl _)
  have hbw3 := hbw2.trans (hb3.mono hbw2.size)
  clear x0 x1 x2 x3
  clear X2 hbw2
  generalize dgAll l k os = F at *
  obtain ⟨p4, c4, rfl⟩ := r3.val
  have i4 := d3.inv
  clear MD FW hP1 hP2
  have LK0 := fun W (y : DgV W dg q g h0 kind l k 2000 F) v (z : RdN W v F) => d_like14 y (by decide) z (by omega)
  have LK := hid LK0
  clear LK0
  by_cases hk : 0 ≤ l0 ∧ l0 < l
  case pos =>
    obtain ⟨hk1, hk2⟩ := hk
    have LW := hid (fun W (y : DgV W dg q g h0 kind l k 2000 F) => rc_coar l0 y (by decide) (by omega) hk1 hk2)
    have RL := hid (fun W (z : RdN W (.slice p4 F.length c4) F) => r_rcoar l0 i4 z (by omega) hk1 hk2)
    have hlow := (coar_spec i4 (show 1 ≤ l - l0 by omega) (show l - l0 ≤ l by omega)).2.2.1
    generalize coarL (l - l0) F = Z at *
    obtain ⟨L, eL⟩ : ∃ L, l - l0 = L := ⟨_, rfl⟩
    rw [eL] at LW RL
    have SM := hid (fun W dg q g h (y : DgV W dg q g h kind L k 2000 Z) v (z : RdN W v Z) => rc_same y (by decide) z (by omega))
    clear hlow i4 hk1 hk2 eL
    have hb4 : Below w3.heap.size w3 (w3.alloc (.cells #[.int .i64 k, .int .i64 l, .slice p4 F.length c4] 37)) := (Below.refl _ _).alloc (Nat.le_refl _) _
    have D4 := Blk.new w3 #[.int .i64 k, .int .i64 l, .slice p4 F.length c4] 37
    have hs4 : (w3.alloc (.cells #[.int .i64 k, .int .i64 l, .slice p4 F.length c4] 37)).heap.size = w3.heap.size + 1 := by simp
    have X4 := X3.below hb4 (Nat.le_refl _)
    have d4 := d3.below hb4 (Nat.le_refl _)
    have r4 := r3.below hb4 (Nat.le_refl _)
    have hbw4 := hbw3.trans (hb4.mono hbw3.size)
    clear X3 d3 r3 hbw3
    go_wp2_with fail
    generalize (w3.alloc (.cells #[.int .i64 k, .int .i64 l, .slice p4 F.length c4] 37)) = w4 at *
    have hdl := D4.lt
    refine (LW.out _ d4).mono ?_
    rintro e w5 ⟨dg', q', g', h', rfl, m5, -, -, -, -, hb5⟩
    have hs5 := hb5.size
    have X5 := X4.below hb5 (Nat.le_refl _)
    have d5 := d4.below hb5 (Nat.le_refl _)
    have r5 := r4.below hb5 (Nat.le_refl _)
    have D5 := D4.below hb5 (Nat.le_refl _)
    have hbw5 := hbw4.trans (hb5.mono hbw4.size)
    clear X4 d4 r4 D4 hbw4
    have c0 := D5.cell 0
    have c1 := D5.cell 1
    have c2 := D5.cell 2
    have x2 := X5.cell 2
    go_wp2_with fail
    refine (RL.out _ r5).mono ?_
    rintro e w6 ⟨v7, rfl, z6, hb6⟩
    have hs6 := hb6.size
    have X6 := X5.below hb6 (Nat.le_refl _)
    have d6 := d5.below hb6 (Nat.le_refl _)
    have r6 := r5.below hb6 (Nat.le_refl _)
    have D6 := D5.below hb6 (Nat.le_refl _)
    have m6 := m5.below hb6 (Nat.le_refl _)
    have hbw6 := hbw5.trans (hb6.mono hbw5.size)
    clear c0 c1 c2 x2
    clear X5 d5 r5 D5 m5 hbw5
    obtain ⟨p7, c7, rfl⟩ := z6.val
    have x2 : World.cell? _ ⟨w.heap.size, 2, none⟩ = _ := (X6.alloc (.cells #[.int .i64 k, .int .i64 L, .slice p7 Z.length c7] 37)).cell 2
    have hb7 : Below w6.heap.size w6 (w6.alloc (.cells #[.int .i64 k, .int .i64 L, .slice p7 Z.length c7] 37)) := (Below.refl _ _).alloc (Nat.le_refl _) _
    have V7 := Blk.new w6 #[.int .i64 k, .int .i64 L, .slice p7 Z.length c7] 37
    have hs7 : (w6.alloc (.cells #[.int .i64 k, .int .i64 L, .slice p7 Z.length c7] 37)).heap.size = w6.heap.size + 1 := by simp
    have X7 := X6.below hb7 (Nat.le_refl _)
    have d7 := d6.below hb7 (Nat.le_refl _)
    have r7 := r6.below hb7 (Nat.le_refl _)
    have D7 := D6.below hb7 (Nat.le_refl _)
    have m7 := m6.below hb7 (Nat.le_refl _)
    have z7 := z6.below hb7 (Nat.le_refl _)
    have hbw7 := hbw6.trans (hb7.mono hbw6.size)
    clear X6 d6 r6 D6 m6 z6 hbw6
    go_wp2_with fail
    generalize (w6.alloc (.cells #[.int .i64 k, .int .i64 L, .slice p7 Z.length c7] 37)) = w7 at *
    clear x2
    refine (SM.out _ _ _ _ _ m7 _ z7).mono ?_
    rintro e w8 ⟨rfl, hb8⟩
    clear m7 z7
    have hs8 := hb8.size
    have X8 := X7.below hb8 (Nat.le_refl _)
    have d8 := d7.below hb8 (Nat.le_refl _)
    have r8 := r7.below hb8 (Nat.le_refl _)
    have D8 := D7.below hb8 (Nat.le_refl _)
    have V8 := V7.below hb8 (Nat.le_refl _)
    have hbw8 := hbw7.trans (hb8.mono hbw7.size)
    clear X7 d7 r7 D7 V7 hbw7
    have c0 := D8.cell 0
    have c1 := D8.cell 1
    have c2 := D8.cell 2
    have x2 := X8.cell 2
    go_wp2_with fail
    refine (LK.out _ d8 _ r8).mono ?_
    rintro e w9 ⟨rfl, hb9⟩
    clear d8 r8
    have hs9 := hb9.size
    have X9 := X8.below hb9 (Nat.le_refl _)
    have D9 := D8.below hb9 (Nat.le_refl _)
    have V9 := V8.below hb9 (Nat.le_refl _)
    have hbw9 := hbw8.trans (hb9.mono hbw8.size)
    clear c0 c1 c2 x2
    clear X8 D8 V8 hbw8
    go_wp2_with fail
    refine (A.out _).mono ?_
    rintro e wz ⟨rfl, hbz⟩
    go_wp2_with fail
    go_ret
    exact ⟨rfl, hbw9.trans (hbz.mono hbw9.size)⟩
  case neg =>
    have hk' : l0 < 0 ∨ l ≤ l0 := by omega
    have LW := hid (fun W (y : DgV W dg q g h0 kind l k 2000 F) => rc_coar_no l0 y hk')
    have RL := hid (fun W : World => r_rcoar_no (w := W) (l := l) (k := k) (p := p4) (n := F.length) (c := c4) l0 hk')
    have SM := hid (fun W : World => rc_same_no kind 0 0 none 0 0 W)
    clear hk hk' i4
    have hb4 : Below w3.heap.size w3 (w3.alloc (.cells #[.int .i64 k, .int .i64 l, .slice p4 F.length c4] 37)) := (Below.refl _ _).alloc (Nat.le_refl _) _
    have D4 := Blk.new w3 #[.int .i64 k, .int .i64 l, .slice p4 F.length c4] 37
    have hs4 : (w3.alloc (.cells #[.int .i64 k, .int .i64 l, .slice p4 F.length c4] 37)).heap.size = w3.heap.size + 1 := by simp
    have X4 := X3.below hb4 (Nat.le_refl _)
    have d4 := d3.below hb4 (Nat.le_refl _)
    have r4 := r3.below hb4 (Nat.le_refl _)
    have hbw4 := hbw3.trans (hb4.mono hbw3.size)
    clear X3 d3 r3 hbw3
    go_wp2_with fail
    generalize (w3.alloc (.cells #[.int .i64 k, .int .i64 l, .slice p4 F.length c4] 37)) = w4 at *
    have hdl := D4.lt
    refine (LW.out _ d4).mono ?_
    rintro e w5 ⟨rfl, hb5⟩
    have hs5 := hb5.size
    have X5 := X4.below hb5 (Nat.le_refl _)
    have d5 := d4.below hb5 (Nat.le_refl _)
    have r5 := r4.below hb5 (Nat.le_refl _)
    have D5 := D4.below hb5 (Nat.le_refl _)
    have hbw5 := hbw4.trans (hb5.mono hbw4.size)
    clear X4 d4 r4 D4 hbw4
    have c0 := D5.cell 0
    have c1 := D5.cell 1
    have c2 := D5.cell 2
    have x2 := X5.cell 2
    go_wp2_with fail
    refine (RL.out _).mono ?_
    rintro e w6 ⟨rfl, hb6⟩
    have hs6 := hb6.size
    have X6 := X5.below hb6 (Nat.le_refl _)
    have d6 := d5.below hb6 (Nat.le_refl _)
    have r6 := r5.below hb6 (Nat.le_refl _)
    have D6 := D5.below hb6 (Nat.le_refl _)
    have hbw6 := hbw5.trans (hb6.mono hbw5.size)
    clear c0 c1 c2 x2
    clear X5 d5 r5 D5 hbw5
    have x2 : World.cell? _ ⟨w.heap.size, 2, none⟩ = _ := (X6.alloc (.cells #[.int .i64 0, .int .i64 0, .slice none 0 0] 37)).cell 2
    have hb7 : Below w6.heap.size w6 (w6.alloc (.cells #[.int .i64 0, .int .i64 0, .slice none 0 0] 37)) := (Below.refl _ _).alloc (Nat.le_refl _) _
    have V7 := Blk.new w6 #[.int .i64 0, .int .i64 0, .slice none 0 0] 37
    have hs7 : (w6.alloc (.cells #[.int .i64 0, .int .i64 0, .slice none 0 0] 37)).heap.size = w6.heap.size + 1 := by simp
    have X7 := X6.below hb7 (Nat.le_refl _)
    have d7 := d6.below hb7 (Nat.le_refl _)
    have r7 := r6.below hb7 (Nat.le_refl _)
    have D7 := D6.below hb7 (Nat.le_refl _)
    have hbw7 := hbw6.trans (hb7.mono hbw6.size)
    clear X6 d6 r6 D6 hbw6
    go_wp2_with fail
    generalize (w6.alloc (.cells #[.int .i64 0, .int .i64 0, .slice none 0 0] 37)) = w7 at *
    clear x2
    refine (SM.out _).mono ?_
    rintro e w8 ⟨rfl, hb8⟩
    have hs8 := hb8.size
    have X8 := X7.below hb8 (Nat.le_refl _)
    have d8 := d7.below hb8 (Nat.le_refl _)
    have r8 := r7.below hb8 (Nat.le_refl _)
    have D8 := D7.below hb8 (Nat.le_refl _)
    have V8 := V7.below hb8 (Nat.le_refl _)
    have hbw8 := hbw7.trans (hb8.mono hbw7.size)
    clear X7 d7 r7 D7 V7 hbw7
    have c0 := D8.cell 0
    have c1 := D8.cell 1
    have c2 := D8.cell 2
    have x2 := X8.cell 2
    go_wp2_with fail
    refine (LK.out _ d8 _ r8).mono ?_
    rintro e w9 ⟨rfl, hb9⟩
    clear d8 r8
    have hs9 := hb9.size
    have X9 := X8.below hb9 (Nat.le_refl _)
    have D9 := D8.below hb9 (Nat.le_refl _)
    have V9 := V8.below hb9 (Nat.le_refl _)
    have hbw9 := hbw8.trans (hb9.mono hbw8.size)
    clear c0 c1 c2 x2
    clear X8 D8 V8 hbw8
    go_wp2_with fail
    refine (A.out _).mono ?_
    rintro e wz ⟨rfl, hbz⟩
    go_wp2_with fail
    go_ret
    exact ⟨rfl, hbw9.trans (hbz.mono hbw9.size)⟩

theorem RecastCoarsens_walk (v0 : Value) (s0 : Int × Int × Int × Value × List Op3) (k0 : Int) (w : World)
    (h0 : v0 = .agg #[.int .i64 s0.1, .int .i64 s0.2.1, .int .i64 s0.2.2.1, s0.2.2.2.1] ∧ ((Lit.int .i64 s0.1).wf = true ∧ (Lit.int .i64 s0.2.1).wf = true ∧ (Lit.int .i64 s0.2.2.1).wf = true) ∧ RdO w s0.2.2.2.1 s0.2.2.2.2) (_bi : In64 k0) :
    Calls Tryz.prog 4 #[v0, .int .i64 k0] w fun e w' => e = .returned (.bool true) ∧ Below w.heap.size w w' := by
  obtain ⟨rfl, -, r0⟩ := h0
  exact rcc_walk _ _ _ _ _ k0 w r0

end Go.Proofs.YtnakieopnobjmaaGreat
