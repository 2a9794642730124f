/- The walk of RecastTurns. -/
import Derived.Test.YtnakieopnobjmaaGreatRc5
import Derived.Test.YtnakieopnobjmaaGreatBl11
import Derived.Test.YtnakieopnobjmaaGreatDg7
namespace Go.Proofs.YtnakieopnobjmaaGreat
open Go.RowKit Nl

set_option maxRecDepth 100000 in
set_option maxHeartbeats 4000000 in
theorem rct_walk (l k kind : Int) (v : Value) (os : List Op3) (l0 o x wt : Int) (w : World) (ho : RdO w v os) (bx : In64 x) (bw : In64 wt) :
    Calls Tryz.prog 11 #[.agg #[.int .i64 l, .int .i64 k, .int .i64 kind, v], .int .i64 l0, .agg #[.int .i64 o, .int .i64 x, .int .i64 wt]] w fun e w' => e = .returned (.bool true) ∧ Below w.heap.size w w' := by
  have A := hid (fun W : World => al15 W)
  have NL := hid (fun W : World => rc_turn_nil l0 W)
  have IS := hid (fun W : World => r_poolIs l0 l W)
  obtain ⟨p, cap, rfl, hlen, -⟩ := id ho
  have FW := hid (fun (W : World) (h : RdO W (.slice p os.length cap) os) => s_few_any l k kind _ os W h)
  have MD := hid (fun (h1 : poolIs kind l = true) (h2 : isK k = true) (h3 : os.length ≤ 60) (W : World) (h : RdO W (.slice p os.length cap) os) => s_made l k kind _ os W h (by omega) h1 h2)
  have X1 := (Blk.new w #[.int .i64 l, .int .i64 k, .int .i64 kind, .slice p os.length cap] 26).alloc (.cells #[.int .i64 o, .int .i64 x, .int .i64 wt] 79)
  have O1 := Blk.new (w.alloc (.cells #[.int .i64 l, .int .i64 k, .int .i64 kind, .slice p os.length cap] 26)) #[.int .i64 o, .int .i64 x, .int .i64 wt] 79
  rw [World.size_alloc] at O1
  have hbw1 : Below w.heap.size w ((w.alloc (.cells #[.int .i64 l, .int .i64 k, .int .i64 kind, .slice p os.length cap] 26)).alloc (.cells #[.int .i64 o, .int .i64 x, .int .i64 wt] 79)) := ((Below.refl _ _).alloc (Nat.le_refl _) _).alloc (by simp) _
  have hs1 : ((w.alloc (.cells #[.int .i64 l, .int .i64 k, .int .i64 kind, .slice p os.length cap] 26)).alloc (.cells #[.int .i64 o, .int .i64 x, .int .i64 wt] 79)).heap.size = w.heap.size + 2 := by simp
  have ho1 := ho.below hbw1 (Nat.le_refl _)
  clear ho hlen
  go_enter Tryz.func11, Tryz.ntmps11
  go_wp2_with fail
  generalize ((w.alloc (.cells #[.int .i64 l, .int .i64 k, .int .i64 kind, .slice p os.length cap] 26)).alloc (.cells #[.int .i64 o, .int .i64 x, .int .i64 wt] 79)) = w1 at *
  refine (NL.out _).mono ?_
  rintro e w' ⟨rfl, rfl⟩
  have x0 := X1.cell 0
  have x1 := X1.cell 1
  have x2 := X1.cell 2
  have x3 := X1.cell 3
  go_wp2_with fail
  refine (FW.out _ ho1).mono ?_
  rintro e w2 ⟨b, rfl, hF, hb2⟩
  have hs2 := hb2.size
  have X2 := X1.below hb2 (Nat.le_refl _)
  have O2 := O1.below hb2 (Nat.le_refl _)
  have ho2 := ho1.below hb2 (Nat.le_refl _)
  have hbw2 := hbw1.trans (hb2.mono hbw1.size)
  clear x0 x1 x2 x3
  clear X1 O1 ho1 hbw1
  cases b
  · go_wp2_with fail
    refine (A.out _).mono ?_
    rintro e w4 ⟨rfl, hb4⟩
    go_wp2_with fail
    go_ret
    exact ⟨rfl, hbw2.trans (hb4.mono hbw2.size)⟩
  obtain ⟨hP1, hP2, h60⟩ := hF rfl
  clear hF
  have x0 := X2.cell 0
  have x1 := X2.cell 1
  have x2 := X2.cell 2
  have x3 := X2.cell 3
  go_wp2_with fail
  refine (MD.out hP1 hP2 h60 _ ho2).mono ?_
  rintro e w3 ⟨dg, q, g, h0, v4, rfl, d3, r3, hl4, -, hb3⟩
  clear ho2
  have hs3 := hb3.size
  have X3 := X2.below hb3 (Nat.le_refl _)
  have O3 := O2.below hb3 (Nat.le_refl _)
  have hbw3 := hbw2.trans (hb3.mono hbw2.size)
  clear x0 x1 x2 x3
  clear X2 O2 hbw2
  generalize dgAll l k os = F at *
  obtain ⟨p4, c4, rfl⟩ := r3.val
  have i4 := d3.inv
  clear MD FW hP1 hP2
  have ltd := d3.ltB
  have ndr := r3.ltE
  have LK := hid (fun W (y : DgV W dg q g h0 kind l k 2000 F) v (z : RdN W v F) => d_like14 y (by decide) z (by omega))
  cases hk : poolIs l0 l
  case false =>
    have TN := hid (fun W (y : DgV W dg q g h0 kind l k 2000 F) => rc_turn_no l0 y hk)
    rw [hk] at IS
    clear hk i4 ltd ndr LK
    have hb4 : Below w3.heap.size w3 (w3.alloc (.cells #[.int .i64 k, .int .i64 l, .slice p4 F.length c4] 37)) := (Below.refl _ _).alloc (Nat.le_refl _) _
    have D4 := Blk.new w3 #[.int .i64 k, .int .i64 l, .slice p4 F.length c4] 37
    have hs4 : (w3.alloc (.cells #[.int .i64 k, .int .i64 l, .slice p4 F.length c4] 37)).heap.size = w3.heap.size + 1 := by simp
    have X4 := X3.below hb4 (Nat.le_refl _)
    have O4 := O3.below hb4 (Nat.le_refl _)
    have d4 := d3.below hb4 (Nat.le_refl _)
    have r4 := r3.below hb4 (Nat.le_refl _)
    have hbw4 := hbw3.trans (hb4.mono hbw3.size)
    clear X3 O3 d3 r3 hbw3
    go_wp2_with fail
    generalize (w3.alloc (.cells #[.int .i64 k, .int .i64 l, .slice p4 F.length c4] 37)) = w4 at *
    refine (TN.out _ d4).mono ?_
    rintro e w5 ⟨rfl, hb5⟩
    have hs5 := hb5.size
    have X5 := X4.below hb5 (Nat.le_refl _)
    have O5 := O4.below hb5 (Nat.le_refl _)
    have d5 := d4.below hb5 (Nat.le_refl _)
    have r5 := r4.below hb5 (Nat.le_refl _)
    have D5 := D4.below hb5 (Nat.le_refl _)
    have hbw5 := hbw4.trans (hb5.mono hbw4.size)
    clear X4 O4 d4 r4 D4 hbw4
    have x0 := X5.cell 0
    go_wp2_with fail
    refine (IS.out _).mono ?_
    rintro e w' ⟨rfl, rfl⟩
    go_wp2_with fail
    refine (A.out _).mono ?_
    rintro e wz ⟨rfl, hbz⟩
    go_wp2_with fail
    go_ret
    exact ⟨rfl, hbw5.trans (hbz.mono hbw5.size)⟩
  case true =>
    have TN := hid (fun W (y : DgV W dg q g h0 kind l k 2000 F) => rc_turn l0 y (by decide) (by omega) hk)
    rw [hk] at IS
    have LT := hid (fun W dg q g h (y : DgV W dg q g h l0 l k 2000 F) v (z : RdN W v F) => d_like14 y (by decide) z (by omega))
    have SM0 := fun W dm qm gm hm (y : DgV W dm qm gm hm l0 l k 2000 F) (z : DgV W dg q g h0 kind l k 2000 F) => dg_same y z (by decide) (by decide)
    simp only [and_self, decide_true] at SM0
    have SM := hid SM0
    have RD := hid (fun W (z : RdN W (.slice p4 F.length c4) F) => r_ddo o x wt z (by omega) i4 bx bw)
    have DO := hid (fun W dm qm gm hm (y : DgV W dm qm gm hm l0 l k 2000 F) => dg_do y o x wt (by decide) (by omega) (by omega) bx bw)
    have DI := i4.doo o x wt
    generalize dgDo l k F o x wt = R at *
    obtain ⟨Z, nn⟩ := R
    have dlen : List.length (α := Nd) Z ≤ F.length + 1 := DI.2
    have LZ := hid (fun W dm qm gm hm (y : DgV W dm qm gm hm l0 l k 2000 Z) v (z : RdN W v Z) => d_like14 y (by decide) z (by omega))
    clear hk i4 SM0 DI dlen
    have hb4 : Below w3.heap.size w3 (w3.alloc (.cells #[.int .i64 k, .int .i64 l, .slice p4 F.length c4] 37)) := (Below.refl _ _).alloc (Nat.le_refl _) _
    have D4 := Blk.new w3 #[.int .i64 k, .int .i64 l, .slice p4 F.length c4] 37
    have hs4 : (w3.alloc (.cells #[.int .i64 k, .int .i64 l, .slice p4 F.length c4] 37)).heap.size = w3.heap.size + 1 := by simp
    have X4 := X3.below hb4 (Nat.le_refl _)
    have O4 := O3.below hb4 (Nat.le_refl _)
    have d4 := d3.below hb4 (Nat.le_refl _)
    have r4 := r3.below hb4 (Nat.le_refl _)
    have hbw4 := hbw3.trans (hb4.mono hbw3.size)
    clear X3 O3 d3 r3 hbw3
    go_wp2_with fail
    generalize (w3.alloc (.cells #[.int .i64 k, .int .i64 l, .slice p4 F.length c4] 37)) = w4 at *
    refine (TN.out _ d4).mono ?_
    rintro e w5 ⟨dm, qm, gm, hm, rfl, m5, e1, e2, e3, e4, hb5⟩
    have hs5 := hb5.size
    have X5 := X4.below hb5 (Nat.le_refl _)
    have O5 := O4.below hb5 (Nat.le_refl _)
    have d5 := d4.below hb5 (Nat.le_refl _)
    have r5 := r4.below hb5 (Nat.le_refl _)
    have D5 := D4.below hb5 (Nat.le_refl _)
    have hbw5 := hbw4.trans (hb5.mono hbw4.size)
    clear X4 O4 d4 r4 D4 hbw4
    have x0 := X5.cell 0
    go_wp2_with fail
    refine (IS.out _).mono ?_
    rintro e w' ⟨rfl, rfl⟩
    clear x0
    have c0 := D5.cell 0
    have c1 := D5.cell 1
    have c2 := D5.cell 2
    go_wp2_with fail
    refine (LT.out _ _ _ _ _ m5 _ r5).mono ?_
    rintro e w6 ⟨rfl, hb6⟩
    have hs6 := hb6.size
    have X6 := X5.below hb6 (Nat.le_refl _)
    have O6 := O5.below hb6 (Nat.le_refl _)
    have d6 := d5.below hb6 (Nat.le_refl _)
    have r6 := r5.below hb6 (Nat.le_refl _)
    have D6 := D5.below hb6 (Nat.le_refl _)
    have m6 := m5.below hb6 (Nat.le_refl _)
    have hbw6 := hbw5.trans (hb6.mono hbw5.size)
    clear c0 c1 c2
    clear X5 O5 d5 r5 D5 m5 hbw5
    go_wp2_with fail
    refine (SM.out _ _ _ _ _ m6 d6).mono ?_
    rintro e w7 ⟨rfl, hb7⟩
    have hs7 := hb7.size
    have X7 := X6.below hb7 (Nat.le_refl _)
    have O7 := O6.below hb7 (Nat.le_refl _)
    have d7 := d6.below hb7 (Nat.le_refl _)
    have r7 := r6.below hb7 (Nat.le_refl _)
    have D7 := D6.below hb7 (Nat.le_refl _)
    have m7 := m6.below hb7 (Nat.le_refl _)
    have hbw7 := hbw6.trans (hb7.mono hbw6.size)
    clear X6 O6 d6 r6 D6 m6 hbw6
    have c0 := D7.cell 0
    have c1 := D7.cell 1
    have c2 := D7.cell 2
    have o0 := O7.cell 0
    have o1 := O7.cell 1
    have o2 := O7.cell 2
    have ltm := m7.ltB
    have rK := r7
    go_wp2_with fail
    refine (RD.out _ r7).mono ?_
    rintro e w8 ⟨vz, rfl, z8, fz, hb8⟩
    have hs8 := hb8.size
    have X8 := X7.below hb8 (Nat.le_refl _)
    have O8 := O7.below hb8 (Nat.le_refl _)
    have d8 := d7.below hb8 (Nat.le_refl _)
    have r8 := r7.below hb8 (Nat.le_refl _)
    have D8 := D7.below hb8 (Nat.le_refl _)
    have m8 := m7.below hb8 (Nat.le_refl _)
    have hbw8 := hbw7.trans (hb8.mono hbw7.size)
    clear c0 c1 c2 o0 o1 o2
    clear X7 O7 d7 r7 D7 m7 hbw7
    obtain ⟨pz, cz, rfl⟩ := z8.val
    have o0 : World.cell? _ ⟨w.heap.size + 1, 0, none⟩ = _ := (O8.alloc (.cells #[.int .i64 k, .int .i64 l, .slice pz Z.length cz] 37)).cell 0
    have o1 : World.cell? _ ⟨w.heap.size + 1, 1, none⟩ = _ := (O8.alloc (.cells #[.int .i64 k, .int .i64 l, .slice pz Z.length cz] 37)).cell 1
    have o2 : World.cell? _ ⟨w.heap.size + 1, 2, none⟩ = _ := (O8.alloc (.cells #[.int .i64 k, .int .i64 l, .slice pz Z.length cz] 37)).cell 2
    have hdm : ∀ j, DB dm qm gm hm j → w4.heap.size ≤ j := fun j hj => by rcases hj with e | e | e | e <;> omega
    have nF : NotD (.slice p4 F.length c4) F (fun j => DB dm qm gm hm j) := by
      rcases ndr with e | e
      · exact .inl e
      · exact .inr fun j hj hd => by have := e j hj; have := hdm j hd; omega
    have nZ : NotD (.slice pz Z.length cz) Z (fun j => DB dm qm gm hm j) := nF.next rK z8 fz ltm
    clear rK fz
    have hb9 : Below w8.heap.size w8 (w8.alloc (.cells #[.int .i64 k, .int .i64 l, .slice pz Z.length cz] 37)) := (Below.refl _ _).alloc (Nat.le_refl _) _
    have V9 := Blk.new w8 #[.int .i64 k, .int .i64 l, .slice pz Z.length cz] 37
    have hs9 : (w8.alloc (.cells #[.int .i64 k, .int .i64 l, .slice pz Z.length cz] 37)).heap.size = w8.heap.size + 1 := by simp
    have X9 := X8.below hb9 (Nat.le_refl _)
    have O9 := O8.below hb9 (Nat.le_refl _)
    have d9 := d8.below hb9 (Nat.le_refl _)
    have r9 := r8.below hb9 (Nat.le_refl _)
    have D9 := D8.below hb9 (Nat.le_refl _)
    have m9 := m8.below hb9 (Nat.le_refl _)
    have z9 := z8.below hb9 (Nat.le_refl _)
    have hbw9 := hbw8.trans (hb9.mono hbw8.size)
    clear X8 O8 d8 r8 D8 m8 z8 hbw8
    go_wp2_with fail
    generalize (w8.alloc (.cells #[.int .i64 k, .int .i64 l, .slice pz Z.length cz] 37)) = w9 at *
    clear o0 o1 o2
    refine (DO.out _ _ _ _ _ m9).mono ?_
    rintro e w10 ⟨rfl, hz, m10, hhz, cc⟩
    simp only at m10
    have hs10 := cc.size
    have hXl := X9.lt
    have X10 := X9.keep (cc.block _ hXl (fun hd => by have := hdm _ hd; omega))
    have D10 := D9.keep (cc.block _ D9.lt (fun hd => by have := hdm _ hd; omega))
    have V10 := V9.keep (cc.block _ V9.lt (fun hd => by have := ltm _ hd; omega))
    have d10 := d9.keepB (w' := w10) (fun j hj hd => cc.block j hj (fun hp => by have := hdm _ hp; have := ltd _ hd; omega))
    have r10 := nF.keep r9 cc (fun j hj => hj)
    have z10 := nZ.keep z9 cc (fun j hj => hj)
    have hbw10 := ChB.of_new hbw9 cc (fun j hj => by have := hdm j hj; omega)
    have hne : (nn == nn) = true := by simp
    clear X9 D9 V9 d9 r9 z9 hbw9 m9 cc O9
    have c0 := V10.cell 0
    have c1 := V10.cell 1
    have c2 := V10.cell 2
    go_wp2_with fail
    refine (LZ.out _ _ _ _ _ m10 _ z10).mono ?_
    rintro e w11 ⟨rfl, hb11⟩
    clear m10 z10
    have hs11 := hb11.size
    have X11 := X10.below hb11 (Nat.le_refl _)
    have D11 := D10.below hb11 (Nat.le_refl _)
    have V11 := V10.below hb11 (Nat.le_refl _)
    have d11 := d10.below hb11 (Nat.le_refl _)
    have r11 := r10.below hb11 (Nat.le_refl _)
    have hbw11 := hbw10.trans (hb11.mono hbw10.size)
    clear c0 c1 c2
    clear X10 D10 V10 d10 r10 hbw10
    have c0 := D11.cell 0
    have c1 := D11.cell 1
    have c2 := D11.cell 2
    have x2 := X11.cell 2
    go_wp2_with fail
    refine (LK.out _ d11 _ r11).mono ?_
    rintro e w12 ⟨rfl, hb12⟩
    clear d11 r11
    have hs12 := hb12.size
    have X12 := X11.below hb12 (Nat.le_refl _)
    have D12 := D11.below hb12 (Nat.le_refl _)
    have V12 := V11.below hb12 (Nat.le_refl _)
    have hbw12 := hbw11.trans (hb12.mono hbw11.size)
    clear c0 c1 c2 x2
    clear X11 D11 V11 hbw11
    go_wp2_with fail
    refine (A.out _).mono ?_
    rintro e wz ⟨rfl, hbz⟩
    go_wp2_with fail
    go_ret
    exact ⟨rfl, hbw12.trans (hbz.mono hbw12.size)⟩

theorem RecastTurns_walk (v0 : Value) (s0 : Int × Int × Int × Value × List Op3) (k0 : Int) (o x wt : Int) (w : World)
    (h0 : v0 = .agg #[.int .i64 s0.1, .int .i64 s0.2.1, .int .i64 s0.2.2.1, s0.2.2.2.1] ∧ ((Lit.int .i64 s0.1).wf = true ∧ (Lit.int .i64 s0.2.1).wf = true ∧ (Lit.int .i64 s0.2.2.1).wf = true) ∧ RdO w s0.2.2.2.1 s0.2.2.2.2) (_bi : In64 k0) (_bo : In64 o) (bx : In64 x) (bw : In64 wt) :
    Calls Tryz.prog 11 #[v0, .int .i64 k0, .agg #[.int .i64 o, .int .i64 x, .int .i64 wt]] w fun e w' => e = .returned (.bool true) ∧ Below w.heap.size w w' := by
  obtain ⟨rfl, -, r0⟩ := h0
  exact rct_walk _ _ _ _ _ k0 o x wt w r0 bx bw
end Go.Proofs.YtnakieopnobjmaaGreat
