/- The walk of RecastStands. -/
import Derived.Test.YtnakieopnobjmaaGreatRcSt
import Derived.Test.YtnakieopnobjmaaGreatRc5
namespace Go.Proofs.YtnakieopnobjmaaGreat
open Go.RowKit Nl

set_option maxRecDepth 100000 in
set_option maxHeartbeats 8000000 in
theorem rst_walk (l k kind : Int) (v : Value) (os : List Op3) (a0 a1 a2 : Int) (w : World) (bk : In64 k) (ho : RdO w v os) (bi : In64 a2) :
    Calls Tryz.prog 5 #[.agg #[.int .i64 l, .int .i64 k, .int .i64 kind, v], .agg #[.int .i64 a0, .int .i64 a1, .int .i64 a2]] w fun e w' => e = .returned (.bool true) ∧ Below w.heap.size w w' := by
  have A := hid (fun W : World => al15 W)
  obtain ⟨p, cap, rfl, hlen, -⟩ := id ho
  have MA := hid (fun (h3 : os.length ≤ 1000) (W : World) (h : RdO W (.slice p os.length cap) os) => d_made_any l k kind _ os W bk h h3)
  have X1 := (Blk.new w #[.int .i64 l, .int .i64 k, .int .i64 kind, .slice p os.length cap] 26).alloc (.cells #[.int .i64 a0, .int .i64 a1, .int .i64 a2] 46)
  have Q1 := Blk.new (w.alloc (.cells #[.int .i64 l, .int .i64 k, .int .i64 kind, .slice p os.length cap] 26)) #[.int .i64 a0, .int .i64 a1, .int .i64 a2] 46
  rw [World.size_alloc] at Q1
  have hbw1 : Below w.heap.size w ((w.alloc (.cells #[.int .i64 l, .int .i64 k, .int .i64 kind, .slice p os.length cap] 26)).alloc (.cells #[.int .i64 a0, .int .i64 a1, .int .i64 a2] 46)) := ((Below.refl _ _).alloc (Nat.le_refl _) _).alloc (by simp) _
  have hs1 : ((w.alloc (.cells #[.int .i64 l, .int .i64 k, .int .i64 kind, .slice p os.length cap] 26)).alloc (.cells #[.int .i64 a0, .int .i64 a1, .int .i64 a2] 46)).heap.size = w.heap.size + 2 := by simp
  have ho1 := ho.below hbw1 (Nat.le_refl _)
  clear ho
  go_enter Tryz.func5, Tryz.ntmps5
  go_upto_region 1 with fail
  generalize ((w.alloc (.cells #[.int .i64 l, .int .i64 k, .int .i64 kind, .slice p os.length cap] 26)).alloc (.cells #[.int .i64 a0, .int .i64 a1, .int .i64 a2] 46)) = w1 at *
  have x0 := X1.cell 0
  have x1 := X1.cell 1
  have x2 := X1.cell 2
  have x3 := X1.cell 3
  have q0 := Q1.cell 0
  go_cut [35] (fun sv wx => ∃ c, sv = .bool c ∧ (c = false → os.length ≤ 100 ∧ a0 ≤ 48) ∧ w1 = wx)
  case first =>
    rcases (show (kind == 1) = true ∨ (kind == 1) = false by cases kind == 1 <;> simp) with q | q
    all_goals
      go_wp2_with fail
      all_goals
        go_meet
        refine ⟨_, rfl, fun hc => ?_, rfl⟩
        first
          | (cases hc; done)
          | (simp only [Bool.or_eq_false_iff, decide_eq_false_iff_not] at hc; omega)
  case rest =>
    obtain ⟨c, rfl, hc, rfl⟩ := hcut
    clear x0 x1 x2 x3 q0
    cases c
    case true =>
      clear hc
      go_wp2_with fail
      refine (A.out _).mono ?_
      rintro e wz ⟨rfl, hbz⟩
      go_wp2_with fail
      go_ret
      exact ⟨rfl, hbw1.trans (hbz.mono hbw1.size)⟩
    case false =>
      obtain ⟨h100, ha48⟩ := hc rfl
      clear hc
      have x0 := X1.cell 0
      have x1 := X1.cell 1
      have x2 := X1.cell 2
      have x3 := X1.cell 3
      go_wp2_with fail
      refine (MA.out (by omega) _ ho1).mono ?_
      rintro e w2 (⟨rfl, hq2⟩ | ⟨dg, q, g, h, vb, zs, its, rfl, d2, rb, -, mi, hzl, hil, -, hq2⟩)
      · have hbw2 := hbw1.trans (hq2.mono hbw1.size)
        have hq3 : Below w2.heap.size w2 (w2.alloc (.cells #[.int .i64 0, .slice none 0 0] 49)) := (Below.refl _ _).alloc (Nat.le_refl _) _
        have hbw3 := hbw2.trans (hq3.mono hbw2.size)
        clear x0 x1 x2 x3
        go_wp2_with fail
        refine (A.out _).mono ?_
        rintro e wz ⟨rfl, hbz⟩
        go_wp2_with fail
        go_ret
        exact ⟨rfl, hbw3.trans (hbz.mono hbw3.size)⟩
      obtain ⟨pb, cb, rfl⟩ := rb.val
      have r2 := rb
      have hs2 := hq2.size
      have Q2 := Q1.below hq2 (Nat.le_refl _)
      have hbw2 := hbw1.trans (hq2.mono hbw1.size)
      clear X1 ho1 hbw1 hq2 rb x0 x1 x2 x3 Q1
      have x0 : World.cell? _ ⟨w.heap.size + 1, 0, none⟩ = _ := (Q2.alloc (.cells #[.int .i64 l, .slice pb its.length cb] 49)).cell 0
      have i2 := mi.dg
      have l1 := i2.roll.l1
      have l2 := i2.roll.l2
      have MI := hid mi
      clear MA mi
      have hb3 : Below w2.heap.size w2 (w2.alloc (.cells #[.int .i64 l, .slice pb its.length cb] 49)) := (Below.refl _ _).alloc (Nat.le_refl _) _
      have B3 := Blk.new w2 #[.int .i64 l, .slice pb its.length cb] 49
      have hs3 : (w2.alloc (.cells #[.int .i64 l, .slice pb its.length cb] 49)).heap.size = w2.heap.size + 1 := by simp
      have Q3 := Q2.below hb3 (Nat.le_refl _)
      have d3 := d2.below hb3 (Nat.le_refl _)
      have r3 := r2.below hb3 (Nat.le_refl _)
      have hbw3 := hbw2.trans (hb3.mono hbw2.size)
      clear Q2 d2 r2 hbw2
      go_wp2_with fail
      generalize (w2.alloc (.cells #[.int .i64 l, .slice pb its.length cb] 49)) = w3 at *
      clear x0
      cases hk : growB kind l a0
      case false =>
        have GA := hid (fun W (y : DgV W dg q g h kind l k 2000 zs) => rc_grow_no a0 y hk)
        clear hk
        refine (GA.out _ d3).mono ?_
        rintro e w4 ⟨rfl, hb4⟩
        have hs4 := hb4.size
        have Q4 := Q3.below hb4 (Nat.le_refl _)
        have d4 := d3.below hb4 (Nat.le_refl _)
        have r4 := r3.below hb4 (Nat.le_refl _)
        have B4 := B3.below hb4 (Nat.le_refl _)
        have hbw4 := hbw3.trans (hb4.mono hbw3.size)
        clear Q3 d3 r3 B3 hbw3
        by_cases hk2 : 0 ≤ a1 ∧ a1 < l
        · obtain ⟨hk2, hk3⟩ := hk2
          have CA := hid (fun W (y : DgV W dg q g h kind l k 2000 zs) => rc_coar a1 y (by decide) (by omega) hk2 hk3)
          obtain ⟨-, u1, u2, u3, -⟩ := coar_spec i2 (show 1 ≤ l - a1 by omega) (show l - a1 ≤ l by omega)
          have IM := hid (fun W (y : RdN W (.slice pb its.length cb) its) => b_image a1 y (by omega) MI.out.bag hk2 hk3 l2)
          have et : (l - (l - a1)).toNat = a1.toNat := by omega
          have IA := img_all MI.out.bag (show 1 ≤ l - a1 by omega) (show l - a1 ≤ l by omega) its.length (Nat.le_refl _)
          rw [et, List.take_length] at IA
          obtain ⟨w1i, w2i, w3i, w4i⟩ := IA
          have STC := fun (hr : rightB (l - a1) a2 = true) => coar_stands i2 MI.out.bag MI.out.st (show 1 ≤ l - a1 by omega) (show l - a1 ≤ l by omega) (its' := imgL a1.toNat its) (fun g hg => by rw [et]; exact w4i g hg) hr
          have SN := hid (fun W dm qm gm hm (y : DgV W dm qm gm hm kind (l - a1) k 2000 (coarL (l - a1) zs)) (y2 : DgV W dg q g h kind l k 2000 zs) v' (y3 : RdN W v' (imgL a1.toNat its)) => rc_stands a2 y y2 (by decide) w1i y3 bi u3 (by rw [w2i, u3]; exact MI.out.sum) u2 (by omega) (by omega) STC)
          clear w1i w2i w3i w4i STC et
          have x0 := Q4.cell 1
          go_wp2_with fail
          refine (CA.out _ d4).mono ?_
          rintro e w5 ⟨dc, qc, gc, hc, rfl, c5, -, -, -, -, hb5⟩
          have hs5 := hb5.size
          have Q5 := Q4.below hb5 (Nat.le_refl _)
          have d5 := d4.below hb5 (Nat.le_refl _)
          have r5 := r4.below hb5 (Nat.le_refl _)
          have B5 := B4.below hb5 (Nat.le_refl _)
          have hbw5 := hbw4.trans (hb5.mono hbw4.size)
          clear x0
          clear Q4 d4 r4 B4 hbw4
          have b0 := B5.cell 0
          have b1 := B5.cell 1
          have x0 := Q5.cell 1
          go_wp2_with fail
          refine (IM.out _ r5).mono ?_
          rintro e w6 ⟨vi, rfl, t6, hb6⟩
          have hs6 := hb6.size
          have Q6 := Q5.below hb6 (Nat.le_refl _)
          have d6 := d5.below hb6 (Nat.le_refl _)
          have r6 := r5.below hb6 (Nat.le_refl _)
          have B6 := B5.below hb6 (Nat.le_refl _)
          have c6 := c5.below hb6 (Nat.le_refl _)
          have hbw6 := hbw5.trans (hb6.mono hbw5.size)
          clear b0 b1 x0
          clear Q5 d5 r5 B5 c5 hbw5
          obtain ⟨pi, ci, rfl⟩ := t6.val
          generalize imgL a1.toNat its = IT at *
          have x2 : World.cell? _ ⟨w.heap.size + 1, 2, none⟩ = _ := (Q6.alloc (.cells #[.int .i64 (l - a1), .slice pi IT.length ci] 49)).cell 2
          have hb7 : Below w6.heap.size w6 (w6.alloc (.cells #[.int .i64 (l - a1), .slice pi IT.length ci] 49)) := (Below.refl _ _).alloc (Nat.le_refl _) _
          have V7 := Blk.new w6 #[.int .i64 (l - a1), .slice pi IT.length ci] 49
          have hs7 : (w6.alloc (.cells #[.int .i64 (l - a1), .slice pi IT.length ci] 49)).heap.size = w6.heap.size + 1 := by simp
          have Q7 := Q6.below hb7 (Nat.le_refl _)
          have d7 := d6.below hb7 (Nat.le_refl _)
          have r7 := r6.below hb7 (Nat.le_refl _)
          have B7 := B6.below hb7 (Nat.le_refl _)
          have c7 := c6.below hb7 (Nat.le_refl _)
          have t7 := t6.below hb7 (Nat.le_refl _)
          have hbw7 := hbw6.trans (hb7.mono hbw6.size)
          clear Q6 d6 r6 B6 c6 t6 hbw6
          go_wp2_with fail
          generalize (w6.alloc (.cells #[.int .i64 (l - a1), .slice pi IT.length ci] 49)) = w7 at *
          clear x2
          refine (SN.out _ _ _ _ _ c7 d7 _ t7).mono ?_
          rintro e w8 ⟨rfl, hb8⟩
          have hs8 := hb8.size
          have Q8 := Q7.below hb8 (Nat.le_refl _)
          have d8 := d7.below hb8 (Nat.le_refl _)
          have r8 := r7.below hb8 (Nat.le_refl _)
          have B8 := B7.below hb8 (Nat.le_refl _)
          have c8 := c7.below hb8 (Nat.le_refl _)
          have t8 := t7.below hb8 (Nat.le_refl _)
          have V8 := V7.below hb8 (Nat.le_refl _)
          have hbw8 := hbw7.trans (hb8.mono hbw7.size)
          clear Q7 d7 r7 B7 c7 t7 V7 hbw7
          go_wp2_with fail
          refine (A.out _).mono ?_
          rintro e wz ⟨rfl, hbz⟩
          go_wp2_with fail
          go_ret
          exact ⟨rfl, hbw8.trans (hbz.mono hbw8.size)⟩
        · have CA := hid (fun W (y : DgV W dg q g h kind l k 2000 zs) => rc_coar_no a1 y (by omega))
          have x0 := Q4.cell 1
          go_wp2_with fail
          refine (CA.out _ d4).mono ?_
          rintro e w5 ⟨rfl, hb5⟩
          have hs5 := hb5.size
          have Q5 := Q4.below hb5 (Nat.le_refl _)
          have d5 := d4.below hb5 (Nat.le_refl _)
          have r5 := r4.below hb5 (Nat.le_refl _)
          have B5 := B4.below hb5 (Nat.le_refl _)
          have hbw5 := hbw4.trans (hb5.mono hbw4.size)
          clear x0
          clear Q4 d4 r4 B4 hbw4
          go_wp2_with fail
          refine (A.out _).mono ?_
          rintro e wz ⟨rfl, hbz⟩
          go_wp2_with fail
          go_ret
          exact ⟨rfl, hbw5.trans (hbz.mono hbw5.size)⟩
      case true =>
        have hll : l ≤ a0 := by
          simp only [growB, Bool.and_eq_true, decide_eq_true_eq] at hk
          exact hk.1
        obtain ⟨n, en⟩ := Int.eq_ofNat_of_zero_le (show 0 ≤ a0 - l by omega)
        have ea : a0 = l + (n : Int) := by omega
        have GA0 := fun W (y : DgV W dg q g h kind l k 2000 zs) => rc_grow a0 y (by decide) (by omega) hk
        rw [en] at GA0
        have GA := hid GA0
        obtain ⟨-, v1, v2, v3, -⟩ := grow_spec i2 (by_ := (n : Int)) (by omega) (by omega)
        have WD := hid (fun W : World => b_wider (w := W) (p := pb) (n := its.length) (c := cb) a0 hll ha48)
        have STG := fun (hr : rightB a0 a2 = true) => grow_stands (by_ := n) i2 MI.out.bag MI.out.sum MI.out.st (by omega) (id := a2) (by rw [← ea]; exact hr)
        rw [← ea] at STG
        have SG := hid (fun W dm qm gm hm (y : DgV W dm qm gm hm kind a0 k 2000 (growL (n : Int) zs)) (y2 : DgV W dg q g h kind l k 2000 zs) (y3 : RdN W (.slice pb its.length cb) its) => rc_stands a2 y y2 (by decide) (MI.out.bag.wider hll ha48) y3 bi v3 (by rw [v3]; exact MI.out.sum) v2 (by omega) (by omega) STG)
        clear GA0 hk STG en ea
        refine (GA.out _ d3).mono ?_
        rintro e w4 ⟨dm, qm, gm, hm, rfl, m4, -, -, -, -, hb4⟩
        have hs4 := hb4.size
        have Q4 := Q3.below hb4 (Nat.le_refl _)
        have d4 := d3.below hb4 (Nat.le_refl _)
        have r4 := r3.below hb4 (Nat.le_refl _)
        have B4 := B3.below hb4 (Nat.le_refl _)
        have hbw4 := hbw3.trans (hb4.mono hbw3.size)
        clear Q3 d3 r3 B3 hbw3
        have b0 := B4.cell 0
        have b1 := B4.cell 1
        have x0 := Q4.cell 0
        go_wp2_with fail
        refine (WD.out _).mono ?_
        rintro e w5 ⟨rfl, hb5⟩
        have hs5 := hb5.size
        have Q5 := Q4.below hb5 (Nat.le_refl _)
        have d5 := d4.below hb5 (Nat.le_refl _)
        have r5 := r4.below hb5 (Nat.le_refl _)
        have B5 := B4.below hb5 (Nat.le_refl _)
        have m5 := m4.below hb5 (Nat.le_refl _)
        have hbw5 := hbw4.trans (hb5.mono hbw4.size)
        clear b0 b1 x0
        clear Q4 d4 r4 B4 m4 hbw4
        have x2 : World.cell? _ ⟨w.heap.size + 1, 2, none⟩ = _ := (Q5.alloc (.cells #[.int .i64 a0, .slice pb its.length cb] 49)).cell 2
        have hb6 : Below w5.heap.size w5 (w5.alloc (.cells #[.int .i64 a0, .slice pb its.length cb] 49)) := (Below.refl _ _).alloc (Nat.le_refl _) _
        have hs6 : (w5.alloc (.cells #[.int .i64 a0, .slice pb its.length cb] 49)).heap.size = w5.heap.size + 1 := by simp
        have Q6 := Q5.below hb6 (Nat.le_refl _)
        have d6 := d5.below hb6 (Nat.le_refl _)
        have r6 := r5.below hb6 (Nat.le_refl _)
        have B6 := B5.below hb6 (Nat.le_refl _)
        have m6 := m5.below hb6 (Nat.le_refl _)
        have hbw6 := hbw5.trans (hb6.mono hbw5.size)
        clear Q5 d5 r5 B5 m5 hbw5
        go_wp2_with fail
        generalize (w5.alloc (.cells #[.int .i64 a0, .slice pb its.length cb] 49)) = w6 at *
        clear x2
        refine (SG.out _ _ _ _ _ m6 d6 r6).mono ?_
        rintro e w7 ⟨rfl, hb7⟩
        clear m6
        have hs7 := hb7.size
        have Q7 := Q6.below hb7 (Nat.le_refl _)
        have d7 := d6.below hb7 (Nat.le_refl _)
        have r7 := r6.below hb7 (Nat.le_refl _)
        have B7 := B6.below hb7 (Nat.le_refl _)
        have hbw7 := hbw6.trans (hb7.mono hbw6.size)
        clear Q6 d6 r6 B6 hbw6
        clear SG WD GA v1 v2 v3
        by_cases hk2 : 0 ≤ a1 ∧ a1 < l
        · obtain ⟨hk2, hk3⟩ := hk2
          have CA := hid (fun W (y : DgV W dg q g h kind l k 2000 zs) => rc_coar a1 y (by decide) (by omega) hk2 hk3)
          obtain ⟨-, u1, u2, u3, -⟩ := coar_spec i2 (show 1 ≤ l - a1 by omega) (show l - a1 ≤ l by omega)
          have IM := hid (fun W (y : RdN W (.slice pb its.length cb) its) => b_image a1 y (by omega) MI.out.bag hk2 hk3 l2)
          have et : (l - (l - a1)).toNat = a1.toNat := by omega
          have IA := img_all MI.out.bag (show 1 ≤ l - a1 by omega) (show l - a1 ≤ l by omega) its.length (Nat.le_refl _)
          rw [et, List.take_length] at IA
          obtain ⟨w1i, w2i, w3i, w4i⟩ := IA
          have STC := fun (hr : rightB (l - a1) a2 = true) => coar_stands i2 MI.out.bag MI.out.st (show 1 ≤ l - a1 by omega) (show l - a1 ≤ l by omega) (its' := imgL a1.toNat its) (fun g hg => by rw [et]; exact w4i g hg) hr
          have SN := hid (fun W dm qm gm hm (y : DgV W dm qm gm hm kind (l - a1) k 2000 (coarL (l - a1) zs)) (y2 : DgV W dg q g h kind l k 2000 zs) v' (y3 : RdN W v' (imgL a1.toNat its)) => rc_stands a2 y y2 (by decide) w1i y3 bi u3 (by rw [w2i, u3]; exact MI.out.sum) u2 (by omega) (by omega) STC)
          clear w1i w2i w3i w4i STC et
          have x0 := Q7.cell 1
          go_wp2_with fail
          refine (CA.out _ d7).mono ?_
          rintro e w8 ⟨dc, qc, gc, hc, rfl, c8, -, -, -, -, hb8⟩
          have hs8 := hb8.size
          have Q8 := Q7.below hb8 (Nat.le_refl _)
          have d8 := d7.below hb8 (Nat.le_refl _)
          have r8 := r7.below hb8 (Nat.le_refl _)
          have B8 := B7.below hb8 (Nat.le_refl _)
          have hbw8 := hbw7.trans (hb8.mono hbw7.size)
          clear x0
          clear Q7 d7 r7 B7 hbw7
          have b0 := B8.cell 0
          have b1 := B8.cell 1
          have x0 := Q8.cell 1
          go_wp2_with fail
          refine (IM.out _ r8).mono ?_
          rintro e w9 ⟨vi, rfl, t9, hb9⟩
          have hs9 := hb9.size
          have Q9 := Q8.below hb9 (Nat.le_refl _)
          have d9 := d8.below hb9 (Nat.le_refl _)
          have r9 := r8.below hb9 (Nat.le_refl _)
          have B9 := B8.below hb9 (Nat.le_refl _)
          have c9 := c8.below hb9 (Nat.le_refl _)
          have hbw9 := hbw8.trans (hb9.mono hbw8.size)
          clear b0 b1 x0
          clear Q8 d8 r8 B8 c8 hbw8
          obtain ⟨pi, ci, rfl⟩ := t9.val
          generalize imgL a1.toNat its = IT at *
          have x2 : World.cell? _ ⟨w.heap.size + 1, 2, none⟩ = _ := (Q9.alloc (.cells #[.int .i64 (l - a1), .slice pi IT.length ci] 49)).cell 2
          have hb10 : Below w9.heap.size w9 (w9.alloc (.cells #[.int .i64 (l - a1), .slice pi IT.length ci] 49)) := (Below.refl _ _).alloc (Nat.le_refl _) _
          have V10 := Blk.new w9 #[.int .i64 (l - a1), .slice pi IT.length ci] 49
          have hs10 : (w9.alloc (.cells #[.int .i64 (l - a1), .slice pi IT.length ci] 49)).heap.size = w9.heap.size + 1 := by simp
          have Q10 := Q9.below hb10 (Nat.le_refl _)
          have d10 := d9.below hb10 (Nat.le_refl _)
          have r10 := r9.below hb10 (Nat.le_refl _)
          have B10 := B9.below hb10 (Nat.le_refl _)
          have c10 := c9.below hb10 (Nat.le_refl _)
          have t10 := t9.below hb10 (Nat.le_refl _)
          have hbw10 := hbw9.trans (hb10.mono hbw9.size)
          clear Q9 d9 r9 B9 c9 t9 hbw9
          go_wp2_with fail
          generalize (w9.alloc (.cells #[.int .i64 (l - a1), .slice pi IT.length ci] 49)) = w10 at *
          clear x2
          refine (SN.out _ _ _ _ _ c10 d10 _ t10).mono ?_
          rintro e w11 ⟨rfl, hb11⟩
          have hs11 := hb11.size
          have Q11 := Q10.below hb11 (Nat.le_refl _)
          have d11 := d10.below hb11 (Nat.le_refl _)
          have r11 := r10.below hb11 (Nat.le_refl _)
          have B11 := B10.below hb11 (Nat.le_refl _)
          have c11 := c10.below hb11 (Nat.le_refl _)
          have t11 := t10.below hb11 (Nat.le_refl _)
          have V11 := V10.below hb11 (Nat.le_refl _)
          have hbw11 := hbw10.trans (hb11.mono hbw10.size)
          clear Q10 d10 r10 B10 c10 t10 V10 hbw10
          go_wp2_with fail
          refine (A.out _).mono ?_
          rintro e wz ⟨rfl, hbz⟩
          go_wp2_with fail
          go_ret
          exact ⟨rfl, hbw11.trans (hbz.mono hbw11.size)⟩
        · have CA := hid (fun W (y : DgV W dg q g h kind l k 2000 zs) => rc_coar_no a1 y (by omega))
          have x0 := Q7.cell 1
          go_wp2_with fail
          refine (CA.out _ d7).mono ?_
          rintro e w8 ⟨rfl, hb8⟩
          have hs8 := hb8.size
          have Q8 := Q7.below hb8 (Nat.le_refl _)
          have d8 := d7.below hb8 (Nat.le_refl _)
          have r8 := r7.below hb8 (Nat.le_refl _)
          have B8 := B7.below hb8 (Nat.le_refl _)
          have hbw8 := hbw7.trans (hb8.mono hbw7.size)
          clear x0
          clear Q7 d7 r7 B7 hbw7
          go_wp2_with fail
          refine (A.out _).mono ?_
          rintro e wz ⟨rfl, hbz⟩
          go_wp2_with fail
          go_ret
          exact ⟨rfl, hbw8.trans (hbz.mono hbw8.size)⟩

theorem RecastStands_walk (v0 : Value) (s0 : Int × Int × Int × Value × List Op3) (a0 a1 a2 : Int) (w : World)
    (h0 : v0 = .agg #[.int .i64 s0.1, .int .i64 s0.2.1, .int .i64 s0.2.2.1, s0.2.2.2.1] ∧ ((Lit.int .i64 s0.1).wf = true ∧ (Lit.int .i64 s0.2.1).wf = true ∧ (Lit.int .i64 s0.2.2.1).wf = true) ∧ RdO w s0.2.2.2.1 s0.2.2.2.2)
    (_p0 : -9223372036854775808 ≤ a0) (_q0 : a0 ≤ 9223372036854775807) (_p1 : -9223372036854775808 ≤ a1) (_q1 : a1 ≤ 9223372036854775807) (p2 : -9223372036854775808 ≤ a2) (q2 : a2 ≤ 9223372036854775807) :
    Calls Tryz.prog 5 #[v0, .agg #[.int .i64 a0, .int .i64 a1, .int .i64 a2]] w fun e w' => e = .returned (.bool true) ∧ Below w.heap.size w w' := by
  obtain ⟨rfl, ⟨-, c1, -⟩, r0⟩ := h0
  exact rst_walk _ _ _ _ _ a0 a1 a2 w (bd_i64 _ c1) r0 ⟨p2, q2⟩
end Go.Proofs.YtnakieopnobjmaaGreat
