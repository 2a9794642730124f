/- The walk of RecastSteps. -/
import Derived.Test.YtnakieopnobjmaaGreatRc5
import Derived.Test.YtnakieopnobjmaaGreatRC
import Derived.Test.YtnakieopnobjmaaGreatMdAny
import Derived.Test.YtnakieopnobjmaaGreatDg7
import Derived.Deep.CutBlock
namespace Go.Proofs.YtnakieopnobjmaaGreat
open Go.RowKit Nl

theorem Nl.growB_two {kind l a b : Int} (ha : 0 ≤ a) (hb : 0 ≤ b) : growB kind (l + a) (l + a + b) = growB kind l (l + a + b) := by
  unfold growB
  rw [decide_eq_true (p := l + a ≤ l + a + b) (by omega), decide_eq_true (p := l ≤ l + a + b) (by omega)]

set_option maxRecDepth 100000 in
set_option maxHeartbeats 8000000 in
theorem rcs_walk (l k kind : Int) (v : Value) (os : List Op3) (a b : Int) (w : World) (bk : In64 k) (ho : RdO w v os) :
    Calls Tryz.prog 9 #[.agg #[.int .i64 l, .int .i64 k, .int .i64 kind, v], .int .i64 a, .int .i64 b] w fun e w' => e = .returned (.bool true) ∧ Below w.heap.size w w' := by
  have A := hid (fun W : World => al15 W)
  obtain ⟨p, cap, rfl, hlen, -⟩ := id ho
  have MA := hid (fun (h3 : os.length ≤ 1000) (W : World) (h : RdO W (.slice p os.length cap) os) => d_made_any l k kind _ os W bk h h3)
  have X1 := Blk.new w #[.int .i64 l, .int .i64 k, .int .i64 kind, .slice p os.length cap] 26
  have hbw1 : Below w.heap.size w (w.alloc (.cells #[.int .i64 l, .int .i64 k, .int .i64 kind, .slice p os.length cap] 26)) := (Below.refl _ _).alloc (Nat.le_refl _) _
  have hs1 : (w.alloc (.cells #[.int .i64 l, .int .i64 k, .int .i64 kind, .slice p os.length cap] 26)).heap.size = w.heap.size + 1 := by simp
  have ho1 := ho.below hbw1 (Nat.le_refl _)
  clear ho
  go_enter Tryz.func9, Tryz.ntmps9
  go_upto_region 1 with fail
  generalize (w.alloc (.cells #[.int .i64 l, .int .i64 k, .int .i64 kind, .slice p os.length cap] 26)) = w1 at *
  have x0 := X1.cell 0
  have x1 := X1.cell 1
  have x2 := X1.cell 2
  have x3 := X1.cell 3
  go_cut [53] (fun sv wx => ∃ c, sv = .bool c ∧ (c = false → os.length ≤ 100 ∧ 0 ≤ a ∧ a ≤ 48 ∧ 0 ≤ b ∧ b ≤ 48) ∧ w1 = wx)
  case first =>
    rcases (show (kind == 1) = true ∨ (kind == 1) = false by cases kind == 1 <;> simp) with q | q
    all_goals
      go_wp2_with fail
      all_goals
        go_meet
        refine ⟨_, rfl, fun hc => ?_, rfl⟩
        first
          | (cases hc; done)
          | (simp only [Bool.or_eq_false_iff, decide_eq_false_iff_not] at hc; omega)
  case rest =>
    obtain ⟨c, rfl, hc, rfl⟩ := hcut
    clear x0 x1 x2 x3
    cases c
    case true =>
      clear hc
      go_wp2_with fail
      refine (A.out _).mono ?_
      rintro e wz ⟨rfl, hbz⟩
      go_wp2_with fail
      go_ret
      exact ⟨rfl, hbw1.trans (hbz.mono hbw1.size)⟩
    case false =>
      obtain ⟨h100, ha1, ha2, hb1, hb2⟩ := hc rfl
      clear hc
      have x0 := X1.cell 0
      have x1 := X1.cell 1
      have x2 := X1.cell 2
      have x3 := X1.cell 3
      go_wp2_with fail
      refine (MA.out (by omega) _ ho1).mono ?_
      rintro e w2 (⟨rfl, hq2⟩ | ⟨dg, q, g, h, vb, zs, its, rfl, d2, rb, -, mi, hzl, hil, -, hq2⟩)
      · have hbw2 := hbw1.trans (hq2.mono hbw1.size)
        have hq3 : Below w2.heap.size w2 (w2.alloc (.cells #[.int .i64 0, .slice none 0 0] 49)) := (Below.refl _ _).alloc (Nat.le_refl _) _
        have hbw3 := hbw2.trans (hq3.mono hbw2.size)
        clear x0 x1 x2 x3
        go_wp2_with fail
        refine (A.out _).mono ?_
        rintro e wz ⟨rfl, hbz⟩
        go_wp2_with fail
        go_ret
        exact ⟨rfl, hbw3.trans (hbz.mono hbw3.size)⟩
      obtain ⟨pb, cb, rfl⟩ := rb.val
      have hs2 := hq2.size
      have X2 := X1.below hq2 (Nat.le_refl _)
      have hbw2 := hbw1.trans (hq2.mono hbw1.size)
      clear X1 ho1 hbw1 hq2 rb x0 x1 x2 x3
      have x0 : World.cell? _ ⟨w.heap.size, 0, none⟩ = _ := (X2.alloc (.cells #[.int .i64 l, .slice pb its.length cb] 49)).cell 0
      have i2 := mi.dg
      have l1 := i2.roll.l1
      have l2 := i2.roll.l2
      have hp := d2.pool.is
      have w1a : IntKind.i64.wrap (l + a) = l + a := IntWalk.i64_in _ ⟨by omega, by omega⟩
      have w2a : IntKind.i64.wrap (l + a + b) = l + a + b := IntWalk.i64_in _ ⟨by omega, by omega⟩
      have w3a : IntKind.i64.wrap (a + b) = a + b := IntWalk.i64_in _ ⟨by omega, by omega⟩
      have w1b : wrap64 (l + a) = l + a := IntWalk.wrap64_in _ ⟨by omega, by omega⟩
      have w2b : wrap64 (l + a + b) = l + a + b := IntWalk.wrap64_in _ ⟨by omega, by omega⟩
      have w3b : wrap64 (a + b) = a + b := IntWalk.wrap64_in _ ⟨by omega, by omega⟩
      clear MA mi
      have hb3 : Below w2.heap.size w2 (w2.alloc (.cells #[.int .i64 l, .slice pb its.length cb] 49)) := (Below.refl _ _).alloc (Nat.le_refl _) _
      have hs3 : (w2.alloc (.cells #[.int .i64 l, .slice pb its.length cb] 49)).heap.size = w2.heap.size + 1 := by simp
      have d3 := d2.below hb3 (Nat.le_refl _)
      have hbw3 := hbw2.trans (hb3.mono hbw2.size)
      clear X2 d2 hbw2
      go_wp2_with fail
      generalize (w2.alloc (.cells #[.int .i64 l, .slice pb its.length cb] 49)) = w3 at *
      clear x0
      cases hk : growB kind l (l + a)
      case false =>
        have GA := hid (fun W (y : DgV W dg q g h kind l k 2000 zs) => rc_grow_no (l + a) y hk)
        clear hk
        refine (GA.out _ d3).mono ?_
        rintro e w4 ⟨rfl, hb4⟩
        have hs4 := hb4.size
        have d4 := d3.below hb4 (Nat.le_refl _)
        have hbw4 := hbw3.trans (hb4.mono hbw3.size)
        clear d3 hbw3
        by_cases hk2 : a < l
        · have CA := hid (fun W (y : DgV W dg q g h kind l k 2000 zs) => rc_coar a y (by decide) (by omega) ha1 hk2)
          obtain ⟨-, u1, u2, -, -⟩ := coar_spec i2 (show 1 ≤ l - a by omega) (show l - a ≤ l by omega)
          go_wp2_with fail
          refine (CA.out _ d4).mono ?_
          rintro e w5 ⟨dc, qc, gc, hc, rfl, c5, -, -, -, -, hb5⟩
          have hs5 := hb5.size
          have d5 := d4.below hb5 (Nat.le_refl _)
          have hbw5 := hbw4.trans (hb5.mono hbw4.size)
          clear d4 hbw4
          by_cases hk3 : b < l - a
          · have CB := hid (fun W (y : DgV W dc qc gc hc kind (l - a) k 2000 (coarL (l - a) zs)) => rc_coar b y (by decide) (by omega) hb1 hk3)
            have CC := hid (fun W (y : DgV W dg q g h kind l k 2000 zs) => rc_coar (a + b) y (by decide) (by omega) (by omega) (by omega))
            have E2 : coarL (l - a - b) (coarL (l - a) zs) = coarL (l - (a + b)) zs := by
              rw [coar_two i2 (by omega) (by omega) (by omega)]
              congr 1; omega
            have SM0 := fun W d1 q1 g1 h1 d2 q2 g2 h2 (y : DgV W d1 q1 g1 h1 kind (l - (a + b)) k 2000 (coarL (l - (a + b)) zs)) (z : DgV W d2 q2 g2 h2 kind (l - a - b) k 2000 (coarL (l - a - b) (coarL (l - a) zs))) => dg_same y z (by decide) (by decide)
            rw [E2] at SM0
            rw [show decide (l - (a + b) = l - a - b ∧ coarL (l - (a + b)) zs = coarL (l - (a + b)) zs) = true from decide_eq_true ⟨by omega, rfl⟩] at SM0
            rw [E2] at CB
            have SM := hid SM0
            clear SM0 E2
            go_wp2_with fail
            refine (CB.out _ c5).mono ?_
            rintro e w6 ⟨d1, q1, g1, h1, rfl, t6, -, -, -, -, hb6⟩
            have hs6 := hb6.size
            have d6 := d5.below hb6 (Nat.le_refl _)
            have c6 := c5.below hb6 (Nat.le_refl _)
            have hbw6 := hbw5.trans (hb6.mono hbw5.size)
            clear d5 c5 hbw5
            go_wp2_with fail
            refine (CC.out _ d6).mono ?_
            rintro e w7 ⟨d3, q3, g3, h3, rfl, o7, -, -, -, -, hb7⟩
            have hs7 := hb7.size
            have d7 := d6.below hb7 (Nat.le_refl _)
            have c7 := c6.below hb7 (Nat.le_refl _)
            have t7 := t6.below hb7 (Nat.le_refl _)
            have hbw7 := hbw6.trans (hb7.mono hbw6.size)
            clear d6 c6 t6 hbw6
            go_wp2_with fail
            refine (SM.out _ _ _ _ _ _ _ _ _ o7 t7).mono ?_
            rintro e w8 ⟨rfl, hb8⟩
            have hs8 := hb8.size
            have d8 := d7.below hb8 (Nat.le_refl _)
            have c8 := c7.below hb8 (Nat.le_refl _)
            have t8 := t7.below hb8 (Nat.le_refl _)
            have o8 := o7.below hb8 (Nat.le_refl _)
            have hbw8 := hbw7.trans (hb8.mono hbw7.size)
            clear d7 c7 t7 o7 hbw7
            go_wp2_with fail
            refine (A.out _).mono ?_
            rintro e wz ⟨rfl, hbz⟩
            go_wp2_with fail
            go_ret
            exact ⟨rfl, hbw8.trans (hbz.mono hbw8.size)⟩
          · have CB := hid (fun W (y : DgV W dc qc gc hc kind (l - a) k 2000 (coarL (l - a) zs)) => rc_coar_no b y (by omega))
            have CC := hid (fun W (y : DgV W dg q g h kind l k 2000 zs) => rc_coar_no (a + b) y (by omega))
            go_wp2_with fail
            refine (CB.out _ c5).mono ?_
            rintro e w6 ⟨rfl, hb6⟩
            have hs6 := hb6.size
            have d6 := d5.below hb6 (Nat.le_refl _)
            have c6 := c5.below hb6 (Nat.le_refl _)
            have hbw6 := hbw5.trans (hb6.mono hbw5.size)
            clear d5 c5 hbw5
            go_wp2_with fail
            refine (CC.out _ d6).mono ?_
            rintro e w7 ⟨rfl, hb7⟩
            have hs7 := hb7.size
            have d7 := d6.below hb7 (Nat.le_refl _)
            have c7 := c6.below hb7 (Nat.le_refl _)
            have hbw7 := hbw6.trans (hb7.mono hbw6.size)
            clear d6 c6 hbw6
            go_wp2_with fail
            refine (A.out _).mono ?_
            rintro e wz ⟨rfl, hbz⟩
            go_wp2_with fail
            go_ret
            exact ⟨rfl, hbw7.trans (hbz.mono hbw7.size)⟩
        · have CA := hid (fun W (y : DgV W dg q g h kind l k 2000 zs) => rc_coar_no a y (by omega))
          go_wp2_with fail
          refine (CA.out _ d4).mono ?_
          rintro e w5 ⟨rfl, hb5⟩
          have hs5 := hb5.size
          have d5 := d4.below hb5 (Nat.le_refl _)
          have hbw5 := hbw4.trans (hb5.mono hbw4.size)
          clear d4 hbw4
          go_wp2_with fail
          refine (A.out _).mono ?_
          rintro e wz ⟨rfl, hbz⟩
          go_wp2_with fail
          go_ret
          exact ⟨rfl, hbw5.trans (hbz.mono hbw5.size)⟩
      case true =>
        have hll : l + a ≤ 48 := by
          simp only [growB, Bool.and_eq_true] at hk
          exact (pool_bd hk.2).2
        have GA0 := fun W (y : DgV W dg q g h kind l k 2000 zs) => rc_grow (l + a) y (by decide) (by omega) hk
        rw [show l + a - l = a by omega] at GA0
        have GA := hid GA0
        obtain ⟨-, v1, v2, -, -⟩ := grow_spec i2 ha1 hll
        clear GA0 hk
        refine (GA.out _ d3).mono ?_
        rintro e w4 ⟨dm, qm, gm, hm, rfl, m4, -, -, -, -, hb4⟩
        have hs4 := hb4.size
        have d4 := d3.below hb4 (Nat.le_refl _)
        have hbw4 := hbw3.trans (hb4.mono hbw3.size)
        clear d3 hbw3
        cases hk : growB kind l (l + a + b)
        case false =>
          have hk' : growB kind (l + a) (l + a + b) = false := by rw [growB_two ha1 hb1]; exact hk
          have GB := hid (fun W (y : DgV W dm qm gm hm kind (l + a) k 2000 (growL a zs)) => rc_grow_no (l + a + b) y hk')
          have GC := hid (fun W (y : DgV W dg q g h kind l k 2000 zs) => rc_grow_no (l + a + b) y hk)
          clear hk hk'
          go_wp2_with fail
          refine (GB.out _ m4).mono ?_
          rintro e w5 ⟨rfl, hb5⟩
          clear m4
          have hs5 := hb5.size
          have d5 := d4.below hb5 (Nat.le_refl _)
          have hbw5 := hbw4.trans (hb5.mono hbw4.size)
          clear d4 hbw4
          go_wp2_with fail
          refine (GC.out _ d5).mono ?_
          rintro e w6 ⟨rfl, hb6⟩
          have hs6 := hb6.size
          have d6 := d5.below hb6 (Nat.le_refl _)
          have hbw6 := hbw5.trans (hb6.mono hbw5.size)
          clear d5 hbw5
          by_cases hk2 : a < l
          · have CA := hid (fun W (y : DgV W dg q g h kind l k 2000 zs) => rc_coar a y (by decide) (by omega) ha1 hk2)
            obtain ⟨-, u1, u2, -, -⟩ := coar_spec i2 (show 1 ≤ l - a by omega) (show l - a ≤ l by omega)
            go_wp2_with fail
            refine (CA.out _ d6).mono ?_
            rintro e w7 ⟨dc, qc, gc, hc, rfl, c7, -, -, -, -, hb7⟩
            have hs7 := hb7.size
            have d7 := d6.below hb7 (Nat.le_refl _)
            have hbw7 := hbw6.trans (hb7.mono hbw6.size)
            clear d6 hbw6
            by_cases hk3 : b < l - a
            · have CB := hid (fun W (y : DgV W dc qc gc hc kind (l - a) k 2000 (coarL (l - a) zs)) => rc_coar b y (by decide) (by omega) hb1 hk3)
              have CC := hid (fun W (y : DgV W dg q g h kind l k 2000 zs) => rc_coar (a + b) y (by decide) (by omega) (by omega) (by omega))
              have E2 : coarL (l - a - b) (coarL (l - a) zs) = coarL (l - (a + b)) zs := by
                rw [coar_two i2 (by omega) (by omega) (by omega)]
                congr 1; omega
              have SM0 := fun W d1 q1 g1 h1 d2 q2 g2 h2 (y : DgV W d1 q1 g1 h1 kind (l - (a + b)) k 2000 (coarL (l - (a + b)) zs)) (z : DgV W d2 q2 g2 h2 kind (l - a - b) k 2000 (coarL (l - a - b) (coarL (l - a) zs))) => dg_same y z (by decide) (by decide)
              rw [E2] at SM0
              rw [show decide (l - (a + b) = l - a - b ∧ coarL (l - (a + b)) zs = coarL (l - (a + b)) zs) = true from decide_eq_true ⟨by omega, rfl⟩] at SM0
              rw [E2] at CB
              have SM := hid SM0
              clear SM0 E2
              go_wp2_with fail
              refine (CB.out _ c7).mono ?_
              rintro e w8 ⟨d1, q1, g1, h1, rfl, t8, -, -, -, -, hb8⟩
              have hs8 := hb8.size
              have d8 := d7.below hb8 (Nat.le_refl _)
              have c8 := c7.below hb8 (Nat.le_refl _)
              have hbw8 := hbw7.trans (hb8.mono hbw7.size)
              clear d7 c7 hbw7
              go_wp2_with fail
              refine (CC.out _ d8).mono ?_
              rintro e w9 ⟨d3, q3, g3, h3, rfl, o9, -, -, -, -, hb9⟩
              have hs9 := hb9.size
              have d9 := d8.below hb9 (Nat.le_refl _)
              have c9 := c8.below hb9 (Nat.le_refl _)
              have t9 := t8.below hb9 (Nat.le_refl _)
              have hbw9 := hbw8.trans (hb9.mono hbw8.size)
              clear d8 c8 t8 hbw8
              go_wp2_with fail
              refine (SM.out _ _ _ _ _ _ _ _ _ o9 t9).mono ?_
              rintro e w10 ⟨rfl, hb10⟩
              have hs10 := hb10.size
              have d10 := d9.below hb10 (Nat.le_refl _)
              have c10 := c9.below hb10 (Nat.le_refl _)
              have t10 := t9.below hb10 (Nat.le_refl _)
              have o10 := o9.below hb10 (Nat.le_refl _)
              have hbw10 := hbw9.trans (hb10.mono hbw9.size)
              clear d9 c9 t9 o9 hbw9
              go_wp2_with fail
              refine (A.out _).mono ?_
              rintro e wz ⟨rfl, hbz⟩
              go_wp2_with fail
              go_ret
              exact ⟨rfl, hbw10.trans (hbz.mono hbw10.size)⟩
            · have CB := hid (fun W (y : DgV W dc qc gc hc kind (l - a) k 2000 (coarL (l - a) zs)) => rc_coar_no b y (by omega))
              have CC := hid (fun W (y : DgV W dg q g h kind l k 2000 zs) => rc_coar_no (a + b) y (by omega))
              go_wp2_with fail
              refine (CB.out _ c7).mono ?_
              rintro e w8 ⟨rfl, hb8⟩
              have hs8 := hb8.size
              have d8 := d7.below hb8 (Nat.le_refl _)
              have c8 := c7.below hb8 (Nat.le_refl _)
              have hbw8 := hbw7.trans (hb8.mono hbw7.size)
              clear d7 c7 hbw7
              go_wp2_with fail
              refine (CC.out _ d8).mono ?_
              rintro e w9 ⟨rfl, hb9⟩
              have hs9 := hb9.size
              have d9 := d8.below hb9 (Nat.le_refl _)
              have c9 := c8.below hb9 (Nat.le_refl _)
              have hbw9 := hbw8.trans (hb9.mono hbw8.size)
              clear d8 c8 hbw8
              go_wp2_with fail
              refine (A.out _).mono ?_
              rintro e wz ⟨rfl, hbz⟩
              go_wp2_with fail
              go_ret
              exact ⟨rfl, hbw9.trans (hbz.mono hbw9.size)⟩
          · have CA := hid (fun W (y : DgV W dg q g h kind l k 2000 zs) => rc_coar_no a y (by omega))
            go_wp2_with fail
            refine (CA.out _ d6).mono ?_
            rintro e w7 ⟨rfl, hb7⟩
            have hs7 := hb7.size
            have d7 := d6.below hb7 (Nat.le_refl _)
            have hbw7 := hbw6.trans (hb7.mono hbw6.size)
            clear d6 hbw6
            go_wp2_with fail
            refine (A.out _).mono ?_
            rintro e wz ⟨rfl, hbz⟩
            go_wp2_with fail
            go_ret
            exact ⟨rfl, hbw7.trans (hbz.mono hbw7.size)⟩
        case true =>
          have hk' : growB kind (l + a) (l + a + b) = true := by rw [growB_two ha1 hb1]; exact hk
          have hll2 : l + a + b ≤ 48 := by
            simp only [growB, Bool.and_eq_true] at hk
            exact (pool_bd hk.2).2
          have GB0 := fun W (y : DgV W dm qm gm hm kind (l + a) k 2000 (growL a zs)) => rc_grow (l + a + b) y (by decide) (by omega) hk'
          have GC0 := fun W (y : DgV W dg q g h kind l k 2000 zs) => rc_grow (l + a + b) y (by decide) (by omega) hk
          rw [show l + a + b - (l + a) = b by omega, grow_two i2 ha1 hb1 hll2] at GB0
          rw [show l + a + b - l = a + b by omega] at GC0
          have GB := hid GB0
          have GC := hid GC0
          have SM0 := fun W d1 q1 g1 h1 d2 q2 g2 h2 (y : DgV W d1 q1 g1 h1 kind (l + a + b) k 2000 (growL (a + b) zs)) (z : DgV W d2 q2 g2 h2 kind (l + a + b) k 2000 (growL (a + b) zs)) => dg_same y z (by decide) (by decide)
          simp only [and_self, decide_true] at SM0
          have SM1 := hid SM0
          clear GB0 GC0 SM0 hk hk'
          go_wp2_with fail
          refine (GB.out _ m4).mono ?_
          rintro e w5 ⟨d1, q1, g1, h1, rfl, t5, -, -, -, -, hb5⟩
          clear m4
          have hs5 := hb5.size
          have d5 := d4.below hb5 (Nat.le_refl _)
          have hbw5 := hbw4.trans (hb5.mono hbw4.size)
          clear d4 hbw4
          go_wp2_with fail
          refine (GC.out _ d5).mono ?_
          rintro e w6 ⟨d3, q3, g3, h3, rfl, o6, -, -, -, -, hb6⟩
          have hs6 := hb6.size
          have d6 := d5.below hb6 (Nat.le_refl _)
          have t6 := t5.below hb6 (Nat.le_refl _)
          have hbw6 := hbw5.trans (hb6.mono hbw5.size)
          clear d5 t5 hbw5
          go_wp2_with fail
          refine (SM1.out _ _ _ _ _ _ _ _ _ o6 t6).mono ?_
          rintro e w7 ⟨rfl, hb7⟩
          clear o6 t6
          have hs7 := hb7.size
          have d7 := d6.below hb7 (Nat.le_refl _)
          have hbw7 := hbw6.trans (hb7.mono hbw6.size)
          clear d6 hbw6
          clear GB GC SM1 GA
          by_cases hk2 : a < l
          · have CA := hid (fun W (y : DgV W dg q g h kind l k 2000 zs) => rc_coar a y (by decide) (by omega) ha1 hk2)
            obtain ⟨-, u1, u2, -, -⟩ := coar_spec i2 (show 1 ≤ l - a by omega) (show l - a ≤ l by omega)
            go_wp2_with fail
            refine (CA.out _ d7).mono ?_
            rintro e w8 ⟨dc, qc, gc, hc, rfl, c8, -, -, -, -, hb8⟩
            have hs8 := hb8.size
            have d8 := d7.below hb8 (Nat.le_refl _)
            have hbw8 := hbw7.trans (hb8.mono hbw7.size)
            clear d7 hbw7
            by_cases hk3 : b < l - a
            · have CB := hid (fun W (y : DgV W dc qc gc hc kind (l - a) k 2000 (coarL (l - a) zs)) => rc_coar b y (by decide) (by omega) hb1 hk3)
              have CC := hid (fun W (y : DgV W dg q g h kind l k 2000 zs) => rc_coar (a + b) y (by decide) (by omega) (by omega) (by omega))
              have E2 : coarL (l - a - b) (coarL (l - a) zs) = coarL (l - (a + b)) zs := by
                rw [coar_two i2 (by omega) (by omega) (by omega)]
                congr 1; omega
              have SM0 := fun W d1 q1 g1 h1 d2 q2 g2 h2 (y : DgV W d1 q1 g1 h1 kind (l - (a + b)) k 2000 (coarL (l - (a + b)) zs)) (z : DgV W d2 q2 g2 h2 kind (l - a - b) k 2000 (coarL (l - a - b) (coarL (l - a) zs))) => dg_same y z (by decide) (by decide)
              rw [E2] at SM0
              rw [show decide (l - (a + b) = l - a - b ∧ coarL (l - (a + b)) zs = coarL (l - (a + b)) zs) = true from decide_eq_true ⟨by omega, rfl⟩] at SM0
              rw [E2] at CB
              have SM := hid SM0
              clear SM0 E2
              go_wp2_with fail
              refine (CB.out _ c8).mono ?_
              rintro e w9 ⟨d1, q1, g1, h1, rfl, t9, -, -, -, -, hb9⟩
              have hs9 := hb9.size
              have d9 := d8.below hb9 (Nat.le_refl _)
              have c9 := c8.below hb9 (Nat.le_refl _)
              have hbw9 := hbw8.trans (hb9.mono hbw8.size)
              clear d8 c8 hbw8
              go_wp2_with fail
              refine (CC.out _ d9).mono ?_
              rintro e w10 ⟨d3, q3, g3, h3, rfl, o10, -, -, -, -, hb10⟩
              have hs10 := hb10.size
              have d10 := d9.below hb10 (Nat.le_refl _)
              have c10 := c9.below hb10 (Nat.le_refl _)
              have t10 := t9.below hb10 (Nat.le_refl _)
              have hbw10 := hbw9.trans (hb10.mono hbw9.size)
              clear d9 c9 t9 hbw9
              go_wp2_with fail
              refine (SM.out _ _ _ _ _ _ _ _ _ o10 t10).mono ?_
              rintro e w11 ⟨rfl, hb11⟩
              have hs11 := hb11.size
              have d11 := d10.below hb11 (Nat.le_refl _)
              have c11 := c10.below hb11 (Nat.le_refl _)
              have t11 := t10.below hb11 (Nat.le_refl _)
              have o11 := o10.below hb11 (Nat.le_refl _)
              have hbw11 := hbw10.trans (hb11.mono hbw10.size)
              clear d10 c10 t10 o10 hbw10
              go_wp2_with fail
              refine (A.out _).mono ?_
              rintro e wz ⟨rfl, hbz⟩
              go_wp2_with fail
              go_ret
              exact ⟨rfl, hbw11.trans (hbz.mono hbw11.size)⟩
            · have CB := hid (fun W (y : DgV W dc qc gc hc kind (l - a) k 2000 (coarL (l - a) zs)) => rc_coar_no b y (by omega))
              have CC := hid (fun W (y : DgV W dg q g h kind l k 2000 zs) => rc_coar_no (a + b) y (by omega))
              go_wp2_with fail
              refine (CB.out _ c8).mono ?_
              rintro e w9 ⟨rfl, hb9⟩
              have hs9 := hb9.size
              have d9 := d8.below hb9 (Nat.le_refl _)
              have c9 := c8.below hb9 (Nat.le_refl _)
              have hbw9 := hbw8.trans (hb9.mono hbw8.size)
              clear d8 c8 hbw8
              go_wp2_with fail
              refine (CC.out _ d9).mono ?_
              rintro e w10 ⟨rfl, hb10⟩
              have hs10 := hb10.size
              have d10 := d9.below hb10 (Nat.le_refl _)
              have c10 := c9.below hb10 (Nat.le_refl _)
              have hbw10 := hbw9.trans (hb10.mono hbw9.size)
              clear d9 c9 hbw9
              go_wp2_with fail
              refine (A.out _).mono ?_
              rintro e wz ⟨rfl, hbz⟩
              go_wp2_with fail
              go_ret
              exact ⟨rfl, hbw10.trans (hbz.mono hbw10.size)⟩
          · have CA := hid (fun W (y : DgV W dg q g h kind l k 2000 zs) => rc_coar_no a y (by omega))
            go_wp2_with fail
            refine (CA.out _ d7).mono ?_
            rintro e w8 ⟨rfl, hb8⟩
            have hs8 := hb8.size
            have d8 := d7.below hb8 (Nat.le_refl _)
            have hbw8 := hbw7.trans (hb8.mono hbw7.size)
            clear d7 hbw7
            go_wp2_with fail
            refine (A.out _).mono ?_
            rintro e wz ⟨rfl, hbz⟩
            go_wp2_with fail
            go_ret
            exact ⟨rfl, hbw8.trans (hbz.mono hbw8.size)⟩

theorem RecastSteps_walk (v0 : Value) (s0 : Int × Int × Int × Value × List Op3) (a b : Int) (w : World)
    (h0 : v0 = .agg #[.int .i64 s0.1, .int .i64 s0.2.1, .int .i64 s0.2.2.1, s0.2.2.2.1] ∧ ((Lit.int .i64 s0.1).wf = true ∧ (Lit.int .i64 s0.2.1).wf = true ∧ (Lit.int .i64 s0.2.2.1).wf = true) ∧ RdO w s0.2.2.2.1 s0.2.2.2.2) (_ba : In64 a) (_bb : In64 b) :
    Calls Tryz.prog 9 #[v0, .int .i64 a, .int .i64 b] w fun e w' => e = .returned (.bool true) ∧ Below w.heap.size w w' := by
  obtain ⟨rfl, ⟨-, a1, -⟩, r0⟩ := h0
  exact rcs_walk _ _ _ _ _ a b w (bd_i64 _ a1) r0
end Go.Proofs.YtnakieopnobjmaaGreat
