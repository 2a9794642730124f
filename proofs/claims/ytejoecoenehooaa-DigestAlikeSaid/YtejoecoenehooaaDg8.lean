/- The walk of DigestAlike. -/
import Derived.Test.YtejoecoenehooaaDg7
import Derived.Test.YtejoecoenehooaaOpenDop2
import Derived.Test.YtejoecoenehooaaNotD
import Derived.Deep.CutBlock
import Derived.Deep.LoopGhost
namespace Go.Proofs.Ytejoecoenehooaa
open Go.RowKit Nl

/-- No block of the one is one of the other. -/
def DApart (dg q g h dg' q' g' h' : Nat) : Prop := ∀ j, DB dg q g h j → DB dg' q' g' h' j → False
theorem DApart.symm {dg q g h dg' q' g' h' : Nat} (a : DApart dg q g h dg' q' g' h') : DApart dg' q' g' h' dg q g h := fun j x y => a j y x
theorem DApart.step {dg q g h h5 dg' q' g' h' B : Nat} (a : DApart dg q g h dg' q' g' h') (hh : h5 = h ∨ B ≤ h5) (lt : ∀ j, DB dg' q' g' h' j → j < B) : DApart dg q g h5 dg' q' g' h' := by
  intro j x y
  have := lt j y
  rcases hh with rfl | hh
  · exact a j x y
  · rcases x with x | x | x | x
    · exact a j (.inl x) y
    · exact a j (.inr (.inl x)) y
    · exact a j (.inr (.inr (.inl x))) y
    · omega
/-- What is done to the one is not done to the other. -/
theorem DgV.apartB {w w' : World} {dg q g h dg' q' g' h' m : Nat} {kind l k : Int} {zs : List Nd} (d : DgV w dg q g h kind l k m zs) (c : ChB (DB dg' q' g' h') w w') (a : DApart dg q g h dg' q' g' h') : DgV w' dg q g h kind l k m zs :=
  d.keepB (c.off (fun j x y => a j x y))

/-- The first loop: both have the same. -/
def DA1 (w : World) (v0 v1 : Value) (dg q g dg' q' g' : Nat) (l k : Int) (n gn : Nat) (i : Value) (wr : World) : Prop :=
  ∃ (j h h' : Nat) (zs : List Nd), i = .int .i64 j ∧ j ≤ n ∧ n - j ≤ gn ∧ DgV wr dg q g h 1 l k 2000 zs ∧ DgV wr dg' q' g' h' 2 l k 2000 zs ∧ zs.length ≤ j ∧ DApart dg q g h dg' q' g' h' ∧ w.heap.size < h ∧ w.heap.size < h' ∧ Blk wr w.heap.size #[v0, v1] 93 ∧ Below w.heap.size w wr

/-- The second loop: the clone and the table go on alike; the array, and what its nodes were, stay. -/
def DA2 (w : World) (va : Value) (zs0 : List Nd) (dg q g h dg2 q2 g2 dg' q' g' : Nat) (l k : Int) (n gn : Nat) (i : Value) (wr : World) : Prop :=
  ∃ (j h2 h' : Nat) (zs : List Nd), i = .int .i64 j ∧ j ≤ n ∧ n - j ≤ gn ∧ DgV wr dg q g h 1 l k 2000 zs0 ∧ DgV wr dg2 q2 g2 h2 1 l k 2000 zs ∧ DgV wr dg' q' g' h' 2 l k 2000 zs ∧ zs.length ≤ 100 + j ∧
    DApart dg2 q2 g2 h2 dg' q' g' h' ∧ DApart dg q g h dg2 q2 g2 h2 ∧ DApart dg q g h dg' q' g' h' ∧ w.heap.size < h2 ∧ w.heap.size < h' ∧ RdN wr va zs0 ∧ NotD va zs0 (fun j => DB dg2 q2 g2 h2 j ∨ DB dg' q' g' h' j) ∧ Below w.heap.size w wr

set_option maxRecDepth 100000 in
set_option maxHeartbeats 4000000 in
theorem DigestAlike_walk (l k : Int) (v : Value) (xs : Value × Value × List Op3 × List Op3) (w : World) (_bl : In64 l) (bk : In64 k) (hxs : v = .agg #[xs.1, xs.2.1] ∧ RdO w xs.1 xs.2.2.1 ∧ RdO w xs.2.1 xs.2.2.2) :
    Calls Try.prog 11 #[.int .i64 l, .int .i64 k, v] w fun e w' => e = .returned (.bool true) ∧ Below w.heap.size w w' := by
  obtain ⟨v0, v1, os, os2⟩ := xs
  obtain ⟨rfl, ho0, ho1⟩ := hxs
  simp only at ho0 ho1
  have A := hid (fun W : World => d_alive W)
  obtain ⟨p0, cap0, rfl, hlen0, -⟩ := id ho0
  obtain ⟨p1, cap1, rfl, hlen1, -⟩ := id ho1
  have hba : Below w.heap.size w (w.alloc (.cells #[.slice p0 os.length cap0, .slice p1 os2.length cap1] 93)) := (Below.refl _ _).alloc (Nat.le_refl _) _
  have X := Blk.new w #[.slice p0 os.length cap0, .slice p1 os2.length cap1] 93
  have hsx : (w.alloc (.cells #[.slice p0 os.length cap0, .slice p1 os2.length cap1] 93)).heap.size = w.heap.size + 1 := by simp
  by_cases hbig : 100 < os.length ∨ (os.length ≤ 100 ∧ 40 < os2.length) ∨ (os.length ≤ 100 ∧ os2.length ≤ 40 ∧ l < 1) ∨ (os.length ≤ 100 ∧ os2.length ≤ 40 ∧ 1 ≤ l ∧ 10 < l)
  · rcases hbig with h1 | ⟨h1, h2⟩ | ⟨h1, h2, h3⟩ | ⟨h1, h2, h3, h4⟩
    all_goals
      clear ho0 ho1
      go_enter Try.func11, Try.ntmps11
      go_wp2_with fail
      refine (A.out _).mono ?_
      rintro e w2 ⟨rfl, hb2⟩
      go_wp2_with fail
      go_ret
      exact ⟨rfl, hba.trans (hb2.mono (by omega))⟩
  have h1 : os.length ≤ 100 := by omega
  have h2 : os2.length ≤ 40 := by omega
  have h3 : 1 ≤ l := by omega
  have h4 : l ≤ 10 := by omega
  clear hbig
  have P1 : poolIs 1 l = true := by simp [poolIs]; omega
  have P2 : poolIs 2 l = true := by simp [poolIs]; omega
  cases hP : isK k
  · have N1 := hid (fun W : World => dg_new_no 1 l k W bk (by rw [hP, Bool.and_false]))
    have N2 := hid (fun W : World => dg_new_no 2 l k W bk (by rw [hP, Bool.and_false]))
    clear ho0 ho1 P1 P2
    go_enter Try.func11, Try.ntmps11
    go_wp2_with fail
    refine (N1.out _).mono ?_
    rintro e w2 ⟨rfl, hb2⟩
    have hs2 := hb2.size
    go_wp2_with fail
    refine (N2.out _).mono ?_
    rintro e w3 ⟨rfl, hb3⟩
    have hs3 := hb3.size
    go_wp2_with fail
    refine (A.out _).mono ?_
    rintro e w4 ⟨rfl, hb4⟩
    go_wp2_with fail
    go_ret
    exact ⟨rfl, ((hba.trans (hb2.mono (by omega))).trans (hb3.mono (by omega))).trans (hb4.mono (by omega))⟩
  · have N1 := hid (fun W : World => dg_new 1 l k W P1 hP)
    have N2 := hid (fun W : World => dg_new 2 l k W P2 hP)
    clear P1 P2
    go_enter Try.func11, Try.ntmps11
    go_wp2_with fail
    refine (N1.out _).mono ?_
    rintro e w2 ⟨dg, q, g, h, rfl, d, hdg, hq, hg, hh, hb2⟩
    generalize (w.alloc (.cells #[.slice p0 os.length cap0, .slice p1 os2.length cap1] 93)) = w1 at *
    have X2 := X.below hb2 (Nat.le_refl _)
    have hs2 := hb2.size
    have ltd := d.ltB
    go_wp2_with fail
    refine (N2.out _).mono ?_
    rintro e w3 ⟨dg', q', g', h', rfl, d', hdg', hq', hg', hh', hb3⟩
    have hs3 := hb3.size
    have d3 := d.below hb3 (Nat.le_refl _)
    have X3 := X2.below hb3 (Nat.le_refl _)
    have x0 : w3.cell? ⟨w.heap.size, 0, none⟩ = some (.slice p0 os.length cap0) := X3.cell 0
    have hap : DApart dg q g h dg' q' g' h' := fun j x y => by
      have := ltd j x
      rcases y with y | y | y | y <;> omega
    have hB3 := (hba.trans (hb2.mono (by omega))).trans (hb3.mono (by omega))
    have R0 : Hid (DA1 w (.slice p0 os.length cap0) (.slice p1 os2.length cap1) dg q g dg' q' g' l k os.length os.length (.int .i64 (0 : Nat)) w3) := ⟨0, h, h', [], rfl, Nat.zero_le _, Nat.le_refl _, d3, d', Nat.zero_le _, hap, by omega, by omega, X3, hB3⟩
    clear d d3 d' X X2 X3 hap hb2 hb3 N1 N2 hB3 ltd
    go_wp2_with fail
    go_loopg [70] os.length (fun gn i wr => DA1 w (.slice p0 os.length cap0) (.slice p1 os2.length cap1) dg q g dg' q' g' l k os.length gn i wr)
    case atStart => exact R0.out
    case round =>
      obtain ⟨j, h, h', zs, rfl, hj, hgn, d, d', hzl, hap, hhw, hhw', X, hbw⟩ := hrel
      by_cases hlt : j < os.length
      · obtain ⟨o, x, wt, eo⟩ : ∃ o x wt, os.getD j (0, 0, 0) = (o, x, wt) := ⟨_, _, _, rfl⟩
        obtain ⟨p', cap', hv, _, hat⟩ := ho0.below hbw (Nat.le_refl _)
        obtain ⟨gs, off, hp, hg2, q0, q1, q2, bo, bx, bw⟩ := hat j hlt
        rw [eo] at q0 q1 q2 bo bx bw
        simp only [Value.slice.injEq, true_and] at hv
        obtain ⟨rfl, rfl⟩ := hv
        subst hp
        have hba3 : Below wr.heap.size wr (wr.alloc (.cells #[.int .i64 o, .int .i64 x, .int .i64 wt] 85)) := (Below.refl _ _).alloc (Nat.le_refl _) _
        have O := Blk.new wr #[.int .i64 o, .int .i64 x, .int .i64 wt] 85
        have da := d.below hba3 (Nat.le_refl _)
        have da' := d'.below hba3 (Nat.le_refl _)
        have Xa := X.below hba3 (Nat.le_refl _)
        have hsa : (wr.alloc (.cells #[.int .i64 o, .int .i64 x, .int .i64 wt] 85)).heap.size = wr.heap.size + 1 := by simp
        have hbwa := hbw.trans (hba3.mono hbw.size)
        have L1 := hid (fun W (y : DgV W dg q g h 1 l k 2000 zs) => dg_do y o x wt (by decide) (by omega) (by omega) bx bw)
        have L2 := hid (fun W (y : DgV W dg' q' g' h' 2 l k 2000 zs) => dg_do y o x wt (by decide) (by omega) (by omega) bx bw)
        obtain ⟨_, dlen⟩ := d.inv.doo o x wt
        have ltd := d.ltB
        have ltd' := d'.ltB
        clear eo hat hba3 d d' X
        go_wp2_with fail
        generalize (wr.alloc (.cells #[.int .i64 o, .int .i64 x, .int .i64 wt] 85)) = wa at *
        have o0 : wa.cell? ⟨wr.heap.size, 0, none⟩ = some (.int .i64 o) := O.cell 0
        have o1 : wa.cell? ⟨wr.heap.size, 1, none⟩ = some (.int .i64 x) := O.cell 1
        have o2 : wa.cell? ⟨wr.heap.size, 2, none⟩ = some (.int .i64 wt) := O.cell 2
        have S1 := hid (fun (W : World) (S : Nat → Prop) (c : ChB S wa W) (hS : ∀ j, S j → j < wr.heap.size) => (O.keep (c.block _ O.lt (fun hp => by have := hS _ hp; omega)) : Blk W wr.heap.size _ _))
        go_region_held3 (fun w' => w'.cell? ⟨wr.heap.size, 0, none⟩ = some (.int .i64 o) ∧ w'.cell? ⟨wr.heap.size, 1, none⟩ = some (.int .i64 x) ∧ w'.cell? ⟨wr.heap.size, 2, none⟩ = some (.int .i64 wt))
          (first
            | exact ⟨o0, o1, o2⟩
            | exact ⟨O6.cell 0, O6.cell 1, O6.cell 2⟩
            | exact ⟨O5.cell 0, O5.cell 1, O5.cell 2⟩)
          (first
            | (go_at_call_of 56 (Value.pointer (some ⟨dg, 0, none⟩)); refine (L1.out _ (da.keepB (w' := wa.drewN 1) (fun _ _ _ => rfl))).mono ?_; rintro e w5 ⟨rfl, h5, d5, hh5, c5⟩
               have O5 := S1.out w5 _ (ChB.trans (ChB.of_below (S := DB dg q g h) (below_drewN (Below.refl wa.heap.size wa) 1)) c5 (fun _ _ y => y)) ltd)
            | (go_at_call_of 56 (Value.pointer (some ⟨dg', 0, none⟩)); refine (L2.out _ (da'.keepB (w' := w5) (c5.off (fun j x y => hap j y x)))).mono ?_; rintro e w6 ⟨rfl, h6, d6, hh6, c6⟩
               have O6 := O5.keep (c6.block _ O5.lt (fun hp => by have := ltd' _ hp; omega))))
        have hs5 := c5.size
        have hs6 := c6.size
        have hs5' : wa.heap.size ≤ w5.heap.size := hs5
        have hh5' : h5 = h ∨ wa.heap.size ≤ h5 := hh5
        have ap5 : DApart dg q g h5 dg' q' g' h' := hap.step hh5' (fun j hj => by have := ltd' j hj; omega)
        have ap6 : DApart dg q g h5 dg' q' g' h6 := (ap5.symm.step hh6 (fun j hj => d5.ltB j hj)).symm
        have d5' := d5.keepB (w' := w6) (c6.off (fun j x y => ap5 j x y))
        have ca5 : ChB (DB dg q g h) wa w5 := ChB.trans (ChB.of_below (S := DB dg q g h) (below_drewN (Below.refl wa.heap.size wa) 1)) c5 (fun _ _ y => y)
        have X6 := (Xa.keep (ca5.block _ Xa.lt (fun hp => by rcases hp with e | e | e | e <;> omega))).keep (c6.block _ (by have := Xa.lt; omega) (fun hp => by rcases hp with e | e | e | e <;> omega))
        have B6 : Below w.heap.size w w6 := ChB.of_new (ChB.of_new hbwa ca5 (fun j hj => by rcases hj with e | e | e | e <;> omega)) c6 (fun j hj => by rcases hj with e | e | e | e <;> omega)
        have hws := hbw.size
        have hhw5 : w.heap.size < h5 := by rcases hh5' with e | e <;> omega
        have hhw6 : w.heap.size < h6 := by rcases hh6 with e | e <;> omega
        clear o0 o1 o2 S1 L1 L2 c5 c6 ca5 hh5 hh5' hh6 O O5 O6 da da' Xa
        generalize dgDo l k zs o x wt = R at *
        obtain ⟨Z, n'⟩ := R
        simp only at dlen
        go_wp2_with fail
        go_roundg (os.length - (j + 1))
        case rel => exact ⟨j + 1, h5, h6, Z, by go_num, by omega, Nat.le_refl _, d5', d6, by omega, ap6, hhw5, hhw6, X6, B6⟩
        case measure => omega
      · have hz100 : zs.length ≤ 100 := by omega
        have SM0 := fun (W : World) (x : DgV W dg q g h 1 l k 2000 zs) (y : DgV W dg' q' g' h' 2 l k 2000 zs) => dg_same x y (by decide) (by decide)
        have ND := hid (fun (W : World) (x : DgV W dg q g h 1 l k 2000 zs) => dg_nodes x (by decide))
        have ND' := hid (fun (W : World) (x : DgV W dg' q' g' h' 2 l k 2000 zs) => dg_nodes x (by decide))
        have NS0 := fun (W : World) (a b : Value) (x : RdN W a zs) (y : RdN W b zs) => r_same W x y (by omega) (by omega)
        have CL := hid (fun (W : World) (x : DgV W dg q g h 1 l k 2000 zs) => dg_clone x (by decide))
        have e1 : decide (l = l ∧ zs = zs) = true := by simp
        have e2 : decide (zs = zs) = true := by simp
        rw [e1] at SM0
        rw [e2] at NS0
        have SM := hid SM0
        have NS := hid NS0
        have hws := hbw.size
        have ltd := d.ltB
        have ltd' := d'.ltB
        have hxlt := X.lt
        clear e1 e2 SM0 NS0
        go_wp2_with fail
        refine (SM.out _ d d').mono ?_
        rintro e w3 ⟨rfl, hb3⟩
        have hs3 := hb3.size
        have d3 := d.below hb3 (Nat.le_refl _)
        have d3' := d'.below hb3 (Nat.le_refl _)
        have X3 := X.below hb3 (Nat.le_refl _)
        have hB3 := hbw.trans (hb3.mono hbw.size)
        clear d d' X hb3
        go_wp2_with fail
        refine (ND.out _ d3).mono ?_
        rintro e w4 ⟨v4, rfl, o4, hb4⟩
        have hs4 := hb4.size
        have d4 := d3.below hb4 (Nat.le_refl _)
        have d4' := d3'.below hb4 (Nat.le_refl _)
        have X4 := X3.below hb4 (Nat.le_refl _)
        have hB4 := hB3.trans (hb4.mono hB3.size)
        clear d3 d3' X3 hb4
        go_wp2_with fail
        refine (ND'.out _ d4').mono ?_
        rintro e w5 ⟨v5, rfl, o5, hb5⟩
        have hs5 := hb5.size
        have d5 := d4.below hb5 (Nat.le_refl _)
        have d5' := d4'.below hb5 (Nat.le_refl _)
        have X5 := X4.below hb5 (Nat.le_refl _)
        have hB5 := hB4.trans (hb5.mono hB4.size)
        have r4 := o4.rd.below hb5 (Nat.le_refl _)
        clear d4 d4' X4 hb5
        go_wp2_with fail
        refine (NS.out _ _ _ r4 o5.rd).mono ?_
        rintro e w6 ⟨rfl, n6, rfl⟩
        have d6 : DgV (w5.drewN n6) dg q g h 1 l k 2000 zs := d5.keepB (fun _ _ _ => rfl)
        have d6' : DgV (w5.drewN n6) dg' q' g' h' 2 l k 2000 zs := d5'.keepB (fun _ _ _ => rfl)
        have X6 := X5.drewN n6
        have hB6 := below_drewN hB5 n6
        clear d5 d5' X5 hB5 r4 o5 o4 ND'
        go_wp2_with fail
        refine (CL.out _ d6).mono ?_
        rintro e w7 ⟨dg2, q2, g2, h2, rfl, d7, hdg2, hq2, hg2, hh2, hb7⟩
        have hs7 := hb7.size
        have d7a := d6.below hb7 (Nat.le_refl _)
        have d7' := d6'.below hb7 (Nat.le_refl _)
        have X7 := X6.below hb7 (Nat.le_refl _)
        have hB7 := hB6.trans (hb7.mono hB6.size)
        have hs6 : (w5.drewN n6).heap.size = w5.heap.size := rfl
        clear d6 d6' X6 hb7 CL
        go_wp2_with fail
        refine (ND.out _ d7a).mono ?_
        rintro e w8 ⟨v8, rfl, o8, hb8⟩
        have hs8 := hb8.size
        have d8 := d7.below hb8 (Nat.le_refl _)
        have d8a := d7a.below hb8 (Nat.le_refl _)
        have d8' := d7'.below hb8 (Nat.le_refl _)
        have X8 := X7.below hb8 (Nat.le_refl _)
        have hB8 := hB7.trans (hb8.mono hB7.size)
        have x1 : w8.cell? ⟨w.heap.size, 1, none⟩ = some (.slice p1 os2.length cap1) := X8.cell 1
        have ltd2 := d7.ltB
        have hap2 : DApart dg2 q2 g2 h2 dg' q' g' h' := fun j x y => by
          have := ltd' j y
          rcases x with x | x | x | x <;> omega
        have hap3 : DApart dg q g h dg2 q2 g2 h2 := fun j x y => by
          have := ltd j x
          rcases y with y | y | y | y <;> omega
        have nd8 : NotD v8 zs (fun j => DB dg2 q2 g2 h2 j ∨ DB dg' q' g' h' j) := .inr fun j hj hp => by
          have := o8.lt j hj
          rcases hp with hp | hp
          · have := ltd2 j hp; omega
          · have := ltd' j hp; omega
        have R1 : Hid (DA2 w v8 zs dg q g h dg2 q2 g2 dg' q' g' l k os2.length os2.length (.int .i64 (0 : Nat)) w8) := ⟨0, h2, h', zs, rfl, Nat.zero_le _, Nat.le_refl _, d8a, d8, d8', by omega, hap2, hap3, hap, by omega, by omega, o8.rd, nd8, hB8⟩
        clear d7 d7a d7' X7 d8 d8a d8' o8 hb8 hap2 hap3 nd8 hB3 hB4 hB6 hB7 hB8 SM
        go_wp2_with fail
        go_loopg [101] os2.length (fun gn i wr => DA2 w v8 zs dg q g h dg2 q2 g2 dg' q' g' l k os2.length gn i wr)
        case atStart => exact R1.out
        case round =>
          obtain ⟨j, h2, h', zs', rfl, hj, hgn, da, d2, d', hzl', hap2, hap3, hap, hhw2, hhw', rv, nv, hbw⟩ := hrel
          have hws := hbw.size
          by_cases hlt : j < os2.length
          · obtain ⟨o, x, wt, eo⟩ : ∃ o x wt, os2.getD j (0, 0, 0) = (o, x, wt) := ⟨_, _, _, rfl⟩
            obtain ⟨p', cap', hv, _, hat⟩ := ho1.below hbw (Nat.le_refl _)
            obtain ⟨gs, off, hp, hg2', qq0, qq1, qq2, bo, bx, bw⟩ := hat j hlt
            rw [eo] at qq0 qq1 qq2 bo bx bw
            simp only [Value.slice.injEq, true_and] at hv
            obtain ⟨rfl, rfl⟩ := hv
            subst hp
            have hba3 : Below wr.heap.size wr (wr.alloc (.cells #[.int .i64 o, .int .i64 x, .int .i64 wt] 85)) := (Below.refl _ _).alloc (Nat.le_refl _) _
            have O := Blk.new wr #[.int .i64 o, .int .i64 x, .int .i64 wt] 85
            have ltd2 := d2.ltB
            have ltd' := d'.ltB
            have daa := da.below hba3 (Nat.le_refl _)
            have d2a := d2.below hba3 (Nat.le_refl _)
            have da' := d'.below hba3 (Nat.le_refl _)
            have rva := rv.below hba3 (Nat.le_refl _)
            have hsa : (wr.alloc (.cells #[.int .i64 o, .int .i64 x, .int .i64 wt] 85)).heap.size = wr.heap.size + 1 := by simp
            have hbwa := hbw.trans (hba3.mono hbw.size)
            have L1 := hid (fun W (y : DgV W dg2 q2 g2 h2 1 l k 2000 zs') => dg_do y o x wt (by decide) (by omega) (by omega) bx bw)
            have L2 := hid (fun W (y : DgV W dg' q' g' h' 2 l k 2000 zs') => dg_do y o x wt (by decide) (by omega) (by omega) bx bw)
            obtain ⟨_, dlen⟩ := d2.inv.doo o x wt
            clear eo hat hba3 da d2 d' rv
            go_wp2_with fail
            generalize (wr.alloc (.cells #[.int .i64 o, .int .i64 x, .int .i64 wt] 85)) = wa at *
            refine (L1.out _ d2a).mono ?_
            rintro e w5 ⟨rfl, h5, d5, hh5, c5⟩
            have hs5 := c5.size
            have O5 := O.keep (c5.block _ O.lt (fun hp => by have := ltd2 _ hp; omega))
            have da5 := daa.keepB (w' := w5) (c5.off (fun j x y => hap3 j x y))
            have d5' := da'.keepB (w' := w5) (c5.off (fun j x y => hap2 j y x))
            have rv5 := nv.keep rva c5 (fun j hj => .inl hj)
            have ap25 : DApart dg2 q2 g2 h5 dg' q' g' h' := hap2.step hh5 (fun j hj => by have := ltd' j hj; omega)
            have ap35 : DApart dg q g h dg2 q2 g2 h5 := (hap3.symm.step hh5 (fun j hj => daa.ltB j hj)).symm
            have o0 : w5.cell? ⟨wr.heap.size, 0, none⟩ = some (.int .i64 o) := O5.cell 0
            have o1 : w5.cell? ⟨wr.heap.size, 1, none⟩ = some (.int .i64 x) := O5.cell 1
            have o2 : w5.cell? ⟨wr.heap.size, 2, none⟩ = some (.int .i64 wt) := O5.cell 2
            have hhw5 : w.heap.size < h5 := by rcases hh5 with e | e <;> omega
            have B5 : Below w.heap.size w w5 := ChB.of_new hbwa c5 (fun j hj => by rcases hj with e | e | e | e <;> omega)
            have nv5 : NotD v8 zs (fun j => DB dg2 q2 g2 h5 j ∨ DB dg' q' g' h' j) := nv.more rva (fun j hj => by
              rcases hj with (e | e | e | e) | e
              · exact .inl (.inl (.inl e))
              · exact .inl (.inl (.inr (.inl e)))
              · exact .inl (.inl (.inr (.inr (.inl e))))
              · rcases hh5 with e2 | e2
                · exact .inl (.inl (.inr (.inr (.inr (e.trans e2)))))
                · exact .inr (by omega)
              · exact .inl (.inr e))
            have ltd5 := d5.ltB
            clear daa d2a da' c5 hh5 hap2 hap3 nv rva L1 O hbwa
            go_wp2_with fail
            refine (L2.out _ d5').mono ?_
            rintro e w6 ⟨rfl, h6, d6, hh6, c6⟩
            have hs6 := c6.size
            have da6 := da5.keepB (w' := w6) (c6.off (fun j x y => hap j x y))
            have d56 := d5.keepB (w' := w6) (c6.off (fun j x y => ap25 j x y))
            have rv6 := nv5.keep rv5 c6 (fun j hj => .inr hj)
            have ap26 : DApart dg2 q2 g2 h5 dg' q' g' h6 := (ap25.symm.step hh6 (fun j hj => d5.ltB j hj)).symm
            have ap6 : DApart dg q g h dg' q' g' h6 := (hap.symm.step hh6 (fun j hj => da5.ltB j hj)).symm
            have hhw6 : w.heap.size < h6 := by rcases hh6 with e | e <;> omega
            have B6 : Below w.heap.size w w6 := ChB.of_new B5 c6 (fun j hj => by rcases hj with e | e | e | e <;> omega)
            have nv6 : NotD v8 zs (fun j => DB dg2 q2 g2 h5 j ∨ DB dg' q' g' h6 j) := nv5.more rv5 (fun j hj => by
              rcases hj with e | (e | e | e | e)
              · exact .inl (.inl e)
              · exact .inl (.inr (.inl e))
              · exact .inl (.inr (.inr (.inl e)))
              · exact .inl (.inr (.inr (.inr (.inl e))))
              · rcases hh6 with e2 | e2
                · exact .inl (.inr (.inr (.inr (.inr (e.trans e2)))))
                · exact .inr (by omega))
            clear o0 o1 o2 O5 da5 d5 d5' rv5 nv5 c6 hh6 L2 B5 hap ap25
            generalize dgDo l k zs' o x wt = R at *
            obtain ⟨Z, n'⟩ := R
            simp only at dlen
            go_wp2_with fail
            go_roundg (os2.length - (j + 1))
            case rel => exact ⟨j + 1, h5, h6, Z, by go_num, by omega, Nat.le_refl _, da6, d56, d6, by omega, ap26, ap35, ap6, hhw5, hhw6, rv6, nv6, B6⟩
            case measure => omega
          · have ND2 := hid (fun (W : World) (x : DgV W dg2 q2 g2 h2 1 l k 2000 zs') => dg_nodes x (by decide))
            have S2 := fun (W : World) (x : DgV W dg2 q2 g2 h2 1 l k 2000 zs') (y : DgV W dg' q' g' h' 2 l k 2000 zs') => dg_same x y (by decide) (by decide)
            have S3 := fun (W : World) (x : DgV W dg q g h 1 l k 2000 zs) (y : DgV W dg2 q2 g2 h2 1 l k 2000 zs') => dg_same x y (by decide) (by decide)
            have NS3 := fun (W : World) (a b : Value) (x : RdN W a zs) (y : RdN W b zs') => r_same W x y (by omega) (by omega)
            have e1 : decide (l = l ∧ zs' = zs') = true := by simp
            have e2 : decide (l = l ∧ zs = zs') = decide (zs = zs') := by simp
            rw [e1] at S2
            rw [e2] at S3
            obtain ⟨bq, ebq⟩ : ∃ b, decide (zs = zs') = b := ⟨_, rfl⟩
            rw [ebq] at S3 NS3
            have hbq : (bq == bq) = true := by simp
            have S2' := hid S2
            have S3' := hid S3
            have NS3' := hid NS3
            clear e1 e2 ebq S2 S3 NS3
            go_wp2_with fail
            refine (ND.out _ da).mono ?_
            rintro e w3 ⟨v3, rfl, o3, hb3⟩
            have da3 := da.below hb3 (Nat.le_refl _)
            have d23 := d2.below hb3 (Nat.le_refl _)
            have d3' := d'.below hb3 (Nat.le_refl _)
            have rv3 := rv.below hb3 (Nat.le_refl _)
            have hB3 := hbw.trans (hb3.mono hbw.size)
            clear da d2 d' rv hb3
            go_wp2_with fail
            refine (NS.out _ _ _ o3.rd rv3).mono ?_
            rintro e w4 ⟨rfl, n4, rfl⟩
            have da4 : DgV (w3.drewN n4) dg q g h 1 l k 2000 zs := da3.keepB (fun _ _ _ => rfl)
            have d24 : DgV (w3.drewN n4) dg2 q2 g2 h2 1 l k 2000 zs' := d23.keepB (fun _ _ _ => rfl)
            have d4' : DgV (w3.drewN n4) dg' q' g' h' 2 l k 2000 zs' := d3'.keepB (fun _ _ _ => rfl)
            have rv4 := rv3.drewN n4
            have hB4 := below_drewN hB3 n4
            generalize w3.drewN n4 = w4 at *
            clear da3 d23 d3' rv3 o3 hB3
            go_wp2_with fail
            refine (S2'.out _ d24 d4').mono ?_
            rintro e w5 ⟨rfl, hb5⟩
            have da5 := da4.below hb5 (Nat.le_refl _)
            have d25 := d24.below hb5 (Nat.le_refl _)
            have rv5 := rv4.below hb5 (Nat.le_refl _)
            have hB5 := hB4.trans (hb5.mono hB4.size)
            clear da4 d24 d4' rv4 hb5
            go_wp2_with fail
            refine (S3'.out _ da5 d25).mono ?_
            rintro e w6 ⟨rfl, hb6⟩
            have d26 := d25.below hb6 (Nat.le_refl _)
            have rv6 := rv5.below hb6 (Nat.le_refl _)
            have hB6 := hB5.trans (hb6.mono hB5.size)
            clear da5 d25 rv5 hb6
            go_wp2_with fail
            refine (ND2.out _ d26).mono ?_
            rintro e w7 ⟨v7, rfl, o7, hb7⟩
            have rv7 := rv6.below hb7 (Nat.le_refl _)
            have hB7 := hB6.trans (hb7.mono hB6.size)
            clear d26 rv6 hb7
            go_wp2_with fail
            refine (NS3'.out _ _ _ rv7 o7.rd).mono ?_
            rintro e w8 ⟨rfl, n8, rfl⟩
            have hB8 := below_drewN hB7 n8
            generalize w7.drewN n8 = w9 at *
            clear rv7 o7
            go_wp2_with fail
            refine (A.out _).mono ?_
            rintro e w10 ⟨rfl, hb10⟩
            go_wp2_with fail
            go_ret
            exact ⟨rfl, hB8.trans (hb10.mono hB8.size)⟩
end Go.Proofs.Ytejoecoenehooaa
