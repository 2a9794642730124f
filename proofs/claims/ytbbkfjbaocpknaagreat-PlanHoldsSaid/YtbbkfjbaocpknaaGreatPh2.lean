/- The walk of PlanHolds. -/
import Derived.Test.YtbbkfjbaocpknaaGreatPh1
import Derived.Test.YtbbkfjbaocpknaaGreatMade5
import Derived.Test.YtbbkfjbaocpknaaGreatPlB2
import Derived.Test.YtbbkfjbaocpknaaGreatWr6
namespace Go.Proofs.YtbbkfjbaocpknaaGreat
open Go.RowKit Nl Vy

theorem Nl.bet_rank {l x : Int} {its : List (Int × Int)} (hb : Bag l its) : betV 0 x its = gsum (rankF x) its := by
  unfold betV
  refine gsum_congr (fun y hy => ?_)
  have h := of_decide_eq_true (hb.val y hy)
  unfold betF rankF
  by_cases hq : y.1 ≤ x
  · rw [if_pos ⟨h.2.2.1, hq⟩, if_pos hq]
  · rw [if_neg (fun q => hq q.2), if_neg hq]
theorem off_order {l num den k n off : Int} (hw : Rk.wantB l num den = true) (k1 : 1 ≤ k) (h3 : l * den ≤ k * num) (n0 : 0 ≤ n) (o0 : 0 ≤ off) (o1 : off ≤ n / k * l) : Rk.orderOk off den n num = true ∧ Rk.orderV off den n num ≤ 0 := by
  simp only [Rk.wantB, Rk.uniB, Bool.and_eq_true, decide_eq_true_eq] at hw
  obtain ⟨⟨⟨a1, a2⟩, b1⟩, c1⟩ := hw
  have ho : Rk.orderOk off den n num = true := by simp [Rk.orderOk]; omega
  have q0 : 0 ≤ n / k := Int.ediv_nonneg n0 (by omega)
  have e0 : off * den ≤ n / k * l * den := Int.mul_le_mul_of_nonneg_right o1 (by omega)
  have e1 : n / k * l * den = l * den * (n / k) := by rw [Int.mul_assoc, Int.mul_comm]
  have e2 : l * den * (n / k) ≤ k * num * (n / k) := Int.mul_le_mul_of_nonneg_right h3 q0
  have e3 : k * num * (n / k) = k * (n / k) * num := by rw [Int.mul_assoc, Int.mul_comm num, ← Int.mul_assoc]
  have e4 : k * (n / k) ≤ n := Int.mul_ediv_self_le (by omega)
  have e5 : k * (n / k) * num ≤ n * num := Int.mul_le_mul_of_nonneg_right e4 (by omega)
  have hle : off * den ≤ n * num := by omega
  refine ⟨ho, ?_⟩
  unfold Rk.orderV Rk.sgn
  rw [if_pos ho]
  split
  · omega
  · rw [if_neg (by omega)]; omega
set_option maxRecDepth 100000 in
theorem r_brank {w : World} {its : List Nd} {v : Value} (l x : Int) (hr : RdN w v its) (hl : its.length ≤ 90000) (hp : Pos its) (hs : sumL its ≤ 72057594037927935) :
    Calls Tryz.prog 17 #[.agg #[.int .i64 l, v], .int .i64 x] w fun e w' => e = .returned (.int .i64 (betV 0 x its)) ∧ Below w.heap.size w w' := by
  obtain ⟨p, cap, rfl⟩ := hr.val
  have hb1 : Below w.heap.size w (w.alloc (.cells #[.int .i64 l, .slice p its.length cap] 53)) := (Below.refl _ _).alloc (Nat.le_refl _) _
  have BT := hid (b_between l 0 x (hr.below hb1 (Nat.le_refl _)) hl hp hs)
  go_enter Tryz.func17, Tryz.ntmps17
  go_wp2_with fail
  refine BT.out.mono ?_
  rintro e w2 ⟨rfl, hb2⟩
  go_wp2_with fail
  go_ret
  exact ⟨rfl, hb1.trans (hb2.mono hb1.size)⟩
set_option maxRecDepth 100000 in
set_option maxHeartbeats 2000000 in
theorem PlanHolds_walk (l num den b : Int) (v : Value) (os : List Op3) (x : Int) (w : World) (bl : In64 l) (bn : In64 num) (bd : In64 den) (bb : In64 b) (ho : RdO w v os) (bx : In64 x) :
    Calls Tryz.prog 4 #[.agg #[.int .i64 l, .int .i64 num, .int .i64 den, .int .i64 b], v, .int .i64 x] w fun e w' => e = .returned (.bool true) ∧ Below w.heap.size w w' := by
  obtain ⟨p, cap, rfl, hlen, -⟩ := id ho
  have A := hid pa_alive
  have hb1 : Below w.heap.size w (w.alloc (.cells #[.int .i64 l, .int .i64 num, .int .i64 den, .int .i64 b] 48)) := (Below.refl _ _).alloc (Nat.le_refl _) _
  have X1 := Blk.new w #[.int .i64 l, .int .i64 num, .int .i64 den, .int .i64 b] 48
  have ho1 := ho.below hb1 (Nat.le_refl _)
  have K := hid (fun W => pa_k l num den b W bl bn bd bb)
  have LF := hid (fun h => Rk.least_facts (l := l) (num := num) (den := den) (b := b) h)
  generalize Rk.kE l num den b = ke at *
  generalize Rk.kV l num den b = k at *
  clear ho
  by_cases hE : ke = 0 ∧ k ≤ 50 ∧ os.length ≤ 120
  · obtain ⟨rfl, hk50, hl120⟩ := hE
    obtain ⟨k1, k2, kb, kw, kd, -⟩ := LF.out rfl
    have kw' := kw
    simp only [Rk.wantB, Rk.uniB, Bool.and_eq_true, decide_eq_true_eq] at kw'
    obtain ⟨⟨⟨l1, l2⟩, n1⟩, d1⟩ := kw'
    have hP1 : poolIs 2 l = true := by simp [poolIs]; omega
    have hP2 : isK k = true := decide_eq_true ⟨k1, k2⟩
    have hbv : 78 + 72 * k ≤ b := by
      have e : Rk.bytesV k = 78 + 72 * k := by unfold Rk.bytesV Rk.isK; rw [if_pos (decide_eq_true ⟨k1, k2⟩)]
      rw [e] at kb; exact kb
    have MD := hid (fun W (y : RdO W (.slice p os.length cap) os) => d_madeR l k 2 _ os W y (by omega) hP1 hP2)
    have KW := hid kw
    have KD := hid kd
    clear LF hP1 hP2 kw kd kb
    go_enter Tryz.func4, Tryz.ntmps4
    go_wp2_with fail
    generalize (w.alloc (.cells #[.int .i64 l, .int .i64 num, .int .i64 den, .int .i64 b] 48)) = w1 at *
    refine (K.out _).mono ?_
    rintro e w2 ⟨rfl, hb2⟩
    have X2 := X1.below hb2 (Nat.le_refl _)
    have hbw2 := hb1.trans (hb2.mono hb1.size)
    have ho2 := ho1.below hb2 (Nat.le_refl _)
    clear X1 hb1 ho1 K hb2
    have x0 : w2.cell? ⟨w.heap.size, 0, none⟩ = some (.int .i64 l) := X2.cell 0
    have x1 : w2.cell? ⟨w.heap.size, 1, none⟩ = some (.int .i64 num) := X2.cell 1
    have x2 : w2.cell? ⟨w.heap.size, 2, none⟩ = some (.int .i64 den) := X2.cell 2
    have x3 : w2.cell? ⟨w.heap.size, 3, none⟩ = some (.int .i64 b) := X2.cell 3
    go_wp2_with fail
    refine (MD.out _ ho2).mono ?_
    rintro e w3 ⟨dg, q, g, h, vb, zs, its, rfl, d3, rb, nd, ⟨mi, rk⟩, hzl, hil, hdb, hb3⟩
    obtain ⟨pb, capb, rfl⟩ := rb.val
    have X3 := (X2.below hb3 (Nat.le_refl _)).alloc (.cells #[.int .i64 l, .slice pb its.length capb] 53)
    have hb4 : Below w3.heap.size w3 (w3.alloc (.cells #[.int .i64 l, .slice pb its.length capb] 53)) := (Below.refl _ _).alloc (Nat.le_refl _) _
    have T4 := Blk.new w3 #[.int .i64 l, .slice pb its.length capb] 53
    have d4 := d3.below hb4 (Nat.le_refl _)
    have r4 := rb.below hb4 (Nat.le_refl _)
    have hbw3 := hbw2.trans (hb3.mono hbw2.size)
    have hbw4 := hbw3.trans (hb4.mono hbw3.size)
    have hxl := X2.lt
    have hpos := mi.bag.pos'
    have hmost := mi.bag.most
    have hsum := mi.sum
    have hR := rank_off (x := x) mi.dg rk
    have hcap : capV (sumL zs) k = sumL zs / k := by
      have := mi.dg.roll.sum
      unfold capV
      rw [if_neg (by omega)]
    rw [hcap] at hR
    have hs0 := mi.dg.roll.sum
    obtain ⟨OO1, OO2⟩ := off_order (off := gsum (rankF x) its - gsum (lowF l x) zs) KW.out k1 KD.out hs0.1 hR.1 hR.2
    have hrk := bet_le (lo := 0) (hi := x) hpos
    have hbr := bet_rank (x := x) mi.bag
    rw [hbr] at hrk
    have hlo := low_bd (l := l) (x := x) mi.dg.roll.strict.pos zs.length
    rw [List.take_length] at hlo
    have TT := hid (fun W (y : RdN W (.slice pb its.length capb) its) => b_total l y (by omega) hpos hmost)
    have BR := hid (fun W (y : RdN W (.slice pb its.length capb) its) => r_brank l x y (by omega) hpos hmost)
    rw [hsum] at TT
    rw [hbr] at BR
    have LW := hid (fun W (y : DgV W dg q g h 2 l k 2000 zs) => ph_low x y (by decide) (by omega))
    have CM := hid (fun W (y : DgV W dg q g h 2 l k 2000 zs) => dg_compress y (by decide) (by omega) (by omega))
    obtain ⟨c1, c2, c3, c4, -, -⟩ := mi.dg.com
    have hcl : (comL l k zs).1.length ≤ 199 := by omega
    have EC := hid (fun W h' (y : DgV W dg q g h' 2 l k 2000 (comL l k zs).1) => w_encode y (by decide) (by omega))
    have hel := enc_len (l := l) (k := k) (n := sumL (comL l k zs).1) (ids := (comL l k zs).1.map (fun x => x.1)) (ws := (comL l k zs).1.map (fun x => x.2)) c1.k2 (by have := c1.roll.most; omega) (fun j => (ids_cnt c1.roll j).2) (fun j => (ids_cnt c1.roll j).1) (by simp; omega) (fun j => (ws_cnt c1.roll j).2) (by simp)
    rw [List.length_map] at hel
    have hel2 : ((encL l k (sumL (comL l k zs).1) ((comL l k zs).1.map (fun x => x.1)) ((comL l k zs).1.map (fun x => x.2))).length : Int) ≤ b - 64 := by omega
    obtain ⟨E9, hE9⟩ : ∃ E9, encL l k (sumL (comL l k zs).1) ((comL l k zs).1.map (fun x => x.1)) ((comL l k zs).1.map (fun x => x.2)) = E9 := ⟨_, rfl⟩
    rw [hE9] at EC hel2
    obtain ⟨CL, hCL⟩ : ∃ CL, comL l k zs = CL := ⟨_, rfl⟩
    rw [hCL] at CM EC
    obtain ⟨R, eR⟩ : ∃ R, gsum (rankF x) its = R := ⟨_, rfl⟩
    obtain ⟨L, eL⟩ : ∃ L, gsum (lowF l x) zs = L := ⟨_, rfl⟩
    rw [eR] at BR OO1 OO2 hrk hR
    rw [eL] at LW OO1 OO2 hlo hR
    have hn0 := hs0.1
    have hn1 := hs0.2
    generalize sumL zs = N at *
    have OR := hid (fun W => r_order (R - L) den N num W (by omega) (by omega) (by omega) bd.2 (by omega) (by omega) (by omega) bn.2)
    rw [OO1] at OR
    obtain ⟨OV, eOV⟩ : ∃ OV, Rk.orderV (R - L) den N num = OV := ⟨_, rfl⟩
    rw [eOV] at OR OO2
    have hov : decide (0 < OV) = false := decide_eq_false (by omega)
    have hwr := IntWalk.i64_in (R - L) ⟨by omega, by omega⟩
    have hles : decide ((E9.length : Int) ≤ b - 64) = true := decide_eq_true hel2
    have hbb := IntWalk.i64_in (b - 64) ⟨by omega, by have := bb.2; omega⟩
    clear x0 x1 x2 x3 MD hb3 hb4 d3 rb nd hel hE9 hCL eR eL eOV hcap c1 c2 c3 c4 hcl mi rk hbr OO1 KW KD hR hsum ho2 hbw2 hbw3
    go_wp2_with fail
    generalize (w3.alloc (.cells #[.int .i64 l, .slice pb its.length capb] 53)) = w4 at *
    have X4 := X3
    have t0 : w4.cell? ⟨w3.heap.size, 0, none⟩ = some (.int .i64 l) := T4.cell 0
    have t1 : w4.cell? ⟨w3.heap.size, 1, none⟩ = some (.slice pb its.length capb) := T4.cell 1
    refine (TT.out _ r4).mono ?_
    rintro e w5 ⟨rfl, hb5⟩
    have X5 := X4.below hb5 (Nat.le_refl _)
    have T5 := T4.below hb5 (Nat.le_refl _)
    have d5 := d4.below hb5 (Nat.le_refl _)
    have r5 := r4.below hb5 (Nat.le_refl _)
    have hbw5 := hbw4.trans (hb5.mono hbw4.size)
    clear t0 t1 X3 X4 T4 d4 r4 TT hbw4 hb5
    have t0 : w5.cell? ⟨w3.heap.size, 0, none⟩ = some (.int .i64 l) := T5.cell 0
    have t1 : w5.cell? ⟨w3.heap.size, 1, none⟩ = some (.slice pb its.length capb) := T5.cell 1
    go_wp2_with fail
    refine (BR.out _ r5).mono ?_
    rintro e w6 ⟨rfl, hb6⟩
    have X6 := X5.below hb6 (Nat.le_refl _)
    have d6 := d5.below hb6 (Nat.le_refl _)
    have hbw6 := hbw5.trans (hb6.mono hbw5.size)
    clear t0 t1 X5 T5 d5 r5 BR hbw5 hb6
    go_wp2_with fail
    refine (LW.out _ d6).mono ?_
    rintro e w7 ⟨rfl, hb7⟩
    have X7 := X6.below hb7 (Nat.le_refl _)
    have d7 := d6.below hb7 (Nat.le_refl _)
    have hbw7 := hbw6.trans (hb7.mono hbw6.size)
    clear X6 d6 LW hbw6 hb7
    have x1 : w7.cell? ⟨w.heap.size, 1, none⟩ = some (.int .i64 num) := X7.cell 1
    have x2 : w7.cell? ⟨w.heap.size, 2, none⟩ = some (.int .i64 den) := X7.cell 2
    go_wp2_with fail
    refine (OR.out _).mono ?_
    rintro e w8 ⟨rfl, hb8⟩
    have X8 := X7.below hb8 (Nat.le_refl _)
    have d8 := d7.below hb8 (Nat.le_refl _)
    have hbw8 := hbw7.trans (hb8.mono hbw7.size)
    clear x1 x2 X7 d7 OR hbw7 hb8
    go_wp2_with fail
    refine (CM.out _ d8).mono ?_
    rintro e w9 ⟨rfl, h9, d9, hh9, ch9⟩
    have hdx : ∀ j, DB dg q g h j → w.heap.size < j := fun j hj => by have := hdb j hj; omega
    have X9 := X8.keep (ch9.block _ X8.lt (fun hd => by have := hdx _ hd; omega))
    have hbw9 := hbw8.trans (ch9.below (fun j _ hj => by have := hdx j hj; omega) hbw8.size)
    clear X8 d8 CM hbw8 ch9 hh9
    dsimp only at d9
    go_wp2_with fail
    refine (EC.out _ _ d9).mono ?_
    rintro e w10 ⟨rfl, hb10⟩
    have X10 := X9.below hb10 (Nat.le_refl _)
    have hbw10 := hbw9.trans (hb10.mono hbw9.size)
    clear X9 d9 EC hbw9 hb10
    have x3 : w10.cell? ⟨w.heap.size, 3, none⟩ = some (.int .i64 b) := X10.cell 3
    go_wp2_with fail
    refine (A.out _).mono ?_
    rintro e w11 ⟨rfl, hb11⟩
    have hbz := hbw10.trans (hb11.mono hbw10.size)
    go_wp2_with fail
    go_ret
    exact ⟨by simp, hbz⟩
  · have hcs : (ke != 0) = true ∨ ((ke != 0) = false ∧ decide (50 < k) = true) ∨ ((ke != 0) = false ∧ decide (50 < k) = false ∧ decide ((120 : Int) < (os.length : Int)) = true) := by
      by_cases h1 : ke = 0
      · by_cases h2 : k ≤ 50
        · exact .inr (.inr ⟨by simp [h1], decide_eq_false (by omega), decide_eq_true (by
            have : ¬ os.length ≤ 120 := fun h3 => hE ⟨h1, h2, h3⟩
            omega)⟩)
        · exact .inr (.inl ⟨by simp [h1], decide_eq_true (by omega)⟩)
      · exact .inl (by simpa using h1)
    clear hE LF ho1
    rcases hcs with hq | ⟨hq, hq2⟩ | ⟨hq, hq2, hq3⟩
    all_goals
      go_enter Tryz.func4, Tryz.ntmps4
      go_wp2_with fail
      generalize (w.alloc (.cells #[.int .i64 l, .int .i64 num, .int .i64 den, .int .i64 b] 48)) = w1 at *
      refine (K.out _).mono ?_
      rintro e w2 ⟨rfl, hb2⟩
      have hbw2 := hb1.trans (hb2.mono hb1.size)
      go_wp2_with fail
      refine (A.out _).mono ?_
      rintro e w3 ⟨rfl, hb3⟩
      go_wp2_with fail
      go_ret
      exact ⟨rfl, hbw2.trans (hb3.mono hbw2.size)⟩
end Go.Proofs.YtbbkfjbaocpknaaGreat
