/- Texts laid together. -/
import Derived.Test.YtlciofheonbkiaaGreatQ37
import Derived.Test.YtlciofheonbkiaaGreatQ30
import Derived.Test.YtlciofheonbkiaaGreatQ12
import Derived.Test.YtlciofheonbkiaaGreatQ15
import Derived.Test.YtlciofheonbkiaaGreatQ14
import Derived.Test.YtlciofheonbkiaaGreatQ20
import Derived.Test.YtlciofheonbkiaaGreatQ02
import Derived.Test.YtlciofheonbkiaaGreatQ16
/- The walk of rank.High. -/
namespace Go.Proofs.YtlciofheonbkiaaGreat
open Go.RowKit Nl

theorem Nl.high_step {l x : Int} {zs : List (Int × Int)} {j : Nat} {a c : Int} (h : j < zs.length) (e : zs.getD j (0, 0) = (a, c)) : gsum (highF l x) (zs.take (j + 1)) = gsum (highF l x) (zs.take j) + highF l x a c := by
  have e2 : zs[j] = (a, c) := by rw [← e]; simp [List.getD, h]
  rw [List.take_succ_eq_append_getElem h, gsum_append, e2]
  simp [gsum]
theorem Nl.high_bd {l x : Int} {zs : List (Int × Int)} (hp : Pos zs) (j : Nat) : 0 ≤ gsum (highF l x) (zs.take j) ∧ gsum (highF l x) (zs.take j) ≤ sumL zs := by
  have hp2 : Pos (zs.take j) := fun y hy => hp y (List.mem_of_mem_take hy)
  have h1 : gsum (highF l x) (zs.take j) ≤ gsum (fun _ c => c) (zs.take j) := gsum_le (fun y hy => by have := hp2 y hy; unfold highF; split <;> omega)
  have h2 : 0 ≤ gsum (highF l x) (zs.take j) := gsum_zero (fun y hy => by have := hp2 y hy; unfold highF; split <;> omega)
  rw [gsum_sum] at h1
  have h3 : sumL (zs.take j) + sumL (zs.drop j) = sumL zs := by rw [← sumL_append, List.take_append_drop]
  have h4 : 0 ≤ sumL (zs.drop j) := sumL_nonneg (fun y hy => hp y (List.mem_of_mem_drop hy))
  exact ⟨h2, by omega⟩
set_option maxRecDepth 100000 in
theorem ph_high1 (lo hi x : Int) (nb : Nat) (W : World) (hc : W.cell? ⟨nb, 0, none⟩ = some (.int .i64 x)) :
    Calls Tryz.prog 92 #[.int .i64 lo, .int .i64 hi, .pointer (some ⟨nb, 0, none⟩)] W fun e w' => e = .returned (.bool (decide (lo ≤ x))) ∧ W = w' := by
  go_enter Tryz.func92, Tryz.ntmps92
  go_wp2_with fail
  go_ret
  exact ⟨rfl, rfl⟩
set_option maxRecDepth 100000 in
set_option maxHeartbeats 1000000 in
theorem ph_weighH {w : World} {dg q g h m : Nat} {kind l k : Int} {zs : List Nd} (x : Int) (nb : Nat) (d : DgV w dg q g h kind l k m zs) (hm : m ≤ 100000) (hz : zs.length ≤ 100000) (hc : w.cell? ⟨nb, 0, none⟩ = some (.int .i64 x)) (hnb : nb < w.heap.size) :
    Calls Tryz.prog 90 #[.pointer (some ⟨dg, 0, none⟩), .func (Fn.func 92) #[] #[.pointer (some ⟨nb, 0, none⟩)]] w fun e w' => e = .returned (.int .i64 (gsum (highF l x) zs)) ∧ Below w.heap.size w w' := by
  have CF := hid (dg_conf d)
  have ND := hid (fun W (y : DgV W dg q g h kind l k m zs) => dg_nodes y hm)
  have LC := hid (fun lo hi W (c : W.cell? ⟨nb, 0, none⟩ = some (.int .i64 x)) => ph_high1 lo hi x nb W c)
  have inv := d.inv
  have hpos := inv.roll.strict.pos
  have hmost := inv.roll.most
  have LB := hid (fun j => high_bd (l := l) (x := x) hpos j)
  have CK := fun W : World => conf_l l k kind W
  go_enter Tryz.func90, Tryz.ntmps90
  go_wp2_with fail
  refine CF.out.mono ?_
  rintro e w1 ⟨rfl, hb1⟩
  have d1 := d.below hb1 (Nat.le_refl _)
  clear CF d
  go_wp2_with fail
  refine (ND.out _ d1).mono ?_
  rintro e w2 ⟨vn, rfl, on, hb2⟩
  have hbw := hb1.trans (hb2.mono hb1.size)
  have rn := on.rd
  obtain ⟨p, cap, rfl⟩ := rn.val
  clear ND d1 on hb1 hb2 CK
  go_wp2_with fail
  go_loopg [5, 18] zs.length (fun gn n i wr => ∃ j : Nat, i = .int .i64 j ∧ j ≤ zs.length ∧ zs.length - j ≤ gn ∧ n = .int .i64 (gsum (highF l x) (zs.take j)) ∧ Below w2.heap.size w2 wr)
  case atStart => exact ⟨0, rfl, Nat.zero_le _, Nat.le_refl _, rfl, Below.refl _ _⟩
  case round =>
    obtain ⟨j, rfl, hj, hgn, rfl, hbl⟩ := hrel
    have hwr := hbl.size
    by_cases hlt : j < zs.length
    · obtain ⟨gs, off, a, c, hp, hac, hgs, q0, q1⟩ := (rn.below hbl (Nat.le_refl _)).at hlt
      subst hp
      have hmem : (a, c) ∈ zs := by rw [← hac]; exact getD_mem _ _ hlt
      have hra := inv.roll.ids _ hmem
      have hcb := hpos _ hmem
      have hcs := hpos.le_sum _ hmem
      have EN := hid (fun W => t_ends W hra)
      have ST := high_step (l := l) (x := x) hlt hac
      have LB0 := LB.out j
      have LB1 := LB.out (j + 1)
      have Z1 := Blk.new wr #[.int .i64 a, .int .i64 c] 107
      have hb3 := hbl.alloc hwr (.cells #[.int .i64 a, .int .i64 c] 107)
      have z0 : decide ((j : Int) < (zs.length : Int)) = true := decide_eq_true (by omega)
      rw [ST] at LB1
      have STH := hid ST
      simp only at hcb hcs
      generalize gsum (highF l x) (zs.take j) = S0 at *
      clear ST hac hmem
      go_wp2_with fail
      generalize (wr.alloc (.cells #[.int .i64 a, .int .i64 c] 107)) = w3 at *
      refine (EN.out _).mono ?_
      rintro e w4 ⟨rfl, hb4⟩
      have Z4 := Z1.below hb4 (Nat.le_refl _)
      have hb5 := hb3.trans (hb4.mono hb3.size)
      have hc4 : w4.cell? ⟨nb, 0, none⟩ = some (.int .i64 x) := cell_below (hbw.trans (hb5.mono hbw.size)) hc hnb
      have LC4 := hid (LC.out (endsLo l a) (endsHi l a) w4 hc4)
      have hLF : Hid (highF l x a c = if endsLo l a ≤ x then c else 0) := rfl
      generalize endsLo l a = lo at *
      generalize endsHi l a = hi at *
      have y1 : w4.cell? ⟨wr.heap.size, 1, none⟩ = some (.int .i64 c) := Z4.cell 1
      clear EN Z1 Z4 hb3 hb4 q0 q1 hra
      go_wp2_with fail
      refine LC4.out.mono ?_
      rintro e w' ⟨rfl, rfl⟩
      by_cases hq : lo ≤ x
      · have E : Hid (gsum (highF l x) (zs.take (j + 1)) = S0 + c) := by show _ = _; rw [STH.out, hLF.out, if_pos hq]
        have hqd : decide (lo ≤ x) = true := decide_eq_true hq
        have hsum := IntWalk.i64_in (S0 + c) ⟨by omega, by rw [hLF.out, if_pos hq] at LB1; omega⟩
        clear LC4 hLF STH
        go_wp2_with fail
        go_roundg (zs.length - (j + 1))
        case rel => exact ⟨j + 1, by go_num, by omega, Nat.le_refl _, by rw [E.out], hb5⟩
        case measure => omega
      · have E : Hid (gsum (highF l x) (zs.take (j + 1)) = S0) := by show _ = _; rw [STH.out, hLF.out, if_neg hq]; omega
        have hqd : decide (lo ≤ x) = false := decide_eq_false hq
        clear LC4 hLF STH
        go_wp2_with fail
        go_roundg (zs.length - (j + 1))
        case rel => exact ⟨j + 1, by go_num, by omega, Nat.le_refl _, by rw [E.out], hb5⟩
        case measure => omega
    · obtain rfl : j = zs.length := by omega
      have z0 : decide ((zs.length : Int) < (zs.length : Int)) = false := decide_eq_false (by omega)
      rw [List.take_length]
      go_wp2_with fail
      go_ret
      exact ⟨rfl, hbw.trans (hbl.mono hbw.size)⟩
set_option maxRecDepth 100000 in
set_option maxHeartbeats 1000000 in
theorem ph_high {w : World} {dg q g h m : Nat} {kind l k : Int} {zs : List Nd} (x : Int) (d : DgV w dg q g h kind l k m zs) (hm : m ≤ 100000) (hz : zs.length ≤ 100000) :
    Calls Tryz.prog 38 #[.pointer (some ⟨dg, 0, none⟩), .int .i64 x] w fun e w' => e = .returned (.int .i64 (gsum (highF l x) zs)) ∧ Below w.heap.size w w' := by
  have hb1 : Below w.heap.size w (w.alloc (.cells #[.int .i64 x] 3)) := (Below.refl _ _).alloc (Nat.le_refl _) _
  have X1 := Blk.new w #[.int .i64 x] 3
  have WG := hid (ph_weighH x w.heap.size (d.below hb1 (Nat.le_refl _)) hm hz (X1.cell 0) X1.lt)
  clear d
  go_enter Tryz.func38, Tryz.ntmps38
  go_wp2_with fail
  refine WG.out.mono ?_
  rintro e w2 ⟨rfl, hb2⟩
  go_wp2_with fail
  go_ret
  exact ⟨rfl, hb1.trans (hb2.mono hb1.size)⟩
end Go.Proofs.YtlciofheonbkiaaGreat

/- The walk of: does a digest stand for a bag? -/
namespace Go.Proofs.YtlciofheonbkiaaGreat
open Go.RowKit Nl

set_option maxRecDepth 100000 in
theorem tp_rank {w : World} {its : List Nd} {v : Value} (l x : Int) (hr : RdN w v its) (hl : its.length ≤ 90000) (hp : Pos its) (hs : sumL its ≤ 72057594037927935) :
    Calls Tryz.prog 17 #[.agg #[.int .i64 l, v], .int .i64 x] w fun e w' => e = .returned (.int .i64 (betV 0 x its)) ∧ Below w.heap.size w w' := by
  obtain ⟨p, cap, rfl⟩ := hr.val
  have hb1 : Below w.heap.size w (w.alloc (.cells #[.int .i64 l, .slice p its.length cap] 41)) := (Below.refl _ _).alloc (Nat.le_refl _) _
  have BT := hid (b_between l 0 x (hr.below hb1 (Nat.le_refl _)) hl hp hs)
  go_enter Tryz.func17, Tryz.ntmps17
  go_wp2_with fail
  refine BT.out.mono ?_
  rintro e w2 ⟨rfl, hb2⟩
  go_wp2_with fail
  go_ret
  exact ⟨rfl, hb1.trans (hb2.mono hb1.size)⟩
set_option maxRecDepth 100000 in
set_option maxHeartbeats 4000000 in
theorem t_stands {w : World} {dg q g h : Nat} {kind l k : Int} {zs its : List Nd} {v : Value} {X : List Int} (y : Int) (d : DgV w dg q g h kind l k 20000 zs) (hr : RdN w v its) (t : TI l k zs its X) (hX : X.length ≤ 150) :
    Calls Tryz.prog 10 #[.pointer (some ⟨dg, 0, none⟩), .agg #[.int .i64 l, v], .int .i64 y] w fun e w' => e = .returned (.bool true) ∧ Below w.heap.size w w' := by
  obtain ⟨p, cap, rfl⟩ := hr.val
  have hil := t.ilen
  have hzl := t.zlen
  have hroll := t.dg.roll
  have hl1 := hroll.l1
  have hl2 := hroll.l2
  have k1 := t.dg.k1
  have k2 := t.dg.k2
  have room := t.dg.room
  have hl9 : zs.length ≤ 7400 := by
    have h1 : l.toNat + 1 ≤ 49 := by omega
    have h2 : X.length * (l.toNat + 1) ≤ 150 * 49 := Nat.mul_le_mul hX h1
    omega
  have s0 := sumL_nonneg t.bag.pos'
  have s1 := t.bag.most
  have es := t.sum
  obtain ⟨a1, a2, a3⟩ := t.stands y
  have b1 : 0 ≤ gsum (lowF l y) zs := gsum_zero (fun z hz => by have := hroll.strict.2 z hz; unfold lowF; split <;> omega)
  have b2 : gsum (highF l y) zs ≤ sumL zs := by have := (high_bd (l := l) (x := y) hroll.strict.pos zs.length).2; rwa [List.take_length] at this
  have RK := hid (fun W (q : RdN W (.slice p its.length cap) its) => tp_rank l y q (by omega) t.bag.pos' s1)
  have TT := hid (fun W (q : RdN W (.slice p its.length cap) its) => b_total l q (by omega) t.bag.pos' s1)
  have LW := hid (fun W (z : DgV W dg q g h kind l k 20000 zs) => ph_low y z (by decide) (by omega))
  have HG := hid (fun W (z : DgV W dg q g h kind l k 20000 zs) => ph_high y z (by decide) (by omega))
  have CF := hid (fun W (z : DgV W dg q g h kind l k 20000 zs) => dg_conf z)
  have DN := hid (fun W (z : DgV W dg q g h kind l k 20000 zs) => dg_n z)
  have DL := hid (fun W (z : DgV W dg q g h kind l k 20000 zs) => dg_len z)
  rw [← es] at b2 DN
  obtain ⟨lo, elo⟩ : ∃ x, gsum (lowF l y) zs = x := ⟨_, rfl⟩
  obtain ⟨hi, ehi⟩ : ∃ x, gsum (highF l y) zs = x := ⟨_, rfl⟩
  obtain ⟨n, en⟩ : ∃ x, betV 0 y its = x := ⟨_, rfl⟩
  obtain ⟨S, eS⟩ : ∃ x, sumL its = x := ⟨_, rfl⟩
  obtain ⟨Z, eZ⟩ : ∃ x, zs.length = x := ⟨_, rfl⟩
  rw [elo] at a1 a3 b1 LW
  rw [ehi] at a2 a3 b2 HG
  rw [en] at a1 a2 RK
  rw [eS] at a3 b2 s0 s1 TT DN
  rw [eZ] at room DL
  have hq0 : 0 ≤ S / k := Int.ediv_nonneg s0 (by omega)
  have hq1 : S / k ≤ S := Int.ediv_le_self _ s0
  have hmul : l * (S / k) ≤ 48 * (S / k) := Int.mul_le_mul_of_nonneg_right hl2 hq0
  have hmul0 : 0 ≤ l * (S / k) := Int.mul_nonneg (by omega) hq0
  have f1 : IntKind.i64.wrap (hi - lo) = hi - lo := IntWalk.i64_in _ ⟨by omega, by omega⟩
  have f2 : IntKind.i64.wrap (S.tdiv k) = S / k := by rw [Int.tdiv_eq_ediv_of_nonneg s0]; exact IntWalk.i64_in _ ⟨by omega, by omega⟩
  have f3 : IntKind.i64.wrap (l * (S / k)) = l * (S / k) := IntWalk.i64_in _ ⟨by omega, by omega⟩
  have f4 : IntKind.i64.wrap (8 * k) = 8 * k := IntWalk.i64_in _ ⟨by omega, by omega⟩
  have z0 : decide (k < 1) = false := decide_eq_false (by omega)
  have z1 : decide (lo ≤ n) = true := decide_eq_true a1
  have z2 : decide (n ≤ hi) = true := decide_eq_true a2
  have z3 : decide (hi - lo ≤ l * (S / k)) = true := decide_eq_true a3
  have z4 : decide ((Z : Int) ≤ 8 * k) = true := decide_eq_true room
  have zk : (k == 0) = false := by simp; omega
  have zk' : k ≠ 0 := by omega
  have HZ := hid (And.intro f1 (And.intro f2 (And.intro f3 (And.intro f4 (And.intro z1 (And.intro z2 (And.intro z3 z4)))))))
  clear f1 f2 f3 f4 z1 z2 z3 z4 hmul hmul0 hq0 hq1 a1 a2 a3 b1 b2 s0 s1 es t hroll hil hzl hl9 hl1 hl2 k1 k2 room elo ehi en eS eZ hX
  have B1 := Blk.new w #[.int .i64 l, .slice p its.length cap] 41
  have hb1 : Below w.heap.size w (w.alloc (.cells #[.int .i64 l, .slice p its.length cap] 41)) := (Below.refl _ _).alloc (Nat.le_refl _) _
  have d1 := d.below hb1 (Nat.le_refl _)
  have hr1 := hr.below hb1 (Nat.le_refl _)
  clear d hr
  go_enter Tryz.func10, Tryz.ntmps10
  go_upto_region 1 with fail
  generalize hW : w.alloc (.cells #[.int .i64 l, .slice p its.length cap] 41) = w1 at *
  clear hW
  have hB0 := Below.refl w1.heap.size w1
  have FX := hid (fun W (q : Below w1.heap.size w1 W) => (show W.cell? ⟨w.heap.size, 0, none⟩ = some (.int .i64 l) ∧ W.cell? ⟨w.heap.size, 1, none⟩ = some (.slice p its.length cap) ∧ Below w1.heap.size w1 W from ⟨(B1.below q (Nat.le_refl _)).cell 0, (B1.below q (Nat.le_refl _)).cell 1, q⟩))
  have RK2 := hid (fun W (q : Below w1.heap.size w1 W) => RK.out W (hr1.below q (Nat.le_refl _)))
  have TT2 := hid (fun W (q : Below w1.heap.size w1 W) => TT.out W (hr1.below q (Nat.le_refl _)))
  clear RK TT
  go_region_held3 (fun W => W.cell? ⟨w.heap.size, 0, none⟩ = some (.int .i64 l) ∧ W.cell? ⟨w.heap.size, 1, none⟩ = some (.slice p its.length cap) ∧ Below w1.heap.size w1 W)
    (first
      | exact FX.out _ (below_drewN hB0 1)
      | exact FX.out _ hBn)
    (first
      | (go_at_call 17; have hBa := (‹_ ∧ _ ∧ Below w1.heap.size w1 _›).2.2; refine (RK2.out _ hBa).mono ?_; rintro e w5 ⟨rfl, hb5⟩
         have hBn := hBa.trans (hb5.mono hBa.size))
      | (go_at_call 11; have hBa := (‹_ ∧ _ ∧ Below w1.heap.size w1 _›).2.2; refine (TT2.out _ hBa).mono ?_; rintro e w5 ⟨rfl, hb5⟩
         have hBn := hBa.trans (hb5.mono hBa.size)))
  all_goals
    have d2 := d1.below hBn (Nat.le_refl _)
    have hbw := hb1.trans (hBn.mono hb1.size)
    have LW2 := LW.out _ d2
    clear RK2 TT2 FX hb5 LW
    go_wp2_with fail
    refine LW2.mono ?_
    rintro e w6 ⟨rfl, hb6⟩
    have d3 := d2.below hb6 (Nat.le_refl _)
    have hbw2 := hbw.trans (hb6.mono hbw.size)
    have HG2 := HG.out _ d3
    clear LW2 d2 hbw hb6
    go_wp2_with fail
    refine HG2.mono ?_
    rintro e w7 ⟨rfl, hb7⟩
    have d4 := d3.below hb7 (Nat.le_refl _)
    have hbw3 := hbw2.trans (hb7.mono hbw2.size)
    have CF2 := CF.out _ d4
    clear HG2 d3 hbw2 hb7
    go_wp2_with fail
    refine CF2.mono ?_
    rintro e w8 ⟨rfl, hb8⟩
    have d5 := (d4.below hb8 (Nat.le_refl _)).below ((Below.refl _ _).alloc (Nat.le_refl _) (.cells #[.int .i64 l, .int .i64 k, .int .i64 kind] 64)) (Nat.le_refl _)
    have hbw4 := hbw3.trans (hb8.mono hbw3.size)
    have hbw5 := hbw4.alloc hbw4.size (.cells #[.int .i64 l, .int .i64 k, .int .i64 kind] 64)
    have C5 := Blk.new w8 #[.int .i64 l, .int .i64 k, .int .i64 kind] 64
    clear d4 hbw3 hbw4 hb8 CF2
    go_upto_region 6 with fail
    generalize hW : w8.alloc (.cells #[.int .i64 l, .int .i64 k, .int .i64 kind] 64) = w9 at *
    clear hW
    have c0 : w9.cell? ⟨w8.heap.size, 0, none⟩ = some (.int .i64 l) := C5.cell 0
    have c1 : w9.cell? ⟨w8.heap.size, 1, none⟩ = some (.int .i64 k) := C5.cell 1
    obtain ⟨f1, f2, f3, f4, z1, z2, z3, z4⟩ := HZ.out
    have DN2 := hid (fun n => DN.out (w9.drewN n) (d5.keepB (fun _ _ _ => rfl)))
    have DL2 := hid (fun n => DL.out (w9.drewN n) (d5.keepB (fun _ _ _ => rfl)))
    clear DN DL d5 hB0
    go_quiet ((first
      | (go_at_call 39; exact Calls.quiet_of_same (calls_flip (DN2.out _)))
      | (go_at_call 26; exact Calls.quiet_of_same (calls_flip (DL2.out _)))))
    go_wp2_with fail
    go_ret
    exact ⟨rfl, hbw5.trans (below_drewN (Below.refl _ _) _)⟩
end Go.Proofs.YtlciofheonbkiaaGreat

/- Sorting one alone: nothing is done. -/
namespace Go.Proofs.YtlciofheonbkiaaGreat
open Go.RowKit

set_option maxRecDepth 100000 in
theorem so_ins {v f : Value} (w : World) : Calls Tryz.prog 201 #[v, .int .i64 0, .int .i64 1, f] w (Ret (.tuple #[]) w) := by
  go_enter Tryz.func201, Tryz.ntmps201
  go_wp2_with fail
  go_loopg [8] 1 (fun gn i wr => wr = w ∧ i = .int .i64 1)
  case atStart => exact ⟨rfl, rfl⟩
  case round =>
    obtain ⟨rfl, rfl⟩ := hrel
    go_wp2_with fail
    go_end0
    exact ⟨rfl, rfl⟩
set_option maxRecDepth 100000 in
theorem so_pdq {v f lim : Value} (w : World) : Calls Tryz.prog 155 #[v, .int .i64 0, .int .i64 1, lim, f] w (Ret (.tuple #[]) w) := by
  have I := hid (so_ins (v := v) (f := f) w)
  go_enter Tryz.func155, Tryz.ntmps155
  go_wp2_with fail
  go_loopg [1, 2, 10] 1 (fun gn a b i wr => wr = w ∧ a = .int .i64 0 ∧ b = .int .i64 1 ∧ i = .bool true)
  case atStart => exact ⟨rfl, rfl, rfl, rfl⟩
  case round =>
    obtain ⟨rfl, rfl, rfl, rfl⟩ := hrel
    go_wp2_with fail
    refine I.out.mono ?_
    rintro e w2 ⟨rfl, rfl⟩
    go_wp2_with fail
    go_end0
    exact ⟨rfl, rfl⟩
theorem so_len (w : World) : Calls Tryz.prog 156 #[.int .u64 1] w (Ret (.int .i64 1) w) := by
  have L := hid (len64_any 1 w (by decide) (by decide))
  go_enter Tryz.func156, Tryz.ntmps156
  go_wp2_with fail
  refine L.out.mono ?_
  rintro e w2 ⟨rfl, rfl⟩
  go_wp2_with fail
  go_ret
  exact ⟨rfl, rfl⟩
theorem so_sort {p : Option Addr} {cap : Nat} {f : Value} (w : World) : Calls Tryz.prog 93 #[.slice p 1 cap, f] w (Ret (.tuple #[]) w) := by
  have L := hid (so_len w)
  have P := hid (so_pdq (v := .slice p 1 cap) (f := f) (lim := .int .i64 1) w)
  go_enter Tryz.func93, Tryz.ntmps93
  go_wp2_with fail
  refine L.out.mono ?_
  rintro e w2 ⟨rfl, rfl⟩
  go_wp2_with fail
  refine P.out.mono ?_
  rintro e w2 ⟨rfl, rfl⟩
  go_wp2_with fail
  go_end0
  exact ⟨rfl, rfl⟩
/-- The value of rank 1 where there is one end alone. -/
theorem so_reach {g cap : Nat} {x c : Int} (w : World) (h0 : w.cell? ⟨g, 0, none⟩ = some (.int .i64 x)) (h1 : w.cell? ⟨g, 1, none⟩ = some (.int .i64 c)) (hc : 1 ≤ c) : Calls Tryz.prog 41 #[.slice (some ⟨g, 0, none⟩) 1 cap, .int .i64 1] w (Ret (.int .i64 x) w) := by
  have S := hid (so_sort (p := some ⟨g, 0, none⟩) (cap := cap) (f := .func (.func 94) #[] #[]) w)
  have z : decide (c < 1) = false := decide_eq_false (by omega)
  go_enter Tryz.func41, Tryz.ntmps41
  go_wp2_with fail
  refine S.out.mono ?_
  rintro e w2 ⟨rfl, rfl⟩
  go_wp2_with fail
  go_loopg [1, 5] 1 (fun gn r i wr => wr = w ∧ r = .int .i64 1 ∧ i = .int .i64 0)
  case atStart => exact ⟨rfl, rfl, rfl⟩
  case round =>
    obtain ⟨rfl, rfl, rfl⟩ := hrel
    go_wp2_with fail
    go_ret
    exact ⟨rfl, rfl⟩
end Go.Proofs.YtlciofheonbkiaaGreat

/- The median of one value. -/
namespace Go.Proofs.YtlciofheonbkiaaGreat
open Go.RowKit Nl

def OneEnd (w : World) (e : Ending) (w' : World) : Prop := ∃ g cap, e = .returned (.slice (some ⟨g, 0, none⟩) 1 cap) ∧ w'.cell? ⟨g, 0, none⟩ = some (.int .i64 5) ∧ w'.cell? ⟨g, 1, none⟩ = some (.int .i64 2) ∧ Below w.heap.size w w'
def SoRel (w : World) (gn : Nat) (b i : Value) (wr : World) : Prop :=
  Below w.heap.size w wr ∧ ((gn = 1 ∧ i = .int .i64 0 ∧ b = .slice none 0 0) ∨ (i = .int .i64 1 ∧ ∃ g cap, b = .slice (some ⟨g, 0, none⟩) 1 cap ∧ wr.cell? ⟨g, 0, none⟩ = some (.int .i64 5) ∧ wr.cell? ⟨g, 1, none⟩ = some (.int .i64 2)))
set_option maxRecDepth 100000 in
set_option maxHeartbeats 1000000 in
theorem so_ends {w : World} {dg q g h m : Nat} {kind k : Int} (d : DgV w dg q g h kind 3 k m [(13, 2)]) (hm : m ≤ 100000) :
    Calls Tryz.prog 42 #[.pointer (some ⟨dg, 0, none⟩), .bool false] w (OneEnd w) := by
  have CF := hid (dg_conf d)
  have ND := hid (fun W (y : DgV W dg q g h kind 3 k m [(13, 2)]) => dg_nodes y hm)
  have EN := hid (fun W => t_ends (l := 3) (id := 13) W (by decide))
  have e5 : endsHi 3 13 = 5 := by decide
  rw [e5] at EN
  go_enter Tryz.func42, Tryz.ntmps42
  go_wp2_with fail
  refine CF.out.mono ?_
  rintro e w1 ⟨rfl, hb1⟩
  have d1 := d.below hb1 (Nat.le_refl _)
  have ND1 := ND.out w1 d1
  go_wp2_with (rename_i K hK; show K (Act.put _ (some 14) (.int .i64 3)) w1; refine hK _ _ ?_)
  refine ND1.mono ?_
  rintro e w2 ⟨v, rfl, ho, hb2⟩
  obtain ⟨p, cap, rfl⟩ := ho.val
  obtain ⟨gs, off, a, c, rfl, hac, hgs, q0, q1⟩ := ho.rd.at (k := 0) (by decide)
  obtain ⟨rfl, rfl⟩ : (13 : Int) = a ∧ (2 : Int) = c := by simpa using hac
  have q0 : w2.cell? ⟨gs, off, none⟩ = some (.int .i64 13) := q0
  have q1 : w2.cell? ⟨gs, off + 1, none⟩ = some (.int .i64 2) := q1
  have hl1 : ([(13, 2)] : List Nd).length = 1 := rfl
  rw [hl1]
  have hbw := hb1.trans (hb2.mono hb1.size)
  have hs := hbw.size
  clear hac hl1 ho d1 ND1 ND CF d hb1 hb2 e5
  go_wp2_with fail
  go_loopg [5, 18] 1 (fun gn b i wr => SoRel w2 gn b i wr)
  case atStart => exact ⟨Below.refl _ _, .inl ⟨rfl, rfl, rfl⟩⟩
  case round =>
    obtain ⟨hbl, ⟨rfl, rfl, rfl⟩ | ⟨rfl, g9, c9, rfl, r0, r1⟩⟩ := hrel
    · have q0 := cell_below hbl q0 hgs
      have q1 := cell_below hbl q1 hgs
      have N8 := Blk.new wr #[.int .i64 13, .int .i64 2] 107
      have EN1 := EN.out (wr.alloc (.cells #[.int .i64 13, .int .i64 2] 107))
      go_wp2_with fail
      refine EN1.mono ?_
      rintro e w5 ⟨rfl, hb5⟩
      have N9 := N8.below hb5 (Nat.le_refl _)
      have n1 : w5.cell? ⟨wr.heap.size, 1, none⟩ = some (.int .i64 2) := N9.cell 1
      have hbx : Below w2.heap.size w2 w5 := (hbl.alloc hbl.size _).trans (hb5.mono (by have := hbl.size; simp; omega))
      clear EN1 N8 hb5
      go_upto_region 9 with fail
      go_wp2_with (at_builtin; refine appendE _ _ (World.ownsRow_nil w5 w5.heap.size _ _) (by decide) (Nat.le_refl _) rfl rfl rfl rfl rfl ?_; intro g9 c9 w6 hown hgr hat hlt)
      have r0 : w6.cell? ⟨g9, 0, none⟩ = some (.int .i64 5) := World.ownsRow.cellAt hown 0 (by decide)
      have r1 : w6.cell? ⟨g9, 1, none⟩ = some (.int .i64 2) := World.ownsRow.cellAt hown 1 (by decide)
      have hb6 := hbx.grown hgr hbx.size (fun k hk => by simp [Value.ownBlock] at hk)
      go_roundg 0
      case rel => exact ⟨hb6, .inr ⟨rfl, g9, c9, rfl, r0, r1⟩⟩
      case measure => omega
    · have P : Hid (OneEnd w (.returned (.slice (some ⟨g9, 0, none⟩) 1 c9)) wr) := ⟨g9, c9, rfl, r0, r1, hbw.trans (hbl.mono hs)⟩
      clear r0 r1 q0 q1
      go_wp2_with fail
      go_ret
      exact P.out
/-- Nothing is wrong with the rank 1. -/
theorem so_wrong {w : World} {dg q g h m : Nat} {kind k : Int} (d : DgV w dg q g h kind 3 k m [(13, 2)]) : Calls Tryz.prog 40 #[.pointer (some ⟨dg, 0, none⟩), .int .i64 1] w (Ret (.int .i64 0) w) := by
  have DN := hid (dg_n d)
  have es : sumL ([(13, 2)] : List Nd) = 2 := rfl
  rw [es] at DN
  clear es d
  go_enter Tryz.func40, Tryz.ntmps40
  go_wp2_with fail
  refine DN.out.mono ?_
  rintro e w2 ⟨rfl, rfl⟩
  go_wp2_with fail
  refine DN.out.mono ?_
  rintro e w2 ⟨rfl, rfl⟩
  go_wp2_with fail
  go_ret
  exact ⟨rfl, rfl⟩
theorem so_at {w : World} {dg q g h m : Nat} {kind k : Int} (d : DgV w dg q g h kind 3 k m [(13, 2)]) (hm : m ≤ 100000) : Calls Tryz.prog 12 #[.pointer (some ⟨dg, 0, none⟩), .int .i64 1] w fun e w' => e = .returned (.tuple #[.int .i64 5, .int .i64 0]) ∧ Below w.heap.size w w' := by
  have WR := hid (so_wrong d)
  have ES := hid (so_ends d hm)
  clear d
  go_enter Tryz.func12, Tryz.ntmps12
  go_wp2_with fail
  refine WR.out.mono ?_
  rintro e w2 ⟨rfl, rfl⟩
  go_wp2_with fail
  refine ES.out.mono ?_
  rintro e w3 ⟨g9, c9, rfl, r0, r1, hb⟩
  have RC := hid (so_reach (cap := c9) w3 r0 r1 (by decide))
  go_wp2_with fail
  refine RC.out.mono ?_
  rintro e w4 ⟨rfl, rfl⟩
  go_wp2_with fail
  go_ret2
  exact ⟨rfl, hb⟩
end Go.Proofs.YtlciofheonbkiaaGreat
