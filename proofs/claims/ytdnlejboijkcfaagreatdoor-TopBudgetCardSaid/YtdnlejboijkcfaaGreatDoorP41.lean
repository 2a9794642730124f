/- Texts laid together. -/
import Derived.Test.YtdnlejboijkcfaaGreatDoorP15
import Derived.Test.YtdnlejboijkcfaaGreatDoorP40
import Derived.Test.YtdnlejboijkcfaaGreatDoorP12
/- The walk of rank.Low. -/
namespace Go.Proofs.YtdnlejboijkcfaaGreatDoor
set_option maxHeartbeats 8000000
set_option maxRecDepth 100000
open Go.RowKit Nl
theorem Nl.low_step {l x : Int} {zs : List (Int × Int)} {j : Nat} {a c : Int} (h : j < zs.length) (e : zs.getD j (0, 0) = (a, c)) : gsum (lowF l x) (zs.take (j + 1)) = gsum (lowF l x) (zs.take j) + lowF l x a c := by
  have e2 : zs[j] = (a, c) := by rw [← e]; simp [List.getD, h]
  rw [List.take_succ_eq_append_getElem h, gsum_append, e2]
  simp [gsum]
theorem Nl.low_bd {l x : Int} {zs : List (Int × Int)} (hp : Pos zs) (j : Nat) : 0 ≤ gsum (lowF l x) (zs.take j) ∧ gsum (lowF l x) (zs.take j) ≤ sumL zs := by
  have hp2 : Pos (zs.take j) := fun y hy => hp y (List.mem_of_mem_take hy)
  have h1 : gsum (lowF l x) (zs.take j) ≤ gsum (fun _ c => c) (zs.take j) := gsum_le (fun y hy => by have := hp2 y hy; unfold lowF; split <;> omega)
  have h2 : 0 ≤ gsum (lowF l x) (zs.take j) := gsum_zero (fun y hy => by have := hp2 y hy; unfold lowF; split <;> omega)
  rw [gsum_sum] at h1
  have h3 : sumL (zs.take j) + sumL (zs.drop j) = sumL zs := by rw [← sumL_append, List.take_append_drop]
  have h4 : 0 ≤ sumL (zs.drop j) := sumL_nonneg (fun y hy => hp y (List.mem_of_mem_drop hy))
  exact ⟨h2, by omega⟩
theorem conf_l (a b c : Int) (W : World) : (Instr.field 24 (.agg #[.int .i64 a, .int .i64 b, .int .i64 c]) 0).run Tryz.prog W = .ok (.int .i64 a) W := by
  simp [Instr.field, run_underlying Tryz.underlying24]
  rfl
theorem ph_low1 (lo hi x : Int) (nb : Nat) (W : World) (hc : W.cell? ⟨nb, 0, none⟩ = some (.int .i64 x)) :
    Calls Tryz.prog 52 #[.int .i64 lo, .int .i64 hi, .pointer (some ⟨nb, 0, none⟩)] W fun e w' => e = .returned (.bool (decide (hi ≤ x))) ∧ W = w' := by
  go_enter Tryz.func52, Tryz.ntmps52
  go_wp2_with fail
  go_ret
  exact ⟨rfl, rfl⟩
theorem ph_weigh {w : World} {dg q g h m : Nat} {kind l k : Int} {zs : List Nd} (x : Int) (nb : Nat) (d : DgV w dg q g h kind l k m zs) (hm : m ≤ 100000) (hz : zs.length ≤ 100000) (hc : w.cell? ⟨nb, 0, none⟩ = some (.int .i64 x)) (hnb : nb < w.heap.size) :
    Calls Tryz.prog 51 #[.pointer (some ⟨dg, 0, none⟩), .func (Fn.func 52) #[] #[.pointer (some ⟨nb, 0, none⟩)]] w fun e w' => e = .returned (.int .i64 (gsum (lowF l x) zs)) ∧ Below w.heap.size w w' := by
  have CF := hid (dg_conf d)
  have ND := hid (fun W (y : DgV W dg q g h kind l k m zs) => dg_nodes y hm)
  have LC := hid (fun lo hi W (c : W.cell? ⟨nb, 0, none⟩ = some (.int .i64 x)) => ph_low1 lo hi x nb W c)
  have inv := d.inv
  have hpos := inv.roll.strict.pos
  have hmost := inv.roll.most
  have LB := hid (fun j => low_bd (l := l) (x := x) hpos j)
  have CK := fun W : World => conf_l l k kind W
  go_enter Tryz.func51, Tryz.ntmps51
  go_wp2_with fail
  refine CF.out.mono ?_
  rintro e w1 ⟨rfl, hb1⟩
  have d1 := d.below hb1 nlr
  clear CF d
  go_wp2_with fail
  refine (ND.out _ d1).mono ?_
  rintro e w2 ⟨vn, rfl, on, hb2⟩
  have hbw := hb1.trans (hb2.mono hb1.size)
  have rn := on.rd
  obtain ⟨p, cap, rfl⟩ := rn.val
  clear ND d1 on hb1 hb2 CK
  go_wp2_with fail
  go_loopg [5, 18] zs.length (fun gn n i wr => ∃ j : Nat, i = .int .i64 j ∧ j ≤ zs.length ∧ zs.length - j ≤ gn ∧ n = .int .i64 (gsum (lowF l x) (zs.take j)) ∧ Below w2.heap.size w2 wr)
  case atStart => exact ⟨0, rfl, Nat.zero_le _, nlr, rfl, Below.refl _ _⟩
  case round =>
    obtain ⟨j, rfl, hj, hgn, rfl, hbl⟩ := hrel
    have hwr := hbl.size
    by_cases hlt : j < zs.length
    · obtain ⟨gs, off, a, c, hp, hac, hgs, q0, q1⟩ := (rn.below hbl nlr).at hlt
      subst hp
      have hmem : (a, c) ∈ zs := by rw [← hac]; exact getD_mem _ _ hlt
      have hra := inv.roll.ids _ hmem
      have hcb := hpos _ hmem
      have hcs := hpos.le_sum _ hmem
      have EN := hid (fun W => t_ends W hra)
      have ST := low_step (l := l) (x := x) hlt hac
      have LB0 := LB.out j
      have LB1 := LB.out (j + 1)
      have Z1 := Blk.new wr #[.int .i64 a, .int .i64 c] 116
      have hb3 := hbl.alloc hwr (.cells #[.int .i64 a, .int .i64 c] 116)
      have z0 : decide ((j : Int) < (zs.length : Int)) = true := decide_eq_true (by omega)
      rw [ST] at LB1
      have STH := hid ST
      simp only at hcb hcs
      generalize gsum (lowF l x) (zs.take j) = S0 at *
      clear ST hac hmem
      go_wp2_with fail
      generalize (wr.alloc (.cells #[.int .i64 a, .int .i64 c] 116)) = w3 at *
      refine (EN.out _).mono ?_
      rintro e w4 ⟨rfl, hb4⟩
      have Z4 := Z1.below hb4 nlr
      have hb5 := hb3.trans (hb4.mono hb3.size)
      have hc4 : w4.cell? ⟨nb, 0, none⟩ = some (.int .i64 x) := cell_below (hbw.trans (hb5.mono hbw.size)) hc hnb
      have LC4 := hid (LC.out (endsLo l a) (endsHi l a) w4 hc4)
      have hLF : Hid (lowF l x a c = if endsHi l a ≤ x then c else 0) := rfl
      generalize endsLo l a = lo at *
      generalize endsHi l a = hi at *
      have y1 : w4.cell? ⟨wr.heap.size, 1, none⟩ = some (.int .i64 c) := Z4.cell 1
      clear EN Z1 Z4 hb3 hb4 q0 q1 hra
      go_wp2_with fail
      refine LC4.out.mono ?_
      rintro e w' ⟨rfl, rfl⟩
      by_cases hq : hi ≤ x
      · have E : Hid (gsum (lowF l x) (zs.take (j + 1)) = S0 + c) := by show _ = _; rw [STH.out, hLF.out, if_pos hq]
        have hqd : decide (hi ≤ x) = true := decide_eq_true hq
        have hsum := IntWalk.i64_in (S0 + c) ⟨by omega, by rw [hLF.out, if_pos hq] at LB1; omega⟩
        clear LC4 hLF STH
        go_wp2_with fail
        go_roundg (zs.length - (j + 1))
        case rel => exact ⟨j + 1, by go_num, by omega, nlr, by rw [E.out], hb5⟩
        case measure => omega
      · have E : Hid (gsum (lowF l x) (zs.take (j + 1)) = S0) := by show _ = _; rw [STH.out, hLF.out, if_neg hq]; omega
        have hqd : decide (hi ≤ x) = false := decide_eq_false hq
        clear LC4 hLF STH
        go_wp2_with fail
        go_roundg (zs.length - (j + 1))
        case rel => exact ⟨j + 1, by go_num, by omega, nlr, by rw [E.out], hb5⟩
        case measure => omega
    · obtain rfl : j = zs.length := by omega
      have z0 : decide ((zs.length : Int) < (zs.length : Int)) = false := decide_eq_false (by omega)
      rw [List.take_length]
      go_wp2_with fail
      go_ret
      exact ⟨rfl, hbw.trans (hbl.mono hbw.size)⟩
theorem ph_low {w : World} {dg q g h m : Nat} {kind l k : Int} {zs : List Nd} (x : Int) (d : DgV w dg q g h kind l k m zs) (hm : m ≤ 100000) (hz : zs.length ≤ 100000) :
    Calls Tryz.prog 20 #[.pointer (some ⟨dg, 0, none⟩), .int .i64 x] w fun e w' => e = .returned (.int .i64 (gsum (lowF l x) zs)) ∧ Below w.heap.size w w' := by
  have hb1 : Below w.heap.size w (w.alloc (.cells #[.int .i64 x] 3)) := (Below.refl _ _).alloc nlr _
  have X1 := Blk.new w #[.int .i64 x] 3
  have WG := hid (ph_weigh x w.heap.size (d.below hb1 nlr) hm hz (X1.cell 0) X1.lt)
  clear d
  go_enter Tryz.func20, Tryz.ntmps20
  go_wp2_with fail
  refine WG.out.mono ?_
  rintro e w2 ⟨rfl, hb2⟩
  go_wp2_with fail
  go_ret
  exact ⟨rfl, hb1.trans (hb2.mono hb1.size)⟩
end Go.Proofs.YtdnlejboijkcfaaGreatDoor
