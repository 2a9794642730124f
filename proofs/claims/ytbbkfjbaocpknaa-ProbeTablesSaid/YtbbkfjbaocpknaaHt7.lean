/- The walk of ProbeTables. -/
import Derived.Test.YtbbkfjbaocpknaaHt6
import Derived.Test.YtbbkfjbaocpknaaOpenOps
import Derived.Test.YtbbkfjbaocpknaaProbe4b
namespace Go.Proofs.Ytbbkfjbaocpknaa
open Go.RowKit Nl

/-- The state between two calls: the program's table and the document's have the same slots. -/
def HTRel (l a0 a1 : Int) (g nb n : Nat) (w : World) (gn : Nat) (i : Value) (wr : World) : Prop :=
  ∃ (k bb h : Nat) (cs : List Nd) (v : Value), i = .int .i64 k ∧ k ≤ n ∧ n - k ≤ gn ∧ PnV wr g h l bb cs ∧ Lim k cs ∧ 1 ≤ bb ∧ h ≠ nb ∧ w.heap.size < h ∧
    Blk wr nb #[.int .i64 l, .int .i64 bb, v] 31 ∧ Blk wr w.heap.size #[.int .i64 a0, .int .i64 a1] 23 ∧ RdN wr v cs ∧ (∀ j, v.ownBlock = some j → j ≠ g ∧ j ≠ h ∧ j ≠ nb) ∧ Below w.heap.size w wr
set_option maxRecDepth 100000 in
set_option maxHeartbeats 4000000 in
theorem ProbeTables_walk (l : Int) (v : Value) (os : List Op3) (a0 a1 : Int) (w : World) (hl : -9223372036854775808 ≤ l) (hl1 : l ≤ 9223372036854775807) (ho : RdO w v os) (hi0 : -9223372036854775808 ≤ a0) (hi1 : a0 ≤ 9223372036854775807) (hj0 : -9223372036854775808 ≤ a1) (hj1 : a1 ≤ 9223372036854775807) :
    Calls Try.prog 3 #[.int .i64 l, v, .agg #[.int .i64 a0, .int .i64 a1]] w fun e w' => e = .returned (.bool true) ∧ Below w.heap.size w w' := by
  obtain ⟨p, cap, rfl, hlen, hcells⟩ := id ho
  have A := hid (fun W : World => pb_alive W)
  have hb1 : Below w.heap.size w (w.alloc (.cells #[.int .i64 a0, .int .i64 a1] 23)) := (Below.refl _ _).alloc (Nat.le_refl _) _
  have X1 := Blk.new w #[.int .i64 a0, .int .i64 a1] 23
  by_cases h1 : 100 < os.length
  · clear hcells ho
    go_enter Try.func3, Try.ntmps3
    go_wp2_with fail
    refine (A.out _).mono ?_
    rintro e w' ⟨rfl, hb⟩
    go_wp2_with fail
    go_ret
    exact ⟨rfl, hb1.trans (hb.mono hb1.size)⟩
  by_cases h3 : l < 1 ∨ 48 < l
  · have hc2 : l < 1 ∨ (1 ≤ l ∧ 48 < l) := by omega
    have NN := hid (fun W => p_new_no l W h3)
    clear hcells h3 ho
    rcases hc2 with h3 | ⟨h2, h3⟩
    all_goals
      go_enter Try.func3, Try.ntmps3
      go_wp2_with fail
      refine (NN.out _).mono ?_
      rintro e w' ⟨rfl, rfl⟩
      go_wp2_with fail
      refine (A.out _).mono ?_
      rintro e w' ⟨rfl, hb⟩
      go_wp2_with fail
      go_ret
      exact ⟨rfl, hb1.trans (hb.mono hb1.size)⟩
  have h4 : 1 ≤ l := by omega
  have h5 : l ≤ 48 := by omega
  have N := hid (p_new l (w.alloc (.cells #[.int .i64 a0, .int .i64 a1] 23)) h4 h5)
  have RN := hid (fun W => h_new l W)
  obtain ⟨z0, ez⟩ : ∃ z, List.replicate 8 ((0 : Int), (0 : Int)) = z := ⟨_, rfl⟩
  have El : Hid (Lim 0 z0) := by subst ez; exact Lim.new
  have Ez : Hid (z0.length = 8) := by subst ez; rfl
  rw [ez] at N RN
  have Ho := hid ho
  clear h3 ez hcells ho
  go_enter Try.func3, Try.ntmps3
  go_wp2_with fail
  have hs1 : (w.alloc (.cells #[.int .i64 a0, .int .i64 a1] 23)).heap.size = w.heap.size + 1 := by simp
  generalize (w.alloc (.cells #[.int .i64 a0, .int .i64 a1] 23)) = w1 at *
  refine N.out.mono ?_
  rintro e w2 ⟨g, h, rfl, dv2, hg, hh, hb2⟩
  have X2 := X1.below hb2 (Nat.le_refl _)
  have hbw2 := hb1.trans (hb2.mono hb1.size)
  clear N X1 hb1 hb2
  go_wp2_with fail
  refine (RN.out _).mono ?_
  rintro e w3 ⟨v3, rfl, r3, own3, hb3⟩
  obtain ⟨p3, c3, rfl⟩ := r3.val
  have X3 := (X2.below hb3 (Nat.le_refl _)).alloc (.cells #[.int .i64 l, .int .i64 3, .slice p3 z0.length c3] 31)
  have hlt2 := dv2.lt
  have dv3 := (dv2.below hb3 (Nat.le_refl _)).below ((Below.refl w3.heap.size w3).alloc (Nat.le_refl _) (.cells #[.int .i64 l, .int .i64 3, .slice p3 z0.length c3] 31)) (Nat.le_refl _)
  have T3 := Blk.new w3 #[.int .i64 l, .int .i64 3, .slice p3 z0.length c3] 31
  have r4 := r3.alloc (.cells #[.int .i64 l, .int .i64 3, .slice p3 z0.length c3] 31)
  have hbw3 := (hbw2.trans (hb3.mono hbw2.size)).alloc (Nat.le_trans hbw2.size hb3.size) (.cells #[.int .i64 l, .int .i64 3, .slice p3 z0.length c3] 31)
  have hs3 := hb3.size
  have hlt3 : ∀ j, Value.ownBlock (.slice p3 z0.length c3) = some j → j < w3.heap.size := by
    rcases r3.ltE with h | h
    · rw [h] at Ez; exact absurd Ez.out (by decide)
    · exact h
  have R0 : Hid (HTRel l a0 a1 g w3.heap.size os.length w os.length (.int .i64 (0 : Nat)) (w3.alloc (.cells #[.int .i64 l, .int .i64 3, .slice p3 z0.length c3] 31))) :=
    ⟨0, 3, h, z0, _, rfl, Nat.zero_le _, Nat.le_refl _, dv3, El.out, by decide, by omega, by omega, T3, X3, r4, fun j hj => by have := own3 j hj; have := hlt3 j hj; omega, hbw3⟩
  have hx2l := X2.lt
  have hws : w.heap.size < w3.heap.size := by omega
  have hgw : w.heap.size < g := by omega
  have hgn : g ≠ w3.heap.size := by omega
  clear dv2 dv3 T3 X2 X3 r3 r4 hbw2 hbw3 own3 hlt3 El hb3 hg hh hlt2 hs1 hs3 RN
  go_wp2_with fail
  go_loopg [51] os.length (fun gn i wr => HTRel l a0 a1 g w3.heap.size os.length w gn i wr)
  case atStart => exact R0.out
  case round =>
    obtain ⟨k, bb, h, cs, vt, rfl, hk, hgk, dv, hlim, hbb, hhn, hhw, T, X, rv, hov, hbl⟩ := hrel
    obtain ⟨pt, ct, rfl⟩ := rv.val
    obtain ⟨hlg, hlh, hgh⟩ := dv.lt
    have hwr := hbl.size
    have hbits := hlim.bits dv.2 (by omega)
    have htl := T.lt
    have hxl := X.lt
    by_cases h6 : k < os.length
    · obtain ⟨p', cap', hv', _, hat⟩ := Ho.out.below hbl (Nat.le_refl _)
      simp only [Value.slice.injEq, true_and] at hv'
      obtain ⟨rfl, rfl⟩ := hv'
      obtain ⟨gq, off, hpq, hgo, q0, q1, q2, k1, k2, k3⟩ := hat k h6
      subst hpq
      obtain ⟨⟨kind, id, c⟩, eo⟩ : ∃ x, os.getD k (0, 0, 0) = x := ⟨_, rfl⟩
      rw [eo] at q0 q1 q2 k1 k2 k3
      simp only at q0 q1 q2 k1 k2 k3
      have hlim' := hlim.do dv.2 (show bb + 1 ≤ 62 by omega) kind id c
      have hrl : cs.length ≤ 400008 := hbits.2
      have V := dv.2
      have hba : Below wr.heap.size wr (wr.alloc (.cells #[.int .i64 kind, .int .i64 id, .int .i64 c] 34)) := (Below.refl _ _).alloc (Nat.le_refl _) _
      have O := Blk.new wr #[.int .i64 kind, .int .i64 id, .int .i64 c] 34
      have hsa : (wr.alloc (.cells #[.int .i64 kind, .int .i64 id, .int .i64 c] 34)).heap.size = wr.heap.size + 1 := by simp
      have RD := hid (h_do (l := l) kind id c (rv.below hba (Nat.le_refl _)) V hbb (by omega) k2 k3 hrl)
      have PD := hid (fun W h' (y : PnV W g h' l bb cs) => pb_do kind id c y (by omega) hbb k2 k3)
      obtain ⟨⟨⟨bb', cs'⟩, code⟩, ed⟩ : ∃ r, pDo l bb cs kind id c = r := ⟨_, rfl⟩
      rw [ed] at RD PD hlim'
      have Hlim := hid hlim'
      have T2 := T.below hba (Nat.le_refl _)
      have X2 := X.below hba (Nat.le_refl _)
      have dv2 := dv.below hba (Nat.le_refl _)
      have hbl2 := hbl.trans (hba.mono hwr)
      have y0 : wr.cell? ⟨w3.heap.size, 0, none⟩ = some (.int .i64 l) := T.cell 0
      have y1 : wr.cell? ⟨w3.heap.size, 1, none⟩ = some (.int .i64 bb) := T.cell 1
      have y2 : wr.cell? ⟨w3.heap.size, 2, none⟩ = some (.slice pt cs.length ct) := T.cell 2
      clear eo ed hlim' dv V hlim hba R0 hbits hlen T X
      go_wp2_with fail
      refine RD.out.mono ?_
      rintro e w5 ⟨v5, rfl, r5, own5, hb5⟩
      obtain ⟨p5, c5, rfl⟩ := r5.val
      dsimp only at r5 own5 ⊢
      have own6 : (Value.slice p5 cs'.length c5 = .slice pt cs.length ct) ∨ ∀ j, Value.ownBlock (.slice p5 cs'.length c5) = some j → wr.heap.size + 1 ≤ j := own5.imp (fun hq => hq) (fun hq j hj => by rw [← hsa]; exact hq j hj)
      clear own5
      generalize (wr.alloc (.cells #[.int .i64 kind, .int .i64 id, .int .i64 c] 34)) = wa at *
      have T5 := T2.below hb5 (Nat.le_refl _)
      have X5 := X2.below hb5 (Nat.le_refl _)
      have O5 := O.below hb5 (Nat.le_refl _)
      have dv5 := dv2.below hb5 (Nat.le_refl _)
      have hbl5 := hbl2.trans (hb5.mono hbl2.size)
      have hs5 := hb5.size
      clear y0 y1 y2 q0 q1 q2 RD T2 X2 O dv2 hbl2 rv
      have y0 : w5.cell? ⟨w3.heap.size, 0, none⟩ = some (.int .i64 l) := T5.cell 0
      have y1 : w5.cell? ⟨w3.heap.size, 1, none⟩ = some (.int .i64 bb) := T5.cell 1
      have y2 : w5.cell? ⟨w3.heap.size, 2, none⟩ = some (.slice pt cs.length ct) := T5.cell 2
      have f0 := T5.free 0
      have f1 := T5.free 1
      have f2 := T5.free 2
      have ht5 := T5.lt
      have hovn : ∀ j, Value.ownBlock (.slice p5 cs'.length c5) = some j → j ≠ g ∧ j ≠ h ∧ j ≠ w3.heap.size := by
        rcases own6 with h' | h'
        · rw [h']; exact hov
        · intro j hj
          have hj9 := h' j hj
          exact ⟨by omega, by omega, by omega⟩
      obtain ⟨hL1, hL2, hL3⟩ := Hlim.out
      have hpos := hL1.tab.pos_len
      have hlt5 : ∀ j, Value.ownBlock (.slice p5 cs'.length c5) = some j → j < w5.heap.size := by
        rcases r5.ltE with h' | h'
        · rw [h'] at hpos; simp at hpos
        · exact h'
      have n5 : ∀ j, Value.ownBlock (.slice p5 cs'.length c5) = some j → j ≠ w3.heap.size := fun j hj => (hovn j hj).2.2
      have T6 := (((T5.set 0 (.int .i64 l)).set 1 (.int .i64 bb')).set 2 (.slice p5 cs'.length c5)).alloc (.cells #[.int .i64 l, .int .i64 bb', .slice p5 cs'.length c5] 31)
      have hxn : w.heap.size ≠ w3.heap.size := by omega
      have hon : wr.heap.size ≠ w3.heap.size := by omega
      have X6 := (((X5.set_other 0 (.int .i64 l) hxn).set_other 1 (.int .i64 bb') hxn).set_other 2 (.slice p5 cs'.length c5) hxn).alloc (.cells #[.int .i64 l, .int .i64 bb', .slice p5 cs'.length c5] 31)
      have O6 := (((O5.set_other 0 (.int .i64 l) hon).set_other 1 (.int .i64 bb') hon).set_other 2 (.slice p5 cs'.length c5) hon).alloc (.cells #[.int .i64 l, .int .i64 bb', .slice p5 cs'.length c5] 31)
      have tc : Tch w3.heap.size w3.heap.size w5 (((w5.setCell ⟨w3.heap.size, 0, none⟩ (.int .i64 l)).setCell ⟨w3.heap.size, 1, none⟩ (.int .i64 bb')).setCell ⟨w3.heap.size, 2, none⟩ (.slice p5 cs'.length c5)) := ((Tch.set1 _ _ _).trans (Tch.set1 _ _ _)).trans (Tch.set1 _ _ _)
      have dv6 := (dv5.tch tc hgn hgn hhn hhn).below ((Below.refl _ _).alloc (Nat.le_refl _) (.cells #[.int .i64 l, .int .i64 bb', .slice p5 cs'.length c5] 31)) (Nat.le_refl _)
      have r6 := (rd_setH (rd_setH (rd_setH r5 n5 0 (.int .i64 l)) n5 1 (.int .i64 bb')) n5 2 (.slice p5 cs'.length c5)).alloc (.cells #[.int .i64 l, .int .i64 bb', .slice p5 cs'.length c5] 31)
      have hnl : w.heap.size ≤ w3.heap.size := by omega
      have hbl6 := (((hbl5.setCell (p := ⟨w3.heap.size, 0, none⟩) hnl (.int .i64 l)).setCell (p := ⟨w3.heap.size, 1, none⟩) hnl (.int .i64 bb')).setCell (p := ⟨w3.heap.size, 2, none⟩) hnl (.slice p5 cs'.length c5)).alloc (by rw [World.size_setCell, World.size_setCell, World.size_setCell]; exact hbl5.size) (.cells #[.int .i64 l, .int .i64 bb', .slice p5 cs'.length c5] 31)
      have hs6 : ((((w5.setCell ⟨w3.heap.size, 0, none⟩ (.int .i64 l)).setCell ⟨w3.heap.size, 1, none⟩ (.int .i64 bb')).setCell ⟨w3.heap.size, 2, none⟩ (.slice p5 cs'.length c5)).alloc (.cells #[.int .i64 l, .int .i64 bb', .slice p5 cs'.length c5] 31)).heap.size = w5.heap.size + 1 := by simp
      go_upto_region 14 with fail
      generalize ((((w5.setCell ⟨w3.heap.size, 0, none⟩ (.int .i64 l)).setCell ⟨w3.heap.size, 1, none⟩ (.int .i64 bb')).setCell ⟨w3.heap.size, 2, none⟩ (.slice p5 cs'.length c5)).alloc (.cells #[.int .i64 l, .int .i64 bb', .slice p5 cs'.length c5] 31)) = w6 at *
      have FX := hid (fun W (z : Blk W w3.heap.size #[.int .i64 l, .int .i64 bb', .slice p5 cs'.length c5] 31) (y : Blk W wr.heap.size #[.int .i64 kind, .int .i64 id, .int .i64 c] 34) => show W.cell? ⟨w3.heap.size, 2, none⟩ = some (.slice p5 cs'.length c5) ∧ W.cell? ⟨wr.heap.size, 0, none⟩ = some (.int .i64 kind) ∧ W.cell? ⟨wr.heap.size, 1, none⟩ = some (.int .i64 id) ∧ W.cell? ⟨wr.heap.size, 2, none⟩ = some (.int .i64 c) from ⟨z.cell 2, y.cell 0, y.cell 1, y.cell 2⟩)
      have T7 := T6.drewN 1
      have O7 := O6.drewN 1
      have dv7 := dv6.below (below_drewN (Below.refl w6.heap.size w6) 1) (Nat.le_refl _)
      have HHN := hid hhn
      clear y0 y1 y2 f0 f1 f2 T5 X5 O5 dv5 tc r5 hbl5 T6 O6 dv6 hb5 n5
      go_region_held3 (fun w' => w'.cell? ⟨w3.heap.size, 2, none⟩ = some (.slice p5 cs'.length c5) ∧ w'.cell? ⟨wr.heap.size, 0, none⟩ = some (.int .i64 kind) ∧ w'.cell? ⟨wr.heap.size, 1, none⟩ = some (.int .i64 id) ∧ w'.cell? ⟨wr.heap.size, 2, none⟩ = some (.int .i64 c))
        (first
          | exact FX.out _ T7 O7
          | exact FX.out _ T8 O8)
        (first
          | (go_at_call 9; refine (PD.out _ h dv7).mono ?_; rintro e w7 ⟨rfl, h', D7, hh', tc7⟩
             dsimp only at D7 ⊢
             have T8 := T7.keep (tc7.block _ T7.lt (fun e => hgn e.symm) (fun e => HHN.out e.symm))
             have O8 := O7.keep (tc7.block _ O7.lt (by omega) (by omega)))
          | (go_at_call 10; refine (p_size D7.1).mono ?_; rintro e w8 ⟨rfl, rfl⟩))
      all_goals
        have X7 := (X6.drewN 1).keep (tc7.block _ (X6.drewN 1).lt (by omega) (by omega))
        have r7 := (r6.drewN 1).tch tc7 (fun e => (hovn g e).1 rfl) (fun e => (hovn h e).2.1 rfl)
        have hB7 := (below_drewN hbl6 1).trans (tc7.below (B := w.heap.size) (by omega) (by omega) (by have := (below_drewN hbl6 1).size; exact this))
        have hs7 : w6.heap.size ≤ w7.heap.size := tc7.size
        have hh7 : h' ≠ w3.heap.size ∧ w.heap.size < h' ∧ (∀ j, Value.ownBlock (.slice p5 cs'.length c5) = some j → j ≠ h') := by
          have hss : (w6.drewN 1).heap.size = w6.heap.size := rfl
          rcases hh' with e | e
          · subst e; exact ⟨HHN.out, hhw, fun j hj => (hovn j hj).2.1⟩
          · exact ⟨by omega, by omega, fun j hj => by have := hlt5 j hj; omega⟩
        obtain ⟨hh1, hh2, hh3⟩ := hh7
        clear FX T7 O7 O8 dv7 X6 r6 hbl6 PD
        go_wp2_with fail
        go_roundg (os.length - (k + 1))
        case rel => exact ⟨k + 1, bb', h', cs', _, by go_num, by omega, Nat.le_refl _, D7, hL2, by omega, hh1, hh2, T8, X7, r7, fun j hj => ⟨(hovn j hj).1, hh3 j hj, (hovn j hj).2.2⟩, hB7⟩
        case measure => omega
    · obtain rfl : k = os.length := by omega
      have z0 : decide ((os.length : Int) < (os.length : Int)) = false := decide_eq_false (by omega)
      have y0 : wr.cell? ⟨w3.heap.size, 0, none⟩ = some (.int .i64 l) := T.cell 0
      have y1 : wr.cell? ⟨w3.heap.size, 1, none⟩ = some (.int .i64 bb) := T.cell 1
      have y2 : wr.cell? ⟨w3.heap.size, 2, none⟩ = some (.slice pt cs.length ct) := T.cell 2
      have V := hid dv.2
      have hcl : cs.length ≤ 400008 := hbits.2
      have hb18 : bb ≤ 18 := hbits.1
      have PS := hid (fun W (y : PnV W g h l bb cs) (i : Int) => p_slot i y.1)
      have PW := hid (fun W (y : PnV W g h l bb cs) => p_walk a0 y (by omega) hbb ⟨hi0, hi1⟩)
      have RW := hid (fun W (y : RdN W (.slice pt cs.length ct) cs) => h_walk (l := l) a0 y V.out hbb (by omega) ⟨hi0, hi1⟩)
      clear Ho R0 hlim hgk hbits hov hlen h6 h1
      obtain ⟨pw, epw⟩ : ∃ x, pWalk l bb cs a0 = x := ⟨_, rfl⟩
      rw [epw] at PW RW
      clear epw
      obtain ⟨w9, rfl⟩ : ∃ x, x = wr := ⟨_, rfl⟩
      go_wp2_with fail
      go_loopg [79] cs.length (fun gn i wq => ∃ j : Nat, i = .int .i64 j ∧ j ≤ cs.length ∧ cs.length - j ≤ gn ∧ Below w9.heap.size w9 wq)
      case atStart => exact ⟨0, rfl, Nat.zero_le _, Nat.le_refl _, Below.refl _ _⟩
      case round =>
        obtain ⟨wq, rfl⟩ : ∃ x, x = wr := ⟨_, rfl⟩
        obtain ⟨j, rfl, hj, hgj, hbq⟩ := hrel
        have Dq := dv.below hbq (Nat.le_refl _)
        have rq := rv.below hbq (Nat.le_refl _)
        by_cases hjn : j < cs.length
        · obtain ⟨gs, off, y, x, hp, ex, hgs, q0, q1⟩ := rq.at hjn
          subst hp
          have eS : pSlot cs (j : Int) = (y, x) := by unfold pSlot; rw [if_neg (by omega), Int.toNat_natCast, ex]
          have SL := hid (fun W (z : PnV W g h l bb cs) => PS.out W z (j : Int))
          rw [eS] at SL
          have hne := node_eq y x y x
          have hjl : decide ((j : Int) < (cs.length : Int)) = true := decide_eq_true (by omega)
          have Nq := Blk.new wq #[.int .i64 y, .int .i64 x] 40
          have hbn : Below wq.heap.size wq (wq.alloc (.cells #[.int .i64 y, .int .i64 x] 40)) := (Below.refl _ _).alloc (Nat.le_refl _) _
          have Dn := Dq.below hbn (Nat.le_refl _)
          have hbq2 := hbq.trans (hbn.mono hbq.size)
          have hsn : (wq.alloc (.cells #[.int .i64 y, .int .i64 x] 40)).heap.size = wq.heap.size + 1 := by simp
          clear eS ex PW RW
          go_upto_region 20 with fail
          generalize (wq.alloc (.cells #[.int .i64 y, .int .i64 x] 40)) = wn at *
          have FX := hid (fun W (hb : Below wn.heap.size wn W) => show W.cell? ⟨wq.heap.size, 0, none⟩ = some (.int .i64 y) ∧ W.cell? ⟨wq.heap.size, 1, none⟩ = some (.int .i64 x) from ⟨(Nq.below hb (Nat.le_refl _)).cell 0, (Nq.below hb (Nat.le_refl _)).cell 1⟩)
          have hB1 : Below wn.heap.size wn (wn.drewN 1) := below_drewN (Below.refl wn.heap.size wn) 1
          have D1 := Dn.below hB1 (Nat.le_refl _)
          go_region_held3 (fun w' => w'.cell? ⟨wq.heap.size, 0, none⟩ = some (.int .i64 y) ∧ w'.cell? ⟨wq.heap.size, 1, none⟩ = some (.int .i64 x))
            (first
              | exact FX.out _ hB1
              | exact FX.out _ hBn)
            (first
              | (go_at_call 11; refine (SL.out _ D1).mono ?_; rintro e w8 ⟨rfl, hb8⟩
                 have hBn := hB1.trans (hb8.mono hB1.size)))
          all_goals
            have hbz := hbq2.trans (hBn.mono hbq2.size)
            go_wp2_with fail
            go_roundg (cs.length - (j + 1))
            case rel => exact ⟨j + 1, by go_num, by omega, Nat.le_refl _, hbz⟩
            case measure => omega
        · obtain rfl : j = cs.length := by omega
          have z1 : decide ((cs.length : Int) < (cs.length : Int)) = false := decide_eq_false (by omega)
          have Tq := T.below hbq (Nat.le_refl _)
          have Xq := X.below hbq (Nat.le_refl _)
          have hbw := hbl.trans (hbq.mono hwr)
          clear y0 y1 y2 T X rv dv hbq hbl
          have x0 : wq.cell? ⟨w.heap.size, 0, none⟩ = some (.int .i64 a0) := Xq.cell 0
          have x1 : wq.cell? ⟨w.heap.size, 1, none⟩ = some (.int .i64 a1) := Xq.cell 1
          have y2 : wq.cell? ⟨w3.heap.size, 2, none⟩ = some (.slice pt cs.length ct) := Tq.cell 2
          go_upto_region 24 with fail
          go_cut [107] (fun b wx => b = .bool false ∧ Below wq.heap.size wq wx)
          case first =>
            by_cases hr1 : a1 < 0
            · have eS : pSlot cs a1 = (0, 0) := by unfold pSlot; rw [if_pos hr1]
              have SL := hid (PS.out wq Dq a1)
              rw [eS] at SL
              have hne := node_eq 0 0 0 0
              have hd : decide (a1 < 0) = true := decide_eq_true hr1
              clear eS PS
              go_wp2_with fail
              refine SL.out.mono ?_
              rintro e w8 ⟨rfl, hb8⟩
              go_wp2_with fail
              go_meet
              exact ⟨by simp, hb8⟩
            · have hd : decide (a1 < 0) = false := decide_eq_false hr1
              by_cases hr2 : (cs.length : Int) ≤ a1
              · have eS : pSlot cs a1 = (0, 0) := by
                  unfold pSlot
                  rw [if_neg hr1]
                  simp [List.getD, List.getElem?_eq_none (show cs.length ≤ a1.toNat by omega)]
                have SL := hid (PS.out wq Dq a1)
                rw [eS] at SL
                have hne := node_eq 0 0 0 0
                have hd2 : decide ((cs.length : Int) ≤ a1) = true := decide_eq_true hr2
                clear eS PS
                go_wp2_with fail
                refine SL.out.mono ?_
                rintro e w8 ⟨rfl, hb8⟩
                go_wp2_with fail
                go_meet
                exact ⟨by simp, hb8⟩
              · have hd2 : decide ((cs.length : Int) ≤ a1) = false := decide_eq_false hr2
                clear PS
                go_wp2_with fail
                go_meet
                exact ⟨by simp, Below.refl _ _⟩
          case rest =>
            obtain ⟨rfl, hb8⟩ := hcut
            obtain ⟨w8, rfl⟩ : ∃ x, x = wc := ⟨_, rfl⟩
            have T8 := Tq.below hb8 (Nat.le_refl _)
            have X8 := Xq.below hb8 (Nat.le_refl _)
            have D8 := Dq.below hb8 (Nat.le_refl _)
            have r8 := rq.below hb8 (Nat.le_refl _)
            have hb9 := hbw.trans (hb8.mono hbw.size)
            clear x0 x1 y2 Tq Xq Dq rq hbw hb8 PS
            go_upto_region 26 with fail
            have FX := hid (fun W (hb : Below w8.heap.size w8 W) => show W.cell? ⟨w.heap.size, 0, none⟩ = some (.int .i64 a0) ∧ W.cell? ⟨w3.heap.size, 0, none⟩ = some (.int .i64 l) ∧ W.cell? ⟨w3.heap.size, 1, none⟩ = some (.int .i64 bb) ∧ W.cell? ⟨w3.heap.size, 2, none⟩ = some (.slice pt cs.length ct) from ⟨(X8.below hb (Nat.le_refl _)).cell 0, (T8.below hb (Nat.le_refl _)).cell 0, (T8.below hb (Nat.le_refl _)).cell 1, (T8.below hb (Nat.le_refl _)).cell 2⟩)
            have hB1 : Below w8.heap.size w8 (w8.drewN 1) := below_drewN (Below.refl w8.heap.size w8) 1
            go_region_held3 (fun w' => w'.cell? ⟨w.heap.size, 0, none⟩ = some (.int .i64 a0) ∧ w'.cell? ⟨w3.heap.size, 0, none⟩ = some (.int .i64 l) ∧ w'.cell? ⟨w3.heap.size, 1, none⟩ = some (.int .i64 bb) ∧ w'.cell? ⟨w3.heap.size, 2, none⟩ = some (.slice pt cs.length ct))
              (first
                | exact FX.out _ hB1
                | exact FX.out _ hBn)
              (first
                | (go_at_call 12; have hBa := ‹Below w8.heap.size w8 _›; refine (PW.out _ (D8.below hBa (Nat.le_refl _))).mono ?_; rintro e w5 ⟨rfl, hb5⟩
                   have hBn := hBa.trans (hb5.mono hBa.size))
                | (go_at_call 13; have hBa := ‹Below w8.heap.size w8 _›; refine (RW.out _ (r8.below hBa (Nat.le_refl _))).mono ?_; rintro e w5 ⟨rfl, hb5⟩
                   have hBn := hBa.trans (hb5.mono hBa.size))
                | (go_at_call 5; have hBa := ‹Below w8.heap.size w8 _›; refine (A.out _).mono ?_; rintro e w5 ⟨rfl, hb5⟩
                   have hBn := hBa.trans (hb5.mono hBa.size)))
            all_goals
              have hbz := hb9.trans (hBn.mono hb9.size)
              clear FX PW RW A
              go_wp2_with fail
              go_ret
              exact ⟨rfl, hbz⟩
end Go.Proofs.Ytbbkfjbaocpknaa
