/- Texts laid together. -/
import Derived.Test.YtlciofheonbkiaaGreatQ17
import Derived.Test.YtlciofheonbkiaaGreatQ21
import Derived.Test.YtlciofheonbkiaaGreatQ15
import Derived.Test.YtlciofheonbkiaaGreatQ14
import Derived.Deep.RegionHeldLaw
/- The walks of a hop. -/
namespace Go.Proofs.YtlciofheonbkiaaGreat
open Go.RowKit Nl

theorem blkHA {X w9 : World} {arr : Array Value} {T : TypeId} (hb : Below (X.alloc (.cells arr T)).heap.size (X.alloc (.cells arr T)) w9) : Blk w9 X.heap.size arr T := (Blk.new X arr T).below hb (Nat.le_refl _)
theorem blkHD {X w9 : World} {arr : Array Value} {T : TypeId} (hb : Below (X.alloc (.cells arr T)).drew.heap.size (X.alloc (.cells arr T)).drew w9) : Blk w9 X.heap.size arr T := ((Blk.new X arr T).drewN 1).below hb (Nat.le_refl _)
set_option maxRecDepth 100000 in
set_option maxHeartbeats 4000000 in
theorem hp_0 {w : World} {B0 c : Nat} {l : Int} {vd vb : Value} {rs : List Rec} {X : List Int} (kd on ot x wt : Int) (ok : HopE.ok ⟨kd, on, ot, x, wt⟩) (C : Crowd w B0 l c vd vb rs) (T : CrowdT l rs X) (hX : X.length < 150) (n1 : 1 ≤ rs.length) (n5 : rs.length ≤ 5) (hkd : kd ≠ 1 ∧ kd ≠ 2 ∧ kd ≠ 3 ∧ kd ≠ 4 ∧ kd ≠ 5 ∧ kd ≠ 6 ∧ kd ≠ 7 ∧ kd ≠ 8 ∧ kd ≠ 9) :
    Calls Tryz.prog 8 #[.pointer (some ⟨c, 0, none⟩), .agg #[.int .i64 kd, .int .i64 on, .int .i64 ot, .int .i64 x, .int .i64 wt]] w (HopP (CB vd vb rs) B0 l c vd vb rs.length X w) := by
  obtain ⟨D, cd, E, ce, rfl, rfl, -, -⟩ := C.shape n1
  have SD : CB (.slice (some ⟨D, 0, none⟩) rs.length cd) (.slice (some ⟨E, 0, none⟩) rs.length ce) rs D := .inl rfl
  have SE : CB (.slice (some ⟨D, 0, none⟩) rs.length cd) (.slice (some ⟨E, 0, none⟩) rs.length ce) rs E := .inr (.inl rfl)
  have SR : ∀ j (h : j < rs.length) b, rs[j].B b → CB (.slice (some ⟨D, 0, none⟩) rs.length cd) (.slice (some ⟨E, 0, none⟩) rs.length ce) rs b := fun j h b p => .inr (.inr ⟨j, h, p⟩)
  generalize CB (.slice (some ⟨D, 0, none⟩) rs.length cd) (.slice (some ⟨E, 0, none⟩) rs.length ce) rs = S at *
  obtain ⟨N, eN⟩ : ∃ N, rs.length = N := ⟨_, rfl⟩
  obtain ⟨-, ok1, ok2, ok3, ok4⟩ := ok
  have hI := atV_lt on n1
  have hJ := atV_lt ot n1
  have A1 := hid (fun W => t_at on rs.length W ok1 n1 n5)
  have A2 := hid (fun W => t_at ot rs.length W ok2 n1 n5)
  obtain ⟨I, eI⟩ : ∃ I, atV on rs.length = I := ⟨_, rfl⟩
  obtain ⟨J, eJ⟩ : ∃ J, atV ot rs.length = J := ⟨_, rfl⟩
  rw [eI] at hI A1
  rw [eJ] at hJ A2
  have HCW := hid C
  have X0 := Blk.new w #[.int .i64 kd, .int .i64 on, .int .i64 ot, .int .i64 x, .int .i64 wt] 30
  have hb0 : Below w.heap.size w (w.alloc (.cells #[.int .i64 kd, .int .i64 on, .int .i64 ot, .int .i64 x, .int .i64 wt] 30)) := (Below.refl _ _).alloc (Nat.le_refl _) _
  have C1 := C.below hb0
  have hcw := C.blk.lt
  rw [eN] at A1 A2 n1 n5 C1 ⊢
  have EN := hid eN
  have hIN : I < N := by omega
  have hJN : J < N := by omega
  have Cw := hid (fun W (y : Crowd W B0 l c (.slice (some ⟨D, 0, none⟩) N cd) (.slice (some ⟨E, 0, none⟩) N ce) rs) => y.cells eN)
  clear eI eJ eN C
  go_enter Tryz.func8, Tryz.ntmps8
  go_upto_region 1 with fail
  generalize hW : w.alloc (.cells #[.int .i64 kd, .int .i64 on, .int .i64 ot, .int .i64 x, .int .i64 wt] 30) = w1 at *
  clear hW
  have o1 : w1.cell? ⟨w.heap.size, 1, none⟩ = some (.int .i64 on) := X0.cell 1
  have o2 : w1.cell? ⟨w.heap.size, 2, none⟩ = some (.int .i64 ot) := X0.cell 2
  have c1 : w1.cell? ⟨c, 1, none⟩ = some (.slice (some ⟨D, 0, none⟩) N cd) := C1.blk.cell 1
  go_quiet ((first
    | (go_at_call_of 9 (Value.int .i64 on); exact Calls.quiet_of_same (calls_flip (A1.out _)))
    | (go_at_call_of 9 (Value.int .i64 ot); exact Calls.quiet_of_same (calls_flip (A2.out _)))))
  have hB2 := below_drewN (Below.refl w1.heap.size w1) nq
  have C2 := C1.below hB2
  have X2 := X0.below hB2 (Nat.le_refl _)
  have hs0 : B0 ≤ w.heap.size := by have := C1.base; omega
  have hb2 : ChB S w (w1.drewN nq) := ChB.of_below (hb0.trans (hB2.mono hb0.size))
  have HCW1 := hid HCW.out.rowB
  clear A1 A2 HCW C1 X0 hb0 hB2 o1 o2 c1 n5
  generalize w1.drewN nq = w2 at *
  clear w1
  obtain ⟨c1, c2, c3, c4, c5⟩ := Cw.out _ C2 I hI
  have x0 : w2.cell? ⟨w.heap.size, 0, none⟩ = some (.int .i64 kd) := X2.cell 0
  have x3 : w2.cell? ⟨w.heap.size, 3, none⟩ = some (.int .i64 x) := X2.cell 3
  have x4 : w2.cell? ⟨w.heap.size, 4, none⟩ = some (.int .i64 wt) := X2.cell 4
  have OK := C2.each I hI
  have TT := T I hI
  have NS := SR I hI
  have hzl : rs[I].zs.length ≤ 7400 := by
    have h1 := TT.zlen
    have h2 := TT.dg.roll.l2
    have h3 : l.toNat + 1 ≤ 49 := by omega
    have h4 : X.length * (l.toNat + 1) ≤ 150 * 49 := Nat.mul_le_mul (by omega) h3
    omega
  have hil : rs[I].its.length ≤ 150 := by have := TT.ilen; omega
  obtain ⟨r, er⟩ : ∃ r, r = rs[I] := ⟨_, rfl⟩
  rw [← er] at OK TT NS hzl hil c3 c5
  have ER := hid er
  have HC := hid C2
  have HT := hid T
  have hs2 : B0 ≤ w2.heap.size := by have := hb2.size; omega
  clear er T
  have l1 := TT.dg.roll.l1
  have l2 := TT.dg.roll.l2
  have IN := hid (fun W (y : DgV W r.dg r.q r.g r.h r.kind l r.k 20000 r.zs) => dg_insert y x wt (by decide) (by omega) (by omega) ok3 ok4)
  have AD := hid (fun W (y : RdN W r.v r.its) => b_add l x wt y (by omega) TT.bag l1 l2 ok3 ok4)
  obtain ⟨hcode, Y, hY1, hY2, hY3, hY4⟩ := TT.ins x wt
  obtain ⟨Z, code, eZ⟩ : ∃ a b, dgIns l r.k r.zs x wt = (a, b) := ⟨_, _, rfl⟩
  obtain ⟨R, code', eR⟩ : ∃ a b, badd l r.its x wt = (a, b) := ⟨_, _, rfl⟩
  rw [eZ] at IN hcode hY4
  rw [eR] at AD hcode hY4
  have hcode : code = code' := hcode
  subst hcode
  have hY4 : TI l r.k Z R Y := hY4
  have hnR := (HC.out.nR I hI)
  rw [← ER.out] at hnR
  obtain ⟨p0, cp0, ev⟩ := OK.rd.val
  have HK := hid OK
  have rd0 := OK.rd
  rw [ev] at c5 AD rd0
  have EV := hid ev
  have HL := hid (And.intro l1 l2)
  clear eZ eR TT OK hJ hJN l1 l2 ev hil hzl
  have zk1 : (kd == 1) = false := by simp; omega
  have zk2 : (kd == 2) = false := by simp; omega
  have zk3 : (kd == 3) = false := by simp; omega
  have zk4 : (kd == 4) = false := by simp; omega
  have zk5 : (kd == 5) = false := by simp; omega
  have zk6 : (kd == 6) = false := by simp; omega
  have zk7 : (kd == 7) = false := by simp; omega
  have zk8 : (kd == 8) = false := by simp; omega
  have zk9 : (kd == 9) = false := by simp; omega
  clear hkd
  go_upto_region 36 with fail
  go_cut [15, 16] (fun b e wx => CutB l R code (.slice p0 r.its.length cp0) w2 b e wx)
  case first =>
    have FX := hid (fun W (q : Below w2.heap.size w2 W) => (show W.cell? ⟨w.heap.size, 3, none⟩ = some (.int .i64 x) ∧ W.cell? ⟨w.heap.size, 4, none⟩ = some (.int .i64 wt) ∧ W.cell? ⟨c, 2, none⟩ = some (.slice (some ⟨E, 0, none⟩) N ce) ∧ W.cell? ⟨E, I * 2, none⟩ = some (.int .i64 l) ∧ W.cell? ⟨E, I * 2 + 1, none⟩ = some (.slice p0 r.its.length cp0) ∧ Below w2.heap.size w2 W from by
      have X3 := X2.below q (Nat.le_refl _)
      have C3 := (HC.out.below q).cells EN.out I hI
      rw [← ER.out, EV.out] at C3
      exact ⟨X3.cell 3, X3.cell 4, C3.2.1, C3.2.2.2.1, C3.2.2.2.2, q⟩))
    have hB1 : Below w2.heap.size w2 (w2.drewN 1) := below_drewN (Below.refl w2.heap.size w2) 1
    have RD0 := hid rd0
    have AD2 := hid (fun W (q : Below w2.heap.size w2 W) => AD.out W (rd0.below q (Nat.le_refl _)))
    clear rd0 AD IN hY4 hY1 hY2 hY3
    go_region_held3 (fun W => W.cell? ⟨w.heap.size, 3, none⟩ = some (.int .i64 x) ∧ W.cell? ⟨w.heap.size, 4, none⟩ = some (.int .i64 wt) ∧ W.cell? ⟨c, 2, none⟩ = some (.slice (some ⟨E, 0, none⟩) N ce) ∧ W.cell? ⟨E, I * 2, none⟩ = some (.int .i64 l) ∧ W.cell? ⟨E, I * 2 + 1, none⟩ = some (.slice p0 r.its.length cp0) ∧ Below w2.heap.size w2 W)
      (first
        | exact FX.out _ hB1
        | exact FX.out _ hBn
        | exact FX.out _ (hB1.alloc (Nat.le_refl _) _)
        | exact FX.out _ (hBn.alloc hBn.size _)
        | exact FX.out _ ((hBn.setCell (p := ⟨w2.heap.size, 0, none⟩) (Nat.le_refl _) _).setCell (p := ⟨w2.heap.size, 1, none⟩) (Nat.le_refl _) _)
        | exact FX.out _ ((hBn.setCell (p := ⟨w5.heap.size, 0, none⟩) hw5s _).setCell (p := ⟨w5.heap.size, 1, none⟩) hw5s _))
      ((go_at_call 36; have hBa := (‹_ ∧ _ ∧ _ ∧ _ ∧ _ ∧ Below w2.heap.size w2 _›).2.2.2.2.2; refine (AD2.out _ hBa).mono ?_; rintro e w5 ⟨v5, rfl, rd5, hv5, hb5⟩
        have hBn := hBa.trans (hb5.mono hBa.size)
        have hw5s : w2.heap.size ≤ w5.heap.size := hBn.size
        obtain ⟨p5, c5, rfl⟩ := rd5.val
        try have KB := blkHA hb5
        try have KB := blkHD hb5
        try have kc0 : World.cell? w5 ⟨_, 0, none⟩ = some (.int .i64 0) := KB.cell 0
        try have kc1 : World.cell? w5 ⟨_, 1, none⟩ = some (.slice none 0 0) := KB.cell 1
        try have kf0 := KB.free 0
        try have kf1 := KB.free 1
        try have kl := KB.lt))
    all_goals
      clear FX AD2
      go_wp2_with fail
      go_meet
      first
        | exact CutB.ofB rd5 hv5 hBn
        | exact CutB.ofA rfl KB rd5 (hv5.imp id (fun h k hk => by have := h k hk; simp at this; omega)) RD0.out hBn
  case rest =>
    obtain ⟨a, p5, cp5, rfl, rfl, KB, rd5, hv5, ha, hb5⟩ := hcut
    obtain ⟨w5, rfl⟩ : ∃ x, x = wc := ⟨_, rfl⟩
    have C5 := HC.out.below hb5
    obtain ⟨-, c2, -, c4, c5⟩ := C5.cells EN.out I hI
    have b0 : w5.cell? ⟨a, 0, none⟩ = some (.int .i64 l) := KB.cell 0
    have b1 : w5.cell? ⟨a, 1, none⟩ = some (.slice p5 R.length cp5) := KB.cell 1
    have kf0 := row_free C5.rowB (I * 2)
    have kf1 := row_free C5.rowB (I * 2 + 1)
    have kl := (World.ownsRow.lt C5.rowB E rfl).2
    have kb := (World.ownsRow.lt C5.rowB E rfl).1
    have C6 := C5.setL EN.out I hI
    have hnE : ∀ j (hj : j < rs.length) b, rs[j].B b → b ≠ E := fun j hj b hb e => (C5.nR j hj b hb).2.2 (by rw [e]; rfl)
    have rd6 : RdN (w5.setCell ⟨E, I * 2, none⟩ (.int .i64 l)) (.slice p5 R.length cp5) R := by
      by_cases he : R = []
      · subst he; exact rd_empty rd5
      · refine rd5.keep (fun b _ hb => Below.heap_setCell _ ⟨E, I * 2, none⟩ _ b ?_) (by simp)
        rcases hv5 with e | h
        · have he0 : r.its ≠ [] := fun h0 => he (by
            simp only [Value.slice.injEq] at e
            rw [h0] at e
            exact List.length_eq_zero_iff.1 (by simpa using e.2.1))
          intro e2
          have := (HC.out.nV I hI (by rw [← ER.out]; exact he0) b (by rw [← ER.out, EV.out, ← e]; exact hb)).2.2.1
          exact this (by rw [e2]; rfl)
        · have h1 := h b hb
          have := (World.ownsRow.lt HC.out.rowB E rfl).2
          show b ≠ E
          omega
    have C7 := C6.newB EN.out I hI rd6 (by
      rcases hv5 with e | h
      · left; rw [← ER.out, EV.out, e]
      · right; intro b hb
        obtain ⟨q1, q2, q3, q4, q5, q6⟩ := HC.out.off b (h b hb)
        exact ⟨q1, q3, fun e => q2 (Option.some.inj e).symm, q5⟩)
    have hl7 : (rs.set I (rs[I].bag R (.slice p5 R.length cp5))).length = N := by rw [List.length_set]; exact EN.out
    have hI7 : I < (rs.set I (rs[I].bag R (.slice p5 R.length cp5))).length := by rw [hl7]; exact hIN
    have D7 := (C7.each I hI7).d
    have HC7 := hid C7
    rw [List.getElem_set_self] at D7
    have ER7 := hid ER.out
    have D7 : DgV ((w5.setCell ⟨E, I * 2, none⟩ (.int .i64 l)).setCell ⟨E, I * 2 + 1, none⟩ (.slice p5 R.length cp5)) rs[I].dg rs[I].q rs[I].g rs[I].h rs[I].kind l rs[I].k 20000 rs[I].zs := D7
    rw [← ER.out] at D7
    have X5 := X2.below hb5 (Nat.le_refl _)
    have hEb : w.heap.size ≠ E := fun e => by have := (World.ownsRow.lt HCW1.out E rfl).2; omega
    have X7 := (X5.set_other (I * 2) (.int .i64 l) hEb).set_other (I * 2 + 1) (.slice p5 R.length cp5) hEb
    have hb7 := ((hb2.add hb5).setS ⟨E, I * 2, none⟩ SE (.int .i64 l)).setS ⟨E, I * 2 + 1, none⟩ SE (.slice p5 R.length cp5)
    have hB7 := below_drewN (Below.refl ((w5.setCell ⟨E, I * 2, none⟩ (.int .i64 l)).setCell ⟨E, I * 2 + 1, none⟩ (.slice p5 R.length cp5)).heap.size ((w5.setCell ⟨E, I * 2, none⟩ (.int .i64 l)).setCell ⟨E, I * 2 + 1, none⟩ (.slice p5 R.length cp5))) 1
    have IN7 := hid (IN.out _ (D7.below hB7 (Nat.le_refl _)))
    have X7 := X7.below hB7 (Nat.le_refl _)
    have HC7 := hid (HC7.out.below hB7)
    have hb7 := hb7.add hB7
    have HY := hid (And.intro hY1 (And.intro hY2 (And.intro hY3 hY4)))
    clear C5 C6 C7 rd5 rd6 hv5 KB X2 X5 hb5 D7 IN AD rd0 x3 x4 hY1 hY2 hY3 hY4 hnE hb2 hB7
    go_upto_region 37 with fail
    go_region
    all_goals
      rw [show ((w5.setCell ⟨E, I * 2, none⟩ (.int .i64 l)).setCell ⟨E, I * 2 + 1, none⟩ (.slice p5 R.length cp5)).drew = ((w5.setCell ⟨E, I * 2, none⟩ (.int .i64 l)).setCell ⟨E, I * 2 + 1, none⟩ (.slice p5 R.length cp5)).drewN 1 from rfl]
      generalize hW : ((w5.setCell ⟨E, I * 2, none⟩ (.int .i64 l)).setCell ⟨E, I * 2 + 1, none⟩ (.slice p5 R.length cp5)).drewN 1 = w7 at *
      have x3 : w7.cell? ⟨w.heap.size, 3, none⟩ = some (.int .i64 x) := X7.cell 3
      have x4 : w7.cell? ⟨w.heap.size, 4, none⟩ = some (.int .i64 wt) := X7.cell 4
      clear hW b0 b1 kf0 kf1 kl c2 c4 c5
      go_wp2_with fail
      refine IN7.out.mono ?_
      rintro e w8 ⟨rfl, h', d8, hh, hc⟩
      have C8 := HC7.out.turn I hI7 (h' := h') (zs' := Z) (by rw [List.getElem_set_self]; show ChB (DB rs[I].dg rs[I].q rs[I].g rs[I].h) _ _; rw [← ER.out]; exact hc) (by rw [List.getElem_set_self]; show DgV w8 rs[I].dg rs[I].q rs[I].g h' rs[I].kind l rs[I].k 20000 Z; rw [← ER.out]; exact d8) (by rw [List.getElem_set_self]; show h' = rs[I].h ∨ _; rw [← ER.out]; exact hh)
      obtain ⟨hY1, hY2, hY3, hY4⟩ := HY.out
      have T8 := (HT.out.mono hY2 hY3).set2 I (rs[I].bag R (.slice p5 R.length cp5)) (r := (rs.set I (rs[I].bag R (.slice p5 R.length cp5)))[I].turn h' Z) (by rw [List.getElem_set_self]; show TI l rs[I].k Z R Y; rw [← ER.out]; exact hY4)
      have hb8 := hb7.addC hc NS
      have PP : Hid (HopP S B0 l c (.slice (some ⟨D, 0, none⟩) N cd) (.slice (some ⟨E, 0, none⟩) N ce) N X w (.returned (.bool true)) w8) :=
        ⟨rfl, _, Y, by rw [List.length_set]; exact hl7, hY1, C8, T8, hb8⟩
      clear C8 T8 hb8 hc d8 HY hY1 hY2 hY3 hY4 HC7 HC HT HK X7 hb7 IN7
      go_wp2_with fail
      go_ret
      exact PP.out
end Go.Proofs.YtlciofheonbkiaaGreat

/- The walk of the reference's Pour. -/
namespace Go.Proofs.YtlciofheonbkiaaGreat
open Go.RowKit Nl

/-- What Pour gives. -/
def BPourP (l : Int) (its ys : List Nd) (v0 : Value) (w : World) (e : Ending) (w' : World) : Prop :=
  (72057594037927935 - sumL its < sumL ys ∧ e = .returned (.tuple #[.agg #[.int .i64 l, v0], .int .i64 5]) ∧ Below w.heap.size w w') ∨
  (¬ 72057594037927935 - sumL its < sumL ys ∧ ∃ v, e = .returned (.tuple #[.agg #[.int .i64 l, v], .int .i64 0]) ∧ RdN w' v (pourR its ys) ∧ (v = v0 ∨ ∀ k, v.ownBlock = some k → w.heap.size ≤ k) ∧ Below w.heap.size w w')
def BPourRel (l : Int) (its ys : List Nd) (M : Nat) (v0 : Value) (bx : Nat) (w5 : World) (gn : Nat) (i : Value) (wr : World) : Prop :=
  ∃ (j : Nat) (v : Value), i = .int .i64 j ∧ j ≤ M ∧ M ≤ gn + j ∧ Blk wr bx #[.int .i64 l, v] 41 ∧ RdN wr v (pourR its (ys.take j)) ∧
    ((j = 0 ∧ v = v0) ∨ ∀ k, v.ownBlock = some k → bx < k) ∧ Below bx w5 wr ∧ bx < wr.heap.size
theorem Nl.pour_take {its ys : List (Int × Int)} {j : Nat} {a c : Int} (h : j < ys.length) (e : ys.getD j (0, 0) = (a, c)) : pourR its (ys.take (j + 1)) = putR a c (pourR its (ys.take j)) := by
  have e2 : ys[j] = (a, c) := by rw [← e]; simp [List.getD, h]
  rw [List.take_succ_eq_append_getElem h, e2]
  unfold pourR
  rw [List.foldl_append]; rfl
theorem ret_pour {R : Ending → World → Prop} {tmps : Array Value} {W : World} {g : Nat} {u v : Value} {l : Int} (Y : Blk W g #[.int .i64 l, v] 41) (h4 : tmps.getD 4 undef = .pointer (some ⟨g, 0, none⟩)) (h5 : tmps.getD 5 undef = u) (hR : R (.returned (.tuple #[.agg #[.int .i64 l, v], u])) W) :
    bodyPost Tryz.prog Tryz.f30 R .ret ⟨tmps, []⟩ W := by
  refine bodyPost_ret (v := .tuple #[.agg #[.int .i64 l, v], u]) ?_ rfl hR
  have y0 : W.cell? ⟨g, 0, none⟩ = some (.int .i64 l) := Y.cell 0
  have y1 : W.cell? ⟨g, 1, none⟩ = some v := Y.cell 1
  have h4' : tmps[4]?.getD undef = .pointer (some ⟨g, 0, none⟩) := by simpa using h4
  have h5' : tmps[5]?.getD undef = u := by simpa using h5
  simp [results, Tryz.results30, h4', h5', go_sem, y0, y1]
/-- What is poured so far may be added to. -/
theorem Nl.pour_pre {l : Int} {its ys : List (Int × Int)} (hb : Bag l its) (hb' : Bag l ys) (hs : sumL its + sumL ys ≤ 72057594037927935) (j : Nat) :
    Bag l (pourR its (ys.take j)) ∧ (pourR its (ys.take j)).length ≤ its.length + j := by
  have hm : ∀ (zs : List (Int × Int)), (∀ y ∈ zs, 1 ≤ y.2) → 0 ≤ sumL zs := fun zs h => sumL_nonneg (fun y hy => by have := h y hy; omega)
  have e : sumL ys = sumL (ys.take j) + sumL (ys.drop j) := by
    conv => lhs; rw [← List.take_append_drop j ys]
    rw [sumL_append]
  have h0 := hm (ys.drop j) (fun y hy => hb'.pos y (List.mem_of_mem_drop hy))
  obtain ⟨p1, -, -, -⟩ := pour_spec (ys.take j) its hb (fun y hy => ⟨hb'.val y (List.mem_of_mem_take hy), hb'.pos y (List.mem_of_mem_take hy)⟩) (by omega)
  refine ⟨p1, ?_⟩
  have key : ∀ (zs bs : List (Int × Int)), (pourR bs zs).length ≤ bs.length + zs.length := by
    intro zs
    induction zs with
    | nil => intro bs; exact Nat.le_refl _
    | cons z r ih =>
      intro bs
      have h := ih (putR z.1 z.2 bs)
      have h2 := putR_length (x := z.1) (c := z.2) bs
      show (pourR (putR z.1 z.2 bs) r).length ≤ _
      simp only [List.length_cons]
      omega
  have h3 := key (ys.take j) its
  have h4 : (ys.take j).length ≤ j := by rw [List.length_take]; omega
  omega
set_option maxRecDepth 100000 in
set_option maxHeartbeats 4000000 in
theorem b_pour {w : World} {its ys : List Nd} {v u : Value} (l : Int) (hr : RdN w v its) (hy : RdN w u ys) (hl : its.length + ys.length ≤ 10000) (hb : Bag l its) (hb' : Bag l ys) :
    Calls Tryz.prog 30 #[.agg #[.int .i64 l, v], .agg #[.int .i64 l, u]] w (BPourP l its ys v w) := by
  obtain ⟨p, cap, rfl⟩ := hr.val
  obtain ⟨p', cap', rfl⟩ := hy.val
  obtain ⟨M, eM⟩ : ∃ M, ys.length = M := ⟨_, rfl⟩
  rw [eM] at hy hl ⊢
  have EM := hid eM
  clear eM
  have s0 := sumL_nonneg hb.pos'
  have s1 := hb.most
  have s0' := sumL_nonneg hb'.pos'
  have s1' := hb'.most
  have X3 : Blk (((w.alloc (.cells #[.int .i64 l, .slice p its.length cap] 41)).alloc (.cells #[.int .i64 l, .slice p' M cap'] 41)).alloc (.cells #[.int .i64 0, .slice none 0 0] 41)) w.heap.size #[.int .i64 l, .slice p its.length cap] 41 := ((Blk.new w _ _).alloc _).alloc _
  have Y3 : Blk (((w.alloc (.cells #[.int .i64 l, .slice p its.length cap] 41)).alloc (.cells #[.int .i64 l, .slice p' M cap'] 41)).alloc (.cells #[.int .i64 0, .slice none 0 0] 41)) (w.heap.size + 1) #[.int .i64 l, .slice p' M cap'] 41 := by
    have h := (Blk.new (w.alloc (.cells #[.int .i64 l, .slice p its.length cap] 41)) #[.int .i64 l, .slice p' M cap'] 41).alloc (.cells #[.int .i64 0, .slice none 0 0] 41)
    simpa using h
  have Z3 : Blk (((w.alloc (.cells #[.int .i64 l, .slice p its.length cap] 41)).alloc (.cells #[.int .i64 l, .slice p' M cap'] 41)).alloc (.cells #[.int .i64 0, .slice none 0 0] 41)) (w.heap.size + 1 + 1) #[.int .i64 0, .slice none 0 0] 41 := by
    have h := Blk.new ((w.alloc (.cells #[.int .i64 l, .slice p its.length cap] 41)).alloc (.cells #[.int .i64 l, .slice p' M cap'] 41)) #[.int .i64 0, .slice none 0 0] 41
    simpa using h
  have hb3 : Below w.heap.size w (((w.alloc (.cells #[.int .i64 l, .slice p its.length cap] 41)).alloc (.cells #[.int .i64 l, .slice p' M cap'] 41)).alloc (.cells #[.int .i64 0, .slice none 0 0] 41)) := (((Below.refl _ _).alloc (Nat.le_refl _) _).alloc (by simp) _).alloc (by simp; omega) _
  have hr3 := hr.below hb3 (Nat.le_refl _)
  have hy3 := hy.below hb3 (Nat.le_refl _)
  go_enter Tryz.func30, Tryz.ntmps30
  go_upto_region 1 with fail
  generalize (((w.alloc (.cells #[.int .i64 l, .slice p its.length cap] 41)).alloc (.cells #[.int .i64 l, .slice p' M cap'] 41)).alloc (.cells #[.int .i64 0, .slice none 0 0] 41)) = w3 at *
  have hl3 := Z3.lt
  have zl : (l != l) = false := by simp
  have x0 : w3.cell? ⟨w.heap.size, 0, none⟩ = some (.int .i64 l) := X3.cell 0
  have y0 : w3.cell? ⟨w.heap.size + 1, 0, none⟩ = some (.int .i64 l) := Y3.cell 0
  have T1 := hid (fun W (q : Below w3.heap.size w3 W) => b_total l (hr3.below q (Nat.le_refl _)) (by omega) hb.pos' hb.most)
  have T2 := hid (fun W (q : Below w3.heap.size w3 W) => b_total l (hy3.below q (Nat.le_refl _)) (by rw [EM.out]; omega) hb'.pos' hb'.most)
  have hB0 := Below.refl w3.heap.size w3
  have FX := hid (fun W (q : Below w3.heap.size w3 W) => (show W.cell? ⟨w.heap.size, 0, none⟩ = some (.int .i64 l) ∧ W.cell? ⟨w.heap.size, 1, none⟩ = some (.slice p its.length cap) ∧ W.cell? ⟨w.heap.size + 1, 0, none⟩ = some (.int .i64 l) ∧ W.cell? ⟨w.heap.size + 1, 1, none⟩ = some (.slice p' M cap') ∧ Below w3.heap.size w3 W from
    ⟨(X3.below q (Nat.le_refl _)).cell 0, (X3.below q (Nat.le_refl _)).cell 1, (Y3.below q (Nat.le_refl _)).cell 0, (Y3.below q (Nat.le_refl _)).cell 1, q⟩))
  obtain ⟨S, eS⟩ : ∃ S, sumL its = S := ⟨_, rfl⟩
  obtain ⟨S', eS'⟩ : ∃ S, sumL ys = S := ⟨_, rfl⟩
  have hw : IntKind.i64.wrap (72057594037927935 - S) = 72057594037927935 - S := IntWalk.i64_in _ ⟨by omega, by omega⟩
  rw [eS] at T1
  rw [eS'] at T2
  have ES := hid (And.intro eS eS')
  have HW := hid hw
  clear hw eS eS'
  go_wp2_with fail
  have hw := HW.out
  go_region_held3 (fun W => W.cell? ⟨w.heap.size, 0, none⟩ = some (.int .i64 l) ∧ W.cell? ⟨w.heap.size, 1, none⟩ = some (.slice p its.length cap) ∧ W.cell? ⟨w.heap.size + 1, 0, none⟩ = some (.int .i64 l) ∧ W.cell? ⟨w.heap.size + 1, 1, none⟩ = some (.slice p' M cap') ∧ Below w3.heap.size w3 W)
    (first
      | exact FX.out _ (below_drewN hB0 1)
      | exact FX.out _ hBn)
    (first
      | (go_at_call_of 11 (Value.agg #[Value.int .i64 l, Value.slice p' M cap']); have hBa := (‹_ ∧ _ ∧ _ ∧ _ ∧ Below w3.heap.size w3 _›).2.2.2.2; refine (T2.out _ hBa).mono ?_; rintro e w5 ⟨rfl, hb5⟩
         have hBn := hBa.trans (hb5.mono hBa.size))
      | (go_at_call_of 11 (Value.agg #[Value.int .i64 l, Value.slice p its.length cap]); have hBa := (‹_ ∧ _ ∧ _ ∧ _ ∧ Below w3.heap.size w3 _›).2.2.2.2; refine (T1.out _ hBa).mono ?_; rintro e w5 ⟨rfl, hb5⟩
         have hBn := hBa.trans (hb5.mono hBa.size)))
  all_goals
    have F5 := FX.out _ hBn
    have Z5 := Z3.below hBn (Nat.le_refl _)
    have X5 := X3.below hBn (Nat.le_refl _)
    have Y5 := Y3.below hBn (Nat.le_refl _)
    have hbw5 := hb3.trans (hBn.mono hb3.size)
    obtain ⟨eS, eS'⟩ := ES.out
    clear T1 T2 FX HW hw
    by_cases hF : 72057594037927935 - S < S'
    · have z : decide (72057594037927935 - S < S') = true := decide_eq_true hF
      have x0 : w5.cell? ⟨w.heap.size, 0, none⟩ = some (.int .i64 l) := X5.cell 0
      have x1 : w5.cell? ⟨w.heap.size, 1, none⟩ = some (.slice p its.length cap) := X5.cell 1
      have z0 : w5.cell? ⟨w.heap.size + 1 + 1, 0, none⟩ = some (.int .i64 0) := Z5.cell 0
      have z1 : w5.cell? ⟨w.heap.size + 1 + 1, 1, none⟩ = some (.slice none 0 0) := Z5.cell 1
      have f0 := Z5.free 0
      have f1 := Z5.free 1
      have hzl := Z5.lt
      have Q := (Z5.set 0 (.int .i64 l)).set 1 (.slice p its.length cap)
      have hq := (hbw5.setCell (p := ⟨w.heap.size + 1 + 1, 0, none⟩) (by show _ ≤ w.heap.size + 1 + 1; omega) (.int .i64 l)).setCell (p := ⟨w.heap.size + 1 + 1, 1, none⟩) (by show _ ≤ w.heap.size + 1 + 1; omega) (.slice p its.length cap)
      go_wp2_with fail
      exact ret_pour Q rfl rfl (.inl ⟨by rw [eS, eS']; exact hF, rfl, hq⟩)
    · have z : decide (72057594037927935 - S < S') = false := decide_eq_false hF
      have x0 : w5.cell? ⟨w.heap.size, 0, none⟩ = some (.int .i64 l) := X5.cell 0
      have x1 : w5.cell? ⟨w.heap.size, 1, none⟩ = some (.slice p its.length cap) := X5.cell 1
      have hY1 : w.heap.size + 1 < w5.heap.size := Y5.lt
      have hZ1 : w.heap.size + 1 + 1 < w5.heap.size := Z5.lt
      have N6 := Blk.new w5 #[.int .i64 l, .slice p its.length cap] 41
      have hb6 : Below w5.heap.size w5 (w5.alloc (.cells #[.int .i64 l, .slice p its.length cap] 41)) := (Below.refl _ _).alloc (Nat.le_refl _) _
      have hr6 := (hr.below hbw5 (Nat.le_refl _)).below hb6 (Nat.le_refl _)
      have R0 : Hid (BPourRel l its ys M (.slice p its.length cap) w5.heap.size w5 M (.int .i64 0) (w5.alloc (.cells #[.int .i64 l, .slice p its.length cap] 41))) :=
        ⟨0, _, rfl, Nat.zero_le _, Nat.le_refl _, N6, hr6, .inl ⟨rfl, rfl⟩, hb6, by simp⟩
      have HY5 := hid Y5
      have HZ5 := hid Z5
      have HB5 := hid hbw5
      have hys5 := hid (hy.below hbw5 (Nat.le_refl _))
      have HP := hid (pour_pre hb hb' (show sumL its + sumL ys ≤ 72057594037927935 by rw [eS, eS']; omega))
      have HF := hid (show ¬ 72057594037927935 - sumL its < sumL ys by rw [eS, eS']; exact hF)
      clear N6 hb6 hr6 Y5 Z5 X5 hbw5
      go_wp2_with fail
      go_loopg [7] M (fun gn i wr => BPourRel l its ys M (.slice p its.length cap) w5.heap.size w5 gn i wr)
      case atStart => exact R0.out
      case round =>
        obtain ⟨j, v, rfl, hj, hgn, Yb, hrj, hvj, hbj, hlb⟩ := hrel
        have Y6 := HY5.out.below hbj (Nat.le_refl _)
        have yc : wr.cell? ⟨w.heap.size + 1, 1, none⟩ = some (.slice p' M cap') := Y6.cell 1
        have ys6 := hys5.out.below hbj (Nat.le_refl _)
        obtain ⟨hBg, hBl⟩ := HP.out j
        by_cases hlt : j < M
        · have hlt' : j < ys.length := by rw [EM.out]; exact hlt
          obtain ⟨gs, off, a, c, hp, hac, hgs, q0, q1⟩ := ys6.at hlt'
          have z0 : decide ((j : Int) < (M : Int)) = true := decide_eq_true (by omega)
          have hmem : (a, c) ∈ ys := by rw [← hac]; simp [List.getD, hlt']
          have PT := hid (fun W (q : RdN W v (pourR its (ys.take j))) => b_put l a c q (by omega) hBg.pos' hBg.rise hBg.most ⟨by have := hb'.pos _ hmem; omega, by have h1 := hb'.pos _ hmem; have := Pos.le_sum hb'.pos' _ hmem; have := hb'.most; omega⟩)
          have st := pour_take (its := its) hlt' hac
          have hYb := hid Yb
          have b0 : wr.cell? ⟨w5.heap.size, 0, none⟩ = some (.int .i64 l) := Yb.cell 0
          have b1 : wr.cell? ⟨w5.heap.size, 1, none⟩ = some v := Yb.cell 1
          obtain ⟨A, eA⟩ : ∃ A, pourR its (ys.take j) = A := ⟨_, rfl⟩
          obtain ⟨A2, eA2⟩ : ∃ A, pourR its (ys.take (j + 1)) = A := ⟨_, rfl⟩
          have EA := hid eA2
          rw [eA2] at st
          rw [eA] at hrj PT st
          rw [← st] at PT
          have hH := hid (And.intro hbj (And.intro hlb hgn))
          have hVJ := hid hvj
          subst hp
          have hM10 : M ≤ 10000 := by omega
          clear hlt' eA eA2 hBg hBl hgn hbj hlb hvj hac hmem R0 hY1 hZ1 st HF hl s0 s1 s0' s1' F5 x0 x1
          have hB9 := Below.refl wr.heap.size wr
          have PT2 := hid (PT.out (wr.drewN 1) (hrj.below (below_drewN hB9 1) (Nat.le_refl _)))
          have hA := hid hrj
          have hjl : (j : Int) < (M : Int) := by omega
          clear hrj PT Yb Y6 ys6
          go_upto_region 9 with fail
          go_region_with ((go_at_call 78; refine PT2.out.mono ?_; rintro e w7 ⟨v7, rfl, ho7, hb7⟩; obtain ⟨p7, c7, rfl⟩ := ho7.val; have hBn := (below_drewN hB9 1).trans (hb7.mono (Nat.le_refl _)); have Y7 := hYb.out.below hBn (Nat.le_refl _); have k0 : World.cell? w7 ⟨w5.heap.size, 0, none⟩ = some (.int .i64 l) := Y7.cell 0; have k1 : World.cell? w7 ⟨w5.heap.size, 1, none⟩ = some v := Y7.cell 1; have g0 := Y7.free 0; have g1 := Y7.free 1; have hyl7 := Y7.lt))
          all_goals
            obtain ⟨hbj, hlb, hgn⟩ := hH.out
            have Y8 := (Y7.set 0 (.int .i64 l)).set 1 (.slice p7 A2.length c7)
            have lt7 := ho7.lt
            have r8 : RdN ((w7.setCell ⟨w5.heap.size, 0, none⟩ (.int .i64 l)).setCell ⟨w5.heap.size, 1, none⟩ (.slice p7 A2.length c7)) (.slice p7 A2.length c7) A2 := ho7.rd.keep (fun g _ hg => by
              have : wr.heap.size ≤ g := lt7 g hg
              rw [Below.heap_setCell _ ⟨w5.heap.size, 1, none⟩ _ _ (by show g ≠ w5.heap.size; omega), Below.heap_setCell _ ⟨w5.heap.size, 0, none⟩ _ _ (by show g ≠ w5.heap.size; omega)]) (by simp)
            have hb8 := ((hbj.trans (hBn.mono hbj.size)).setCell (p := ⟨w5.heap.size, 0, none⟩) (Nat.le_refl _) (.int .i64 l)).setCell (p := ⟨w5.heap.size, 1, none⟩) (Nat.le_refl _) (.slice p7 A2.length c7)
            have hl8 : w5.heap.size < ((w7.setCell ⟨w5.heap.size, 0, none⟩ (.int .i64 l)).setCell ⟨w5.heap.size, 1, none⟩ (.slice p7 A2.length c7)).heap.size := by simpa using hyl7
            clear Y7 k0 k1 g0 g1 hyl7 hBn hb7 PT2 yc q0 q1 b0 b1
            go_wp2_with fail
            go_roundg (M - (j + 1))
            case rel =>
              refine ⟨j + 1, .slice p7 A2.length c7, by go_num, by omega, by omega, Y8, by rw [EA.out]; exact r8, .inr (fun k hk => by have : wr.heap.size ≤ k := lt7 k hk; omega), hb8, hl8⟩
            case measure => omega
        · obtain rfl : M = j := by omega
          have z0 : decide ((M : Int) < (M : Int)) = false := decide_eq_false (by omega)
          rw [← EM.out, List.take_length] at hrj
          obtain ⟨pv, cv, rfl⟩ := hrj.val
          have Z6 := HZ5.out.below hbj (Nat.le_refl _)
          have b0 : wr.cell? ⟨w5.heap.size, 0, none⟩ = some (.int .i64 l) := Yb.cell 0
          have b1 : wr.cell? ⟨w5.heap.size, 1, none⟩ = some (.slice pv (pourR its ys).length cv) := Yb.cell 1
          have c0 : wr.cell? ⟨w.heap.size + 1 + 1, 0, none⟩ = some (.int .i64 0) := Z6.cell 0
          have c1 : wr.cell? ⟨w.heap.size + 1 + 1, 1, none⟩ = some (.slice none 0 0) := Z6.cell 1
          have f0 := Z6.free 0
          have f1 := Z6.free 1
          have hzl := Z6.lt
          have Q := (Z6.set 0 (.int .i64 l)).set 1 (.slice pv (pourR its ys).length cv)
          have hbw6 := HB5.out.trans (hbj.mono HB5.out.size)
          have hq := (hbw6.setCell (p := ⟨w.heap.size + 1 + 1, 0, none⟩) (by show _ ≤ w.heap.size + 1 + 1; omega) (.int .i64 l)).setCell (p := ⟨w.heap.size + 1 + 1, 1, none⟩) (by show _ ≤ w.heap.size + 1 + 1; omega) (.slice pv (pourR its ys).length cv)
          have hZB : w.heap.size + 1 + 1 < w5.heap.size := HZ5.out.lt
          have P : Hid (BPourP l its ys (.slice p its.length cap) w (.returned (.tuple #[.agg #[.int .i64 l, .slice pv (pourR its ys).length cv], .int .i64 0])) ((wr.setCell ⟨w.heap.size + 1 + 1, 0, none⟩ (.int .i64 l)).setCell ⟨w.heap.size + 1 + 1, 1, none⟩ (.slice pv (pourR its ys).length cv))) := by
            refine .inr ⟨Int.not_lt.2 HF.out, _, rfl, ?_, ?_, hq⟩
            · rcases hvj with ⟨h0, e⟩ | h
              · have h9 := hr.below hq (Nat.le_refl _)
                have h2 : pourR its ys = its := by rw [List.length_eq_zero_iff.1 (EM.out.trans h0)]; rfl
                have key : ∀ (W : World) u A, u = Value.slice p its.length cap → A = its → RdN W (.slice p its.length cap) its → RdN W u A := by rintro W _ _ rfl rfl h; exact h
                exact key _ _ _ e h2 h9
              · exact hrj.keep (fun g _ hg => by
                  have := h g hg
                  rw [Below.heap_setCell _ ⟨w.heap.size + 1 + 1, 1, none⟩ _ _ (by show g ≠ w.heap.size + 1 + 1; omega), Below.heap_setCell _ ⟨w.heap.size + 1 + 1, 0, none⟩ _ _ (by show g ≠ w.heap.size + 1 + 1; omega)]) (by simp)
            · rcases hvj with ⟨-, e⟩ | h
              · exact .inl e
              · exact .inr (fun k hk => by have := h k hk; omega)
          clear hvj hrj hq hbw6 Z6 HF R0
          go_wp2_with fail
          refine ret_pour (u := .int .i64 0) Q ?_ ?_ ?_
          · rfl
          · rfl
          · exact P.out
end Go.Proofs.YtlciofheonbkiaaGreat
