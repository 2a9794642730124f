/- Texts laid together. -/
import Derived.Test.YtlciofheonbkiaaGreatP42
import Derived.Test.YtlciofheonbkiaaGreatP24
import Derived.Test.YtlciofheonbkiaaGreatP43
import Derived.Test.YtlciofheonbkiaaGreatP23
import Derived.Test.YtlciofheonbkiaaGreatP25
import Derived.Test.YtlciofheonbkiaaGreatP16
import Derived.Test.YtlciofheonbkiaaGreatP15
import Derived.Test.YtlciofheonbkiaaGreatP34
import Derived.Test.YtlciofheonbkiaaGreatP12
import Derived.Test.YtlciofheonbkiaaGreatP14
/- The walks of a hop. -/
namespace Go.Proofs.YtlciofheonbkiaaGreat
set_option maxHeartbeats 8000000
set_option maxRecDepth 100000
open Go.RowKit Nl
def PourN (l : Int) (R : List Nd) (n : Int) (v0 : Value) (w : World) (e : Ending) (w' : World) : Prop :=
  ∃ v, e = .returned (.tuple #[.agg #[.int .i64 l, v], .int .i64 n]) ∧ RdN w' v R ∧ (v = v0 ∨ ∀ k, v.ownBlock = some k → w.heap.size ≤ k) ∧ Below w.heap.size w w'
theorem b_pour_no {w : World} {its ys : List Nd} {v u : Value} (l : Int) (hr : RdN w v its) (hy : RdN w u ys) (hl : its.length + ys.length ≤ 10000) (hb : Bag l its) (hb' : Bag l ys) (hs : 72057594037927935 - sumL its < sumL ys) :
    Calls Tryz.prog 30 #[.agg #[.int .i64 l, v], .agg #[.int .i64 l, u]] w (PourN l its 5 v w) :=
  (b_pour l hr hy hl hb hb').mono fun e w' h => by
    rcases h with ⟨-, rfl, hb⟩ | ⟨h, -⟩
    · exact ⟨v, rfl, hr.below hb nlr, .inl rfl, hb⟩
    · exact absurd hs h
theorem b_pour_ok {w : World} {its ys : List Nd} {v u : Value} (l : Int) (hr : RdN w v its) (hy : RdN w u ys) (hl : its.length + ys.length ≤ 10000) (hb : Bag l its) (hb' : Bag l ys) (hs : ¬ 72057594037927935 - sumL its < sumL ys) :
    Calls Tryz.prog 30 #[.agg #[.int .i64 l, v], .agg #[.int .i64 l, u]] w (PourN l (pourR its ys) 0 v w) :=
  (b_pour l hr hy hl hb hb').mono fun e w' h => by
    rcases h with ⟨h, -⟩ | ⟨-, v', rfl, h1, h2, h3⟩
    · exact absurd h hs
    · exact ⟨v', rfl, h1, h2, h3⟩
theorem Crowd.offV {W0 W5 : World} {B0 c D E cd ce n : Nat} {l : Int} {rs : List Rec} (C : Crowd W0 B0 l c (.slice (some ⟨D, 0, none⟩) n cd) (.slice (some ⟨E, 0, none⟩) n ce) rs) (i : Nat) (hi : i < rs.length) {R : List Nd} {v : Value} (rd : RdN W5 v R)
    (hv : v = rs[i].v ∨ ∀ k, v.ownBlock = some k → W0.heap.size ≤ k) (he : R ≠ []) (b : Nat) (hb : v.ownBlock = some b) : b ≠ c ∧ b ≠ D ∧ b ≠ E ∧ ∀ j (hj : j < rs.length), ¬ rs[j].B b := by
  rcases hv with rfl | h
  · have he0 : rs[i].its ≠ [] := fun h0 => he (by
      have r0 := (C.each i hi).rd
      rw [h0] at r0
      obtain ⟨p, cap, e1⟩ := rd.val
      obtain ⟨p', cap', e2⟩ := r0.val
      rw [e1] at e2
      simp only [Value.slice.injEq] at e2
      exact List.length_eq_zero_iff.1 (by simpa using e2.2.1))
    obtain ⟨q1, q2, q3, q4⟩ := C.nV i hi he0 b hb
    exact ⟨q1, fun e => q2 (by rw [e]; rfl), fun e => q3 (by rw [e]; rfl), q4⟩
  · obtain ⟨q1, q2, q3, -, q5, -⟩ := C.off b (h b hb)
    exact ⟨q1, q2, q3, q5⟩
theorem hp_2 {w : World} {B0 c : Nat} {l : Int} {vd vb : Value} {rs : List Rec} {X : List Int} (on ot x wt : Int) (ok : HopE.ok ⟨2, on, ot, x, wt⟩) (C : Crowd w B0 l c vd vb rs) (T : CrowdT l rs X) (hX : X.length < 150) (n1 : 1 ≤ rs.length) (n5 : rs.length ≤ 5) :
    Calls Tryz.prog 8 #[.pointer (some ⟨c, 0, none⟩), .agg #[.int .i64 2, .int .i64 on, .int .i64 ot, .int .i64 x, .int .i64 wt]] w (HopP (CB vd vb rs) B0 l c vd vb rs.length X w) := by
  obtain ⟨D, cd, E, ce, rfl, rfl, -, -⟩ := C.shape n1
  have SD : CB (.slice (some ⟨D, 0, none⟩) rs.length cd) (.slice (some ⟨E, 0, none⟩) rs.length ce) rs D := .inl rfl
  have SE : CB (.slice (some ⟨D, 0, none⟩) rs.length cd) (.slice (some ⟨E, 0, none⟩) rs.length ce) rs E := .inr (.inl rfl)
  have SR : ∀ j (h : j < rs.length) b, rs[j].B b → CB (.slice (some ⟨D, 0, none⟩) rs.length cd) (.slice (some ⟨E, 0, none⟩) rs.length ce) rs b := fun j h b p => .inr (.inr ⟨j, h, p⟩)
  generalize CB (.slice (some ⟨D, 0, none⟩) rs.length cd) (.slice (some ⟨E, 0, none⟩) rs.length ce) rs = S at *
  obtain ⟨N, eN⟩ : ∃ N, rs.length = N := ⟨_, rfl⟩
  obtain ⟨-, ok1, ok2, ok3, ok4⟩ := ok
  have hI := atV_lt on n1
  have hJ := atV_lt ot n1
  have A1 := hid (fun W => t_at on rs.length W ok1 n1 n5)
  have A2 := hid (fun W => t_at ot rs.length W ok2 n1 n5)
  obtain ⟨I, eI⟩ : ∃ I, atV on rs.length = I := ⟨_, rfl⟩
  obtain ⟨J, eJ⟩ : ∃ J, atV ot rs.length = J := ⟨_, rfl⟩
  rw [eI] at hI A1
  rw [eJ] at hJ A2
  have HCW := hid C
  have X0 := Blk.new w #[.int .i64 2, .int .i64 on, .int .i64 ot, .int .i64 x, .int .i64 wt] 30
  have hb0 : Below w.heap.size w (w.alloc (.cells #[.int .i64 2, .int .i64 on, .int .i64 ot, .int .i64 x, .int .i64 wt] 30)) := (Below.refl _ _).alloc nlr _
  have C1 := C.below hb0
  have hcw := C.blk.lt
  rw [eN] at A1 A2 n1 n5 C1 ⊢
  have EN := hid eN
  have hIN : I < N := by omega
  have hJN : J < N := by omega
  have Cw := hid (fun W (y : Crowd W B0 l c (.slice (some ⟨D, 0, none⟩) N cd) (.slice (some ⟨E, 0, none⟩) N ce) rs) => y.cells eN)
  clear eI eJ eN C
  go_enter Tryz.func8, Tryz.ntmps8
  go_upto_region 1 with fail
  generalize hW : w.alloc (.cells #[.int .i64 2, .int .i64 on, .int .i64 ot, .int .i64 x, .int .i64 wt] 30) = w1 at *
  clear hW
  have o1 : w1.cell? ⟨w.heap.size, 1, none⟩ = some (.int .i64 on) := X0.cell 1
  have o2 : w1.cell? ⟨w.heap.size, 2, none⟩ = some (.int .i64 ot) := X0.cell 2
  have c1 : w1.cell? ⟨c, 1, none⟩ = some (.slice (some ⟨D, 0, none⟩) N cd) := C1.blk.cell 1
  go_quiet ((first
    | (go_at_call_of 9 (Value.int .i64 on); exact Calls.quiet_of_same (calls_flip (A1.out _)))
    | (go_at_call_of 9 (Value.int .i64 ot); exact Calls.quiet_of_same (calls_flip (A2.out _)))))
  have hB2 := below_drewN (Below.refl w1.heap.size w1) nq
  have C2 := C1.below hB2
  have X2 := X0.below hB2 nlr
  have hs0 : B0 ≤ w.heap.size := by have := C1.base; omega
  have hb2 : ChB S w (w1.drewN nq) := ChB.of_below (hb0.trans (hB2.mono hb0.size))
  clear A1 A2 HCW C1 X0 hb0 hB2 o1 o2 c1 n5
  generalize w1.drewN nq = w2 at *
  clear w1
  obtain ⟨c1, c2, c3, c4, c5⟩ := Cw.out _ C2 I hI
  have x0 : w2.cell? ⟨w.heap.size, 0, none⟩ = some (.int .i64 2) := X2.cell 0
  have x3 : w2.cell? ⟨w.heap.size, 3, none⟩ = some (.int .i64 x) := X2.cell 3
  have x4 : w2.cell? ⟨w.heap.size, 4, none⟩ = some (.int .i64 wt) := X2.cell 4
  have OK := C2.each I hI
  have TT := T I hI
  have NS := SR I hI
  have hzl : rs[I].zs.length ≤ 7400 := by
    have h1 := TT.zlen
    have h2 := TT.dg.roll.l2
    have h3 : l.toNat + 1 ≤ 49 := by omega
    have h4 : X.length * (l.toNat + 1) ≤ 150 * 49 := Nat.mul_le_mul (by omega) h3
    omega
  have hil : rs[I].its.length ≤ 150 := by have := TT.ilen; omega
  obtain ⟨r, er⟩ : ∃ r, r = rs[I] := ⟨_, rfl⟩
  rw [← er] at OK TT NS hzl hil c3 c5
  have ER := hid er
  have HC := hid C2
  have HT := hid T
  have hs2 : B0 ≤ w2.heap.size := by have := hb2.size; omega
  clear er T
  obtain ⟨-, -, j3, j4, j5⟩ := Cw.out _ C2 J hJ
  have OJ := C2.each J hJ
  have TJ := HT.out J hJ
  have hzl' : rs[J].zs.length ≤ 7400 := by
    have h1 := TJ.zlen
    have h2 := TJ.dg.roll.l2
    have h3 : l.toNat + 1 ≤ 49 := by omega
    have h4 : X.length * (l.toNat + 1) ≤ 150 * 49 := Nat.mul_le_mul (by omega) h3
    omega
  have hil' : rs[J].its.length ≤ 150 := by have := TJ.ilen; omega
  obtain ⟨s, es⟩ : ∃ s, s = rs[J] := ⟨_, rfl⟩
  rw [← es] at OJ TJ hzl' hil' j3 j5
  obtain ⟨p0, u0, ev⟩ := OK.rd.val
  obtain ⟨p1, u1, ev'⟩ := OJ.rd.val
  have ES := hid (And.intro es ev')
  have EV := hid ev
  have rd0 := OK.rd
  have rd1 := OJ.rd
  rw [ev] at c5 rd0
  rw [ev'] at j5 rd1
  have sm := TT.sum
  have sm' := TJ.sum
  have hnR := (HC.out.nR I hI)
  rw [← ER.out] at hnR
  have HK := hid OK
  clear es ev ev' x3 x4
  by_cases hf : 72057594037927935 - sumL s.zs < sumL r.zs
  · have MG := hid (bl_merge_no OK.d OJ.d (show bl_code l l (sumL r.zs) (sumL s.zs) ≠ 0 by unfold bl_code; rw [if_neg (by simp), if_pos hf]; decide))
    have ec : bl_code l l (sumL r.zs) (sumL s.zs) = 5 := by unfold bl_code; rw [if_neg (by simp), if_pos hf]
    rw [ec] at MG
    have BP := hid (fun W (y : RdN W (.slice p0 r.its.length u0) r.its) (z : RdN W (.slice p1 s.its.length u1) s.its) => b_pour_no l y z (by omega) TT.bag TJ.bag (by omega))
    clear ec TT TJ OK OJ sm sm' hf hzl hzl' hil hil'
    go_wp2_with fail
    refine MG.out.mono ?_
    rintro e w4 ⟨rfl, hb4⟩
    clear MG
    have HC4 := hid (HC.out.below hb4)
    have rd4 := rd0.below hb4 nlr
    have rj4 := rd1.below hb4 nlr
    have c1 : w4.cell? ⟨c, 1, none⟩ = some (.slice (some ⟨D, 0, none⟩) N cd) := HC4.out.blk.cell 1
    clear c2 c3 c4 c5 j3 j4 j5 hnR
    go_upto_region 9 with fail
    go_cut [10, 11] (fun b e wx => CutB l r.its 5 (.slice p0 r.its.length u0) w4 b e wx)
    case first =>
      have FX := hid (fun W (q : Below w4.heap.size w4 W) => (show W.cell? ⟨c, 2, none⟩ = some (.slice (some ⟨E, 0, none⟩) N ce) ∧ W.cell? ⟨E, I * 2, none⟩ = some (.int .i64 l) ∧ W.cell? ⟨E, I * 2 + 1, none⟩ = some (.slice p0 r.its.length u0) ∧ W.cell? ⟨E, J * 2, none⟩ = some (.int .i64 l) ∧ W.cell? ⟨E, J * 2 + 1, none⟩ = some (.slice p1 s.its.length u1) ∧ Below w4.heap.size w4 W from by
        have CI := (HC4.out.below q).cells EN.out I hI
        have CJ := (HC4.out.below q).cells EN.out J hJ
        rw [← ER.out, EV.out] at CI
        rw [← ES.out.1, ES.out.2] at CJ
        exact ⟨CI.2.1, CI.2.2.2.1, CI.2.2.2.2, CJ.2.2.2.1, CJ.2.2.2.2, q⟩))
      have hB1 : Below w4.heap.size w4 (w4.drewN 1) := below_drewN (Below.refl w4.heap.size w4) 1
      have RD0 := hid rd4
      have BP2 := hid (fun W (q : Below w4.heap.size w4 W) => BP.out W (rd4.below q nlr) (rj4.below q nlr))
      clear rd0 rd1 rd4 rj4 BP c1
      go_region_held3 (fun W => W.cell? ⟨c, 2, none⟩ = some (.slice (some ⟨E, 0, none⟩) N ce) ∧ W.cell? ⟨E, I * 2, none⟩ = some (.int .i64 l) ∧ W.cell? ⟨E, I * 2 + 1, none⟩ = some (.slice p0 r.its.length u0) ∧ W.cell? ⟨E, J * 2, none⟩ = some (.int .i64 l) ∧ W.cell? ⟨E, J * 2 + 1, none⟩ = some (.slice p1 s.its.length u1) ∧ Below w4.heap.size w4 W)
        (first
          | exact FX.out _ hB1
          | exact FX.out _ hBn
          | exact FX.out _ (hB1.alloc nlr _)
          | exact FX.out _ (hBn.alloc hBn.size _)
          | exact FX.out _ ((hBn.setCell (p := ⟨w4.heap.size, 0, none⟩) nlr _).setCell (p := ⟨w4.heap.size, 1, none⟩) nlr _)
          | exact FX.out _ ((hBn.setCell (p := ⟨w5.heap.size, 0, none⟩) hw5s _).setCell (p := ⟨w5.heap.size, 1, none⟩) hw5s _))
        ((go_at_call 30; have hBa := (‹_ ∧ _ ∧ _ ∧ _ ∧ _ ∧ Below w4.heap.size w4 _›).2.2.2.2.2; refine (BP2.out _ hBa).mono ?_; rintro e w5 ⟨v5, rfl, rd5, hv5, hb5⟩
          have hBn := hBa.trans (hb5.mono hBa.size)
          have hw5s : w4.heap.size ≤ w5.heap.size := hBn.size
          obtain ⟨p5, c5, rfl⟩ := rd5.val
          try have KB := blkHA hb5
          try have KB := blkHD hb5
          try have kc0 : World.cell? w5 ⟨_, 0, none⟩ = some (.int .i64 0) := KB.cell 0
          try have kc1 : World.cell? w5 ⟨_, 1, none⟩ = some (.slice none 0 0) := KB.cell 1
          try have kf0 := KB.free 0
          try have kf1 := KB.free 1
          try have kl := KB.lt))
      all_goals
        clear FX BP2
        go_wp2_with fail
        go_meet
        first
          | exact CutB.ofB rd5 hv5 hBn
          | exact CutB.ofA rfl KB rd5 (hv5.imp id (fun h k hk => by have := h k hk; simp at this; omega)) RD0.out hBn
    case rest =>
      obtain ⟨a, p5, cp5, rfl, rfl, KB, rd5, hv5, ha, hb5⟩ := hcut
      obtain ⟨w5, rfl⟩ : ∃ x, x = wc := ⟨_, rfl⟩
      have C5' := HC4.out.below hb5
      obtain ⟨c1, c2, c3, c4, c5⟩ := C5'.cells EN.out I hI
      have j3 := True.intro
      have j4 := True.intro
      have j5 := True.intro
      clear C5' HC4 rd4 rj4
      have PP : Hid (HopP S B0 l c (.slice (some ⟨D, 0, none⟩) N cd) (.slice (some ⟨E, 0, none⟩) N ce) N X w (.returned (.bool true)) w5) :=
        ⟨rfl, _, X, EN.out, by omega, HC.out.below (hb4.trans (hb5.mono hb4.size)), HT.out, hb2.add (hb4.trans (hb5.mono hb4.size))⟩
      clear HC HT HK X2 hb2 Cw KB rd5 hv5 BP rd0 rd1 c1 c2 c3 c4 c5 j3 j4 j5
      go_wp2_with fail
      go_ret
      exact PP.out
  · have k1 := TT.dg.k1
    have k2 := TJ.dg.k1
    have MG := hid (bl_merge OK.d OJ.d (by decide) (by decide) (by omega) (by omega))
    have BP := hid (fun W (y : RdN W (.slice p0 r.its.length u0) r.its) (z : RdN W (.slice p1 s.its.length u1) s.its) => b_pour_ok l y z (by omega) TT.bag TJ.bag (by omega))
    have TI2 := TT.merge TJ (k := min r.k s.k) (by omega) (by omega) (by omega) (by omega)
    obtain ⟨K9, eK⟩ : ∃ K9, min r.k s.k = K9 := ⟨_, rfl⟩
    rw [eK] at MG TI2
    obtain ⟨R, eR⟩ : ∃ R, pourR r.its s.its = R := ⟨_, rfl⟩
    rw [eR] at BP TI2
    clear eK eR TT TJ OK OJ sm sm' hf hzl hzl' hil hil' k1 k2
    go_wp2_with fail
    refine MG.out.mono ?_
    rintro e w4 ⟨dg', q', g', h', rfl, d', p1', p2', p3', p4', hb4⟩
    have hnew : ∀ b, DB dg' q' g' h' b → w2.heap.size ≤ b := fun b hb => by rcases hb with e | e | e | e <;> omega
    have HD := hid d'
    have HN := hid hnew
    have HTI := hid TI2
    clear MG p1' p2' p3' p4' d' hnew TI2
    have HC4 := hid (HC.out.below hb4)
    have rd4 := rd0.below hb4 nlr
    have rj4 := rd1.below hb4 nlr
    have c1 : w4.cell? ⟨c, 1, none⟩ = some (.slice (some ⟨D, 0, none⟩) N cd) := HC4.out.blk.cell 1
    clear c2 c3 c4 c5 j3 j4 j5 hnR
    go_upto_region 9 with fail
    go_cut [10, 11] (fun b e wx => CutB l R 0 (.slice p0 r.its.length u0) w4 b e wx)
    case first =>
      have FX := hid (fun W (q : Below w4.heap.size w4 W) => (show W.cell? ⟨c, 2, none⟩ = some (.slice (some ⟨E, 0, none⟩) N ce) ∧ W.cell? ⟨E, I * 2, none⟩ = some (.int .i64 l) ∧ W.cell? ⟨E, I * 2 + 1, none⟩ = some (.slice p0 r.its.length u0) ∧ W.cell? ⟨E, J * 2, none⟩ = some (.int .i64 l) ∧ W.cell? ⟨E, J * 2 + 1, none⟩ = some (.slice p1 s.its.length u1) ∧ Below w4.heap.size w4 W from by
        have CI := (HC4.out.below q).cells EN.out I hI
        have CJ := (HC4.out.below q).cells EN.out J hJ
        rw [← ER.out, EV.out] at CI
        rw [← ES.out.1, ES.out.2] at CJ
        exact ⟨CI.2.1, CI.2.2.2.1, CI.2.2.2.2, CJ.2.2.2.1, CJ.2.2.2.2, q⟩))
      have hB1 : Below w4.heap.size w4 (w4.drewN 1) := below_drewN (Below.refl w4.heap.size w4) 1
      have RD0 := hid rd4
      have BP2 := hid (fun W (q : Below w4.heap.size w4 W) => BP.out W (rd4.below q nlr) (rj4.below q nlr))
      clear rd0 rd1 rd4 rj4 BP c1
      go_region_held3 (fun W => W.cell? ⟨c, 2, none⟩ = some (.slice (some ⟨E, 0, none⟩) N ce) ∧ W.cell? ⟨E, I * 2, none⟩ = some (.int .i64 l) ∧ W.cell? ⟨E, I * 2 + 1, none⟩ = some (.slice p0 r.its.length u0) ∧ W.cell? ⟨E, J * 2, none⟩ = some (.int .i64 l) ∧ W.cell? ⟨E, J * 2 + 1, none⟩ = some (.slice p1 s.its.length u1) ∧ Below w4.heap.size w4 W)
        (first
          | exact FX.out _ hB1
          | exact FX.out _ hBn
          | exact FX.out _ (hB1.alloc nlr _)
          | exact FX.out _ (hBn.alloc hBn.size _)
          | exact FX.out _ ((hBn.setCell (p := ⟨w4.heap.size, 0, none⟩) nlr _).setCell (p := ⟨w4.heap.size, 1, none⟩) nlr _)
          | exact FX.out _ ((hBn.setCell (p := ⟨w5.heap.size, 0, none⟩) hw5s _).setCell (p := ⟨w5.heap.size, 1, none⟩) hw5s _))
        ((go_at_call 30; have hBa := (‹_ ∧ _ ∧ _ ∧ _ ∧ _ ∧ Below w4.heap.size w4 _›).2.2.2.2.2; refine (BP2.out _ hBa).mono ?_; rintro e w5 ⟨v5, rfl, rd5, hv5, hb5⟩
          have hBn := hBa.trans (hb5.mono hBa.size)
          have hw5s : w4.heap.size ≤ w5.heap.size := hBn.size
          obtain ⟨p5, c5, rfl⟩ := rd5.val
          try have KB := blkHA hb5
          try have KB := blkHD hb5
          try have kc0 : World.cell? w5 ⟨_, 0, none⟩ = some (.int .i64 0) := KB.cell 0
          try have kc1 : World.cell? w5 ⟨_, 1, none⟩ = some (.slice none 0 0) := KB.cell 1
          try have kf0 := KB.free 0
          try have kf1 := KB.free 1
          try have kl := KB.lt))
      all_goals
        clear FX BP2
        go_wp2_with fail
        go_meet
        first
          | exact CutB.ofB rd5 hv5 hBn
          | exact CutB.ofA rfl KB rd5 (hv5.imp id (fun h k hk => by have := h k hk; simp at this; omega)) RD0.out hBn
    case rest =>
      obtain ⟨a, p5, cp5, rfl, rfl, KB, rd5, hv5, ha, hb5⟩ := hcut
      obtain ⟨w5, rfl⟩ : ∃ x, x = wc := ⟨_, rfl⟩
      have C5' := HC4.out.below hb5
      obtain ⟨c1, c2, c3, c4, c5⟩ := C5'.cells EN.out I hI
      have j3 := True.intro
      have j4 := True.intro
      have j5 := True.intro
      clear C5' HC4 rd4 rj4
      have hb45 := hb4.trans (hb5.mono hb4.size)
      have C5 := HC.out.below hb45
      have d5 := HD.out.below hb5 nlr
      have b0 : w5.cell? ⟨a, 0, none⟩ = some (.int .i64 l) := KB.cell 0
      have b1 : w5.cell? ⟨a, 1, none⟩ = some (.slice p5 R.length cp5) := KB.cell 1
      have g0 := row_free C5.rowD I
      have g1 := row_free C5.rowB (I * 2)
      have g2 := row_free C5.rowB (I * 2 + 1)
      obtain ⟨hDb, hDl⟩ := World.ownsRow.lt C5.rowD D rfl
      obtain ⟨hEb, hEl⟩ := World.ownsRow.lt C5.rowB E rfl
      have C6 := C5.newD EN.out I hI d5 HK.out.k1 HK.out.k2 HK.out.kl (fun b hb => by
        obtain ⟨q1, q2, q3, q4, q5, q6⟩ := HC.out.off b (HN.out b hb)
        exact ⟨q1, q2, fun e => q3 (Option.some.inj e).symm, q4, q5, q6⟩)
      have hl6 : (rs.set I (rs[I].swap dg' q' g' h' r.kind K9 (mergeL l K9 r.zs s.zs))).length = N := by rw [List.length_set]; exact EN.out
      have hI6 : I < (rs.set I (rs[I].swap dg' q' g' h' r.kind K9 (mergeL l K9 r.zs s.zs))).length := by rw [hl6]; exact hIN
      have C7 := C6.setL hl6 I hI6
      have m0 : World.cell? (w5.setCell ⟨D, I, none⟩ (.pointer (some ⟨dg', 0, none⟩))) ⟨E, I * 2, none⟩ = some (.int .i64 l) := (C6.cells hl6 I hI6).2.2.2.1
      obtain ⟨u9, m1⟩ : ∃ u, World.cell? (w5.setCell ⟨D, I, none⟩ (.pointer (some ⟨dg', 0, none⟩))) ⟨E, I * 2 + 1, none⟩ = some u := ⟨_, (C6.cells hl6 I hI6).2.2.2.2⟩
      have m2 := row_free C6.rowB (I * 2)
      have m3 := row_free C6.rowB (I * 2 + 1)
      have m4 := (World.ownsRow.lt C6.rowB E rfl).2
      have haD : a ≠ D := fun e => by
        have h1 := (World.ownsRow.lt HC.out.rowD D rfl).2
        have h2 := hb4.size
        omega
      have KB6 := KB.set_other I (.pointer (some ⟨dg', 0, none⟩)) haD
      have m5 : World.cell? (w5.setCell ⟨D, I, none⟩ (.pointer (some ⟨dg', 0, none⟩))) ⟨a, 0, none⟩ = some (.int .i64 l) := KB6.cell 0
      have m6 : World.cell? (w5.setCell ⟨D, I, none⟩ (.pointer (some ⟨dg', 0, none⟩))) ⟨a, 1, none⟩ = some (.slice p5 R.length cp5) := KB6.cell 1
      have m7 : World.cell? (w5.setCell ⟨D, I, none⟩ (.pointer (some ⟨dg', 0, none⟩))) ⟨c, 1, none⟩ = some (.slice (some ⟨D, 0, none⟩) N cd) := C6.blk.cell 1
      have m8 : World.cell? (w5.setCell ⟨D, I, none⟩ (.pointer (some ⟨dg', 0, none⟩))) ⟨c, 2, none⟩ = some (.slice (some ⟨E, 0, none⟩) N ce) := C6.blk.cell 2
      clear KB6
      have hv5' : .slice p5 R.length cp5 = rs[I].v ∨ ∀ k, (Value.slice p5 R.length cp5).ownBlock = some k → w2.heap.size ≤ k := by
        rcases hv5 with e | h
        · left; rw [← ER.out, EV.out, e]
        · right; intro k hk; have := h k hk; have := hb4.size; omega
      have off := HC.out.offV I hI rd5 hv5'
      have rd7 : RdN ((w5.setCell ⟨D, I, none⟩ (.pointer (some ⟨dg', 0, none⟩))).setCell ⟨E, I * 2, none⟩ (.int .i64 l)) (.slice p5 R.length cp5) R := by
        by_cases he : R = []
        · have rd5' := rd5
          rw [he] at rd5' ⊢
          exact rd_empty rd5'
        · refine rd5.keep (fun b _ hb => ?_) (by simp)
          obtain ⟨-, o2, o3, -⟩ := off he b hb
          rw [Below.heap_setCell _ ⟨E, I * 2, none⟩ _ b o3, Below.heap_setCell _ ⟨D, I, none⟩ _ b o2]
      have C8 := C7.newB hl6 I hI6 rd7 (by
        rw [List.getElem_set_self]
        rcases hv5 with e | h
        · left
          show _ = rs[I].v
          rw [← ER.out, EV.out, e]
        · right
          intro b hb
          have h1 := h b hb
          obtain ⟨q1, q2, q3, q4, q5, q6⟩ := HC.out.off b (show w2.heap.size ≤ b by have := hb4.size; omega)
          refine ⟨q1, q3, fun e => q2 (Option.some.inj e).symm, fun j hj p => ?_⟩
          by_cases e : I = j
          · subst e
            rw [List.getElem_set_self] at p
            have := HD.out.ltB b p
            omega
          · rw [List.getElem_set_ne e] at p
            exact q5 j (by simpa using hj) p)
      have T8 := HT.out.set2 I (rs[I].swap dg' q' g' h' r.kind K9 (mergeL l K9 r.zs s.zs)) (r := (rs.set I (rs[I].swap dg' q' g' h' r.kind K9 (mergeL l K9 r.zs s.zs)))[I].bag R (.slice p5 R.length cp5)) (by rw [List.getElem_set_self]; exact HTI.out)
      have hb8 := (((hb2.add hb45).setS ⟨D, I, none⟩ SD (.pointer (some ⟨dg', 0, none⟩))).setS ⟨E, I * 2, none⟩ SE (.int .i64 l)).setS ⟨E, I * 2 + 1, none⟩ SE (.slice p5 R.length cp5)
      have PP : Hid (∀ n, HopP S B0 l c (.slice (some ⟨D, 0, none⟩) N cd) (.slice (some ⟨E, 0, none⟩) N ce) N X w (.returned (.bool true)) ((((w5.setCell ⟨D, I, none⟩ (.pointer (some ⟨dg', 0, none⟩))).setCell ⟨E, I * 2, none⟩ (.int .i64 l)).setCell ⟨E, I * 2 + 1, none⟩ (.slice p5 R.length cp5)).drewN n)) := fun n =>
        ⟨rfl, _, X, by rw [List.length_set]; exact hl6, by omega, C8.below (below_drewN (Below.refl _ _) n), T8, hb8.add (below_drewN (Below.refl _ _) n)⟩
      clear C5 C6 C7 C8 T8 hb8 rd7 off hv5' rd5 hv5 KB HC HT HK HD HN HTI X2 hb2 Cw BP rd0 rd1 d5 hb45 hl6 hI6
      go_upto_region 12 with fail
      go_region
      all_goals
        go_wp2_with fail
        go_ret
        exact PP.out 1
end Go.Proofs.YtlciofheonbkiaaGreat

/- A hop of any kind. -/
namespace Go.Proofs.YtlciofheonbkiaaGreat
open Go.RowKit Nl
theorem t_hop {w : World} {B0 c : Nat} {l : Int} {vd vb : Value} {rs : List Rec} {X : List Int} (o : HopE) (ok : o.ok) (C : Crowd w B0 l c vd vb rs) (T : CrowdT l rs X) (hX : X.length < 150) (n1 : 1 ≤ rs.length) (n5 : rs.length ≤ 5) :
    Calls Tryz.prog 8 #[.pointer (some ⟨c, 0, none⟩), .agg #[.int .i64 o.kind, .int .i64 o.on, .int .i64 o.other, .int .i64 o.x, .int .i64 o.wt]] w (HopP (CB vd vb rs) B0 l c vd vb rs.length X w) := by
  obtain ⟨kd, on, ot, x, wt⟩ := o
  by_cases h1 : kd = 1
  · subst h1; exact hp_1 on ot x wt ok C T hX n1 n5
  by_cases h2 : kd = 2
  · subst h2; exact hp_2 on ot x wt ok C T hX n1 n5
  by_cases h3 : kd = 3 ∨ kd = 4 ∨ kd = 6 ∨ kd = 9
  · exact hp_3 kd on ot x wt ok C T hX n1 n5 h3
  by_cases h5 : kd = 5
  · subst h5; exact hp_5 on ot x wt ok C T hX n1 n5
  by_cases h7 : kd = 7
  · subst h7; exact hp_7 on ot x wt ok C T hX n1 n5
  by_cases h8 : kd = 8
  · subst h8; exact hp_8 on ot x wt ok C T hX n1 n5
  exact hp_0 kd on ot x wt ok C T hX n1 n5 ⟨by omega, by omega, by omega, by omega, by omega, by omega, by omega, by omega, by omega⟩
end Go.Proofs.YtlciofheonbkiaaGreat

/- The walk of: does a digest stand for a bag? -/
namespace Go.Proofs.YtlciofheonbkiaaGreat
set_option maxRecDepth 100000
open Go.RowKit Nl
theorem tp_rank {w : World} {its : List Nd} {v : Value} (l x : Int) (hr : RdN w v its) (hl : its.length ≤ 90000) (hp : Pos its) (hs : sumL its ≤ 72057594037927935) :
    Calls Tryz.prog 17 #[.agg #[.int .i64 l, v], .int .i64 x] w fun e w' => e = .returned (.int .i64 (betV 0 x its)) ∧ Below w.heap.size w w' := by
  obtain ⟨p, cap, rfl⟩ := hr.val
  have hb1 : Below w.heap.size w (w.alloc (.cells #[.int .i64 l, .slice p its.length cap] 41)) := (Below.refl _ _).alloc nlr _
  have BT := hid (b_between l 0 x (hr.below hb1 nlr) hl hp hs)
  go_enter Tryz.func17, Tryz.ntmps17
  go_wp2_with fail
  refine BT.out.mono ?_
  rintro e w2 ⟨rfl, hb2⟩
  go_wp2_with fail
  go_ret
  exact ⟨rfl, hb1.trans (hb2.mono hb1.size)⟩
end Go.Proofs.YtlciofheonbkiaaGreat
