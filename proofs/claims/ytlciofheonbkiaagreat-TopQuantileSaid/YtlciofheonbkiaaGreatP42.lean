/- Texts laid together. -/
import Derived.Test.YtlciofheonbkiaaGreatP19
import Derived.Test.YtlciofheonbkiaaGreatP25
import Derived.Test.YtlciofheonbkiaaGreatP41
import Derived.Test.YtlciofheonbkiaaGreatP23
/- The walks of a hop. -/
namespace Go.Proofs.YtlciofheonbkiaaGreat
set_option maxHeartbeats 8000000
set_option maxRecDepth 100000
open Go.RowKit Nl
theorem hp_3 {w : World} {B0 c : Nat} {l : Int} {vd vb : Value} {rs : List Rec} {X : List Int} (kd on ot x wt : Int) (ok : HopE.ok ⟨kd, on, ot, x, wt⟩) (C : Crowd w B0 l c vd vb rs) (T : CrowdT l rs X) (hX : X.length < 150) (n1 : 1 ≤ rs.length) (n5 : rs.length ≤ 5) (hkd : kd = 3 ∨ kd = 4 ∨ kd = 6 ∨ kd = 9) :
    Calls Tryz.prog 8 #[.pointer (some ⟨c, 0, none⟩), .agg #[.int .i64 kd, .int .i64 on, .int .i64 ot, .int .i64 x, .int .i64 wt]] w (HopP (CB vd vb rs) B0 l c vd vb rs.length X w) := by
  obtain ⟨D, cd, E, ce, rfl, rfl, -, -⟩ := C.shape n1
  have SD : CB (.slice (some ⟨D, 0, none⟩) rs.length cd) (.slice (some ⟨E, 0, none⟩) rs.length ce) rs D := .inl rfl
  have SE : CB (.slice (some ⟨D, 0, none⟩) rs.length cd) (.slice (some ⟨E, 0, none⟩) rs.length ce) rs E := .inr (.inl rfl)
  have SR : ∀ j (h : j < rs.length) b, rs[j].B b → CB (.slice (some ⟨D, 0, none⟩) rs.length cd) (.slice (some ⟨E, 0, none⟩) rs.length ce) rs b := fun j h b p => .inr (.inr ⟨j, h, p⟩)
  generalize CB (.slice (some ⟨D, 0, none⟩) rs.length cd) (.slice (some ⟨E, 0, none⟩) rs.length ce) rs = S at *
  obtain ⟨N, eN⟩ : ∃ N, rs.length = N := ⟨_, rfl⟩
  obtain ⟨-, ok1, ok2, ok3, ok4⟩ := ok
  have hI := atV_lt on n1
  have hJ := atV_lt ot n1
  have A1 := hid (fun W => t_at on rs.length W ok1 n1 n5)
  have A2 := hid (fun W => t_at ot rs.length W ok2 n1 n5)
  obtain ⟨I, eI⟩ : ∃ I, atV on rs.length = I := ⟨_, rfl⟩
  obtain ⟨J, eJ⟩ : ∃ J, atV ot rs.length = J := ⟨_, rfl⟩
  rw [eI] at hI A1
  rw [eJ] at hJ A2
  have HCW := hid C
  have X0 := Blk.new w #[.int .i64 kd, .int .i64 on, .int .i64 ot, .int .i64 x, .int .i64 wt] 30
  have hb0 : Below w.heap.size w (w.alloc (.cells #[.int .i64 kd, .int .i64 on, .int .i64 ot, .int .i64 x, .int .i64 wt] 30)) := (Below.refl _ _).alloc nlr _
  have C1 := C.below hb0
  have hcw := C.blk.lt
  rw [eN] at A1 A2 n1 n5 C1 ⊢
  have EN := hid eN
  have hIN : I < N := by omega
  have hJN : J < N := by omega
  have Cw := hid (fun W (y : Crowd W B0 l c (.slice (some ⟨D, 0, none⟩) N cd) (.slice (some ⟨E, 0, none⟩) N ce) rs) => y.cells eN)
  clear eI eJ eN C
  go_enter Tryz.func8, Tryz.ntmps8
  go_upto_region 1 with fail
  generalize hW : w.alloc (.cells #[.int .i64 kd, .int .i64 on, .int .i64 ot, .int .i64 x, .int .i64 wt] 30) = w1 at *
  clear hW
  have o1 : w1.cell? ⟨w.heap.size, 1, none⟩ = some (.int .i64 on) := X0.cell 1
  have o2 : w1.cell? ⟨w.heap.size, 2, none⟩ = some (.int .i64 ot) := X0.cell 2
  have c1 : w1.cell? ⟨c, 1, none⟩ = some (.slice (some ⟨D, 0, none⟩) N cd) := C1.blk.cell 1
  go_quiet ((first
    | (go_at_call_of 9 (Value.int .i64 on); exact Calls.quiet_of_same (calls_flip (A1.out _)))
    | (go_at_call_of 9 (Value.int .i64 ot); exact Calls.quiet_of_same (calls_flip (A2.out _)))))
  have hB2 := below_drewN (Below.refl w1.heap.size w1) nq
  have C2 := C1.below hB2
  have X2 := X0.below hB2 nlr
  have hs0 : B0 ≤ w.heap.size := by have := C1.base; omega
  have hb2 : ChB S w (w1.drewN nq) := ChB.of_below (hb0.trans (hB2.mono hb0.size))
  clear A1 A2 HCW C1 X0 hb0 hB2 o1 o2 c1 n5
  generalize w1.drewN nq = w2 at *
  clear w1
  obtain ⟨c1, c2, c3, c4, c5⟩ := Cw.out _ C2 I hI
  have x0 : w2.cell? ⟨w.heap.size, 0, none⟩ = some (.int .i64 kd) := X2.cell 0
  have x3 : w2.cell? ⟨w.heap.size, 3, none⟩ = some (.int .i64 x) := X2.cell 3
  have x4 : w2.cell? ⟨w.heap.size, 4, none⟩ = some (.int .i64 wt) := X2.cell 4
  have OK := C2.each I hI
  have TT := T I hI
  have NS := SR I hI
  have hzl : rs[I].zs.length ≤ 7400 := by
    have h1 := TT.zlen
    have h2 := TT.dg.roll.l2
    have h3 : l.toNat + 1 ≤ 49 := by omega
    have h4 : X.length * (l.toNat + 1) ≤ 150 * 49 := Nat.mul_le_mul (by omega) h3
    omega
  have hil : rs[I].its.length ≤ 150 := by have := TT.ilen; omega
  obtain ⟨r, er⟩ : ∃ r, r = rs[I] := ⟨_, rfl⟩
  rw [← er] at OK TT NS hzl hil c3 c5
  have ER := hid er
  have HC := hid C2
  have HT := hid T
  have hs2 : B0 ≤ w2.heap.size := by have := hb2.size; omega
  clear er T
  have l1 := TT.dg.roll.l1
  have l2 := TT.dg.roll.l2
  have hnR := (HC.out.nR I hI)
  rw [← ER.out] at hnR
  have ok1 := OK.k1
  have ok2 := OK.k2
  have okl := OK.kl
  have ht : 1 ≤ thruK r.kind l ∧ thruK r.kind l ≤ 2 ∧ (10 < l → thruK r.kind l = 2) := by
    unfold thruK
    split
    · exact ⟨by omega, by omega, fun h => by omega⟩
    · exact ⟨ok1, ok2, okl⟩
  have hp := poolIs_of l1 l2 ht.1 ht.2.1 ht.2.2
  have TH := hid (t_through kd OK.d hzl hkd ok1 ok2 hp)
  have HK := hid OK
  have HHT := hid ht
  have KD1 := hid hkd
  clear TT OK x3 x4 hJ hJN c4 c5 c2 hp ht ok1 ok2 okl l1 l2
  rcases hkd with rfl | rfl | rfl | rfl
  all_goals
    go_wp2_with fail
    refine TH.out.mono ?_
    rintro e w5 ⟨dg', q', g', h', rfl, d5, hnew, hb5⟩
    have SM5 := dg_same1 d5 (HK.out.d.below hb5 nlr) (by decide) (by decide)
    clear TH
    go_wp2_with fail
    refine SM5.mono ?_
    rintro e w6 ⟨rfl, hb6⟩
    have hb7 := hb5.trans (hb6.mono hb5.size)
    have d' := d5.below hb6 nlr
    have C5 := HC.out.below hb7
    have kc := (C5.cells EN.out I hI).2.2.1
    have c1 : w6.cell? ⟨c, 1, none⟩ = some (.slice (some ⟨D, 0, none⟩) N cd) := C5.blk.cell 1
    have kf := row_free C5.rowD I
    have kl := (World.ownsRow.lt C5.rowD D rfl).2
    have C6 := C5.newD EN.out I hI d' HHT.out.1 HHT.out.2.1 HHT.out.2.2 (fun b hb => by
      obtain ⟨q1, q2, q3, q4, q5, q6⟩ := HC.out.off b (hnew b hb)
      exact ⟨q1, q2, fun e => q3 (Option.some.inj e).symm, q4, q5, q6⟩)
    have hl6 : (rs.set I (rs[I].swap dg' q' g' h' (thruK r.kind l) r.k r.zs)).length = N := by rw [List.length_set]; exact EN.out
    have T6 := HT.out.set I (r := rs[I].swap dg' q' g' h' (thruK r.kind l) r.k r.zs) (by have := HT.out I hI; rw [← ER.out] at this ⊢; exact this)
    have hb8 := (hb2.add hb7).setS ⟨D, I, none⟩ SD (.pointer (some ⟨dg', 0, none⟩))
    have PP : Hid (HopP S B0 l c (.slice (some ⟨D, 0, none⟩) N cd) (.slice (some ⟨E, 0, none⟩) N ce) N X w (.returned (.bool true)) (w6.setCell ⟨D, I, none⟩ (.pointer (some ⟨dg', 0, none⟩)))) :=
      ⟨rfl, _, X, hl6, by omega, C6, T6, hb8⟩
    clear C6 T6 hb8 C5 d' d5 SM5 HC HT HK X2 hb2 Cw NS hl6 hnew hb5 hb6 hb7 hnR
    go_wp2_with fail
    go_ret
    exact PP.out
end Go.Proofs.YtlciofheonbkiaaGreat

/- The walks of a hop. -/
namespace Go.Proofs.YtlciofheonbkiaaGreat
set_option maxHeartbeats 8000000
set_option maxRecDepth 100000
open Go.RowKit Nl
theorem blkHD {X w9 : World} {arr : Array Value} {T : TypeId} (hb : Below (X.alloc (.cells arr T)).drew.heap.size (X.alloc (.cells arr T)).drew w9) : Blk w9 X.heap.size arr T := ((Blk.new X arr T).drewN 1).below hb nlr
theorem hp_0 {w : World} {B0 c : Nat} {l : Int} {vd vb : Value} {rs : List Rec} {X : List Int} (kd on ot x wt : Int) (ok : HopE.ok ⟨kd, on, ot, x, wt⟩) (C : Crowd w B0 l c vd vb rs) (T : CrowdT l rs X) (hX : X.length < 150) (n1 : 1 ≤ rs.length) (n5 : rs.length ≤ 5) (hkd : kd ≠ 1 ∧ kd ≠ 2 ∧ kd ≠ 3 ∧ kd ≠ 4 ∧ kd ≠ 5 ∧ kd ≠ 6 ∧ kd ≠ 7 ∧ kd ≠ 8 ∧ kd ≠ 9) :
    Calls Tryz.prog 8 #[.pointer (some ⟨c, 0, none⟩), .agg #[.int .i64 kd, .int .i64 on, .int .i64 ot, .int .i64 x, .int .i64 wt]] w (HopP (CB vd vb rs) B0 l c vd vb rs.length X w) := by
  obtain ⟨D, cd, E, ce, rfl, rfl, -, -⟩ := C.shape n1
  have SD : CB (.slice (some ⟨D, 0, none⟩) rs.length cd) (.slice (some ⟨E, 0, none⟩) rs.length ce) rs D := .inl rfl
  have SE : CB (.slice (some ⟨D, 0, none⟩) rs.length cd) (.slice (some ⟨E, 0, none⟩) rs.length ce) rs E := .inr (.inl rfl)
  have SR : ∀ j (h : j < rs.length) b, rs[j].B b → CB (.slice (some ⟨D, 0, none⟩) rs.length cd) (.slice (some ⟨E, 0, none⟩) rs.length ce) rs b := fun j h b p => .inr (.inr ⟨j, h, p⟩)
  generalize CB (.slice (some ⟨D, 0, none⟩) rs.length cd) (.slice (some ⟨E, 0, none⟩) rs.length ce) rs = S at *
  obtain ⟨N, eN⟩ : ∃ N, rs.length = N := ⟨_, rfl⟩
  obtain ⟨-, ok1, ok2, ok3, ok4⟩ := ok
  have hI := atV_lt on n1
  have hJ := atV_lt ot n1
  have A1 := hid (fun W => t_at on rs.length W ok1 n1 n5)
  have A2 := hid (fun W => t_at ot rs.length W ok2 n1 n5)
  obtain ⟨I, eI⟩ : ∃ I, atV on rs.length = I := ⟨_, rfl⟩
  obtain ⟨J, eJ⟩ : ∃ J, atV ot rs.length = J := ⟨_, rfl⟩
  rw [eI] at hI A1
  rw [eJ] at hJ A2
  have HCW := hid C
  have X0 := Blk.new w #[.int .i64 kd, .int .i64 on, .int .i64 ot, .int .i64 x, .int .i64 wt] 30
  have hb0 : Below w.heap.size w (w.alloc (.cells #[.int .i64 kd, .int .i64 on, .int .i64 ot, .int .i64 x, .int .i64 wt] 30)) := (Below.refl _ _).alloc nlr _
  have C1 := C.below hb0
  have hcw := C.blk.lt
  rw [eN] at A1 A2 n1 n5 C1 ⊢
  have EN := hid eN
  have hIN : I < N := by omega
  have hJN : J < N := by omega
  have Cw := hid (fun W (y : Crowd W B0 l c (.slice (some ⟨D, 0, none⟩) N cd) (.slice (some ⟨E, 0, none⟩) N ce) rs) => y.cells eN)
  clear eI eJ eN C
  go_enter Tryz.func8, Tryz.ntmps8
  go_upto_region 1 with fail
  generalize hW : w.alloc (.cells #[.int .i64 kd, .int .i64 on, .int .i64 ot, .int .i64 x, .int .i64 wt] 30) = w1 at *
  clear hW
  have o1 : w1.cell? ⟨w.heap.size, 1, none⟩ = some (.int .i64 on) := X0.cell 1
  have o2 : w1.cell? ⟨w.heap.size, 2, none⟩ = some (.int .i64 ot) := X0.cell 2
  have c1 : w1.cell? ⟨c, 1, none⟩ = some (.slice (some ⟨D, 0, none⟩) N cd) := C1.blk.cell 1
  go_quiet ((first
    | (go_at_call_of 9 (Value.int .i64 on); exact Calls.quiet_of_same (calls_flip (A1.out _)))
    | (go_at_call_of 9 (Value.int .i64 ot); exact Calls.quiet_of_same (calls_flip (A2.out _)))))
  have hB2 := below_drewN (Below.refl w1.heap.size w1) nq
  have C2 := C1.below hB2
  have X2 := X0.below hB2 nlr
  have hs0 : B0 ≤ w.heap.size := by have := C1.base; omega
  have hb2 : ChB S w (w1.drewN nq) := ChB.of_below (hb0.trans (hB2.mono hb0.size))
  have HCW1 := hid HCW.out.rowB
  clear A1 A2 HCW C1 X0 hb0 hB2 o1 o2 c1 n5
  generalize w1.drewN nq = w2 at *
  clear w1
  obtain ⟨c1, c2, c3, c4, c5⟩ := Cw.out _ C2 I hI
  have x0 : w2.cell? ⟨w.heap.size, 0, none⟩ = some (.int .i64 kd) := X2.cell 0
  have x3 : w2.cell? ⟨w.heap.size, 3, none⟩ = some (.int .i64 x) := X2.cell 3
  have x4 : w2.cell? ⟨w.heap.size, 4, none⟩ = some (.int .i64 wt) := X2.cell 4
  have OK := C2.each I hI
  have TT := T I hI
  have NS := SR I hI
  have hzl : rs[I].zs.length ≤ 7400 := by
    have h1 := TT.zlen
    have h2 := TT.dg.roll.l2
    have h3 : l.toNat + 1 ≤ 49 := by omega
    have h4 : X.length * (l.toNat + 1) ≤ 150 * 49 := Nat.mul_le_mul (by omega) h3
    omega
  have hil : rs[I].its.length ≤ 150 := by have := TT.ilen; omega
  obtain ⟨r, er⟩ : ∃ r, r = rs[I] := ⟨_, rfl⟩
  rw [← er] at OK TT NS hzl hil c3 c5
  have ER := hid er
  have HC := hid C2
  have HT := hid T
  have hs2 : B0 ≤ w2.heap.size := by have := hb2.size; omega
  clear er T
  have l1 := TT.dg.roll.l1
  have l2 := TT.dg.roll.l2
  have IN := hid (fun W (y : DgV W r.dg r.q r.g r.h r.kind l r.k 20000 r.zs) => dg_insert y x wt (by decide) (by omega) (by omega) ok3 ok4)
  have AD := hid (fun W (y : RdN W r.v r.its) => b_add l x wt y (by omega) TT.bag l1 l2 ok3 ok4)
  obtain ⟨hcode, Y, hY1, hY2, hY3, hY4⟩ := TT.ins x wt
  obtain ⟨Z, code, eZ⟩ : ∃ a b, dgIns l r.k r.zs x wt = (a, b) := ⟨_, _, rfl⟩
  obtain ⟨R, code', eR⟩ : ∃ a b, badd l r.its x wt = (a, b) := ⟨_, _, rfl⟩
  rw [eZ] at IN hcode hY4
  rw [eR] at AD hcode hY4
  have hcode : code = code' := hcode
  subst hcode
  have hY4 : TI l r.k Z R Y := hY4
  have hnR := (HC.out.nR I hI)
  rw [← ER.out] at hnR
  obtain ⟨p0, cp0, ev⟩ := OK.rd.val
  have HK := hid OK
  have rd0 := OK.rd
  rw [ev] at c5 AD rd0
  have EV := hid ev
  have HL := hid (And.intro l1 l2)
  clear eZ eR TT OK hJ hJN l1 l2 ev hil hzl
  have zk1 : (kd == 1) = false := by simp; omega
  have zk2 : (kd == 2) = false := by simp; omega
  have zk3 : (kd == 3) = false := by simp; omega
  have zk4 : (kd == 4) = false := by simp; omega
  have zk5 : (kd == 5) = false := by simp; omega
  have zk6 : (kd == 6) = false := by simp; omega
  have zk7 : (kd == 7) = false := by simp; omega
  have zk8 : (kd == 8) = false := by simp; omega
  have zk9 : (kd == 9) = false := by simp; omega
  clear hkd
  go_upto_region 36 with fail
  go_cut [15, 16] (fun b e wx => CutB l R code (.slice p0 r.its.length cp0) w2 b e wx)
  case first =>
    have FX := hid (fun W (q : Below w2.heap.size w2 W) => (show W.cell? ⟨w.heap.size, 3, none⟩ = some (.int .i64 x) ∧ W.cell? ⟨w.heap.size, 4, none⟩ = some (.int .i64 wt) ∧ W.cell? ⟨c, 2, none⟩ = some (.slice (some ⟨E, 0, none⟩) N ce) ∧ W.cell? ⟨E, I * 2, none⟩ = some (.int .i64 l) ∧ W.cell? ⟨E, I * 2 + 1, none⟩ = some (.slice p0 r.its.length cp0) ∧ Below w2.heap.size w2 W from by
      have X3 := X2.below q nlr
      have C3 := (HC.out.below q).cells EN.out I hI
      rw [← ER.out, EV.out] at C3
      exact ⟨X3.cell 3, X3.cell 4, C3.2.1, C3.2.2.2.1, C3.2.2.2.2, q⟩))
    have hB1 : Below w2.heap.size w2 (w2.drewN 1) := below_drewN (Below.refl w2.heap.size w2) 1
    have RD0 := hid rd0
    have AD2 := hid (fun W (q : Below w2.heap.size w2 W) => AD.out W (rd0.below q nlr))
    clear rd0 AD IN hY4 hY1 hY2 hY3
    go_region_held3 (fun W => W.cell? ⟨w.heap.size, 3, none⟩ = some (.int .i64 x) ∧ W.cell? ⟨w.heap.size, 4, none⟩ = some (.int .i64 wt) ∧ W.cell? ⟨c, 2, none⟩ = some (.slice (some ⟨E, 0, none⟩) N ce) ∧ W.cell? ⟨E, I * 2, none⟩ = some (.int .i64 l) ∧ W.cell? ⟨E, I * 2 + 1, none⟩ = some (.slice p0 r.its.length cp0) ∧ Below w2.heap.size w2 W)
      (first
        | exact FX.out _ hB1
        | exact FX.out _ hBn
        | exact FX.out _ (hB1.alloc nlr _)
        | exact FX.out _ (hBn.alloc hBn.size _)
        | exact FX.out _ ((hBn.setCell (p := ⟨w2.heap.size, 0, none⟩) nlr _).setCell (p := ⟨w2.heap.size, 1, none⟩) nlr _)
        | exact FX.out _ ((hBn.setCell (p := ⟨w5.heap.size, 0, none⟩) hw5s _).setCell (p := ⟨w5.heap.size, 1, none⟩) hw5s _))
      ((go_at_call 36; have hBa := (‹_ ∧ _ ∧ _ ∧ _ ∧ _ ∧ Below w2.heap.size w2 _›).2.2.2.2.2; refine (AD2.out _ hBa).mono ?_; rintro e w5 ⟨v5, rfl, rd5, hv5, hb5⟩
        have hBn := hBa.trans (hb5.mono hBa.size)
        have hw5s : w2.heap.size ≤ w5.heap.size := hBn.size
        obtain ⟨p5, c5, rfl⟩ := rd5.val
        try have KB := blkHA hb5
        try have KB := blkHD hb5
        try have kc0 : World.cell? w5 ⟨_, 0, none⟩ = some (.int .i64 0) := KB.cell 0
        try have kc1 : World.cell? w5 ⟨_, 1, none⟩ = some (.slice none 0 0) := KB.cell 1
        try have kf0 := KB.free 0
        try have kf1 := KB.free 1
        try have kl := KB.lt))
    all_goals
      clear FX AD2
      go_wp2_with fail
      go_meet
      first
        | exact CutB.ofB rd5 hv5 hBn
        | exact CutB.ofA rfl KB rd5 (hv5.imp id (fun h k hk => by have := h k hk; simp at this; omega)) RD0.out hBn
  case rest =>
    obtain ⟨a, p5, cp5, rfl, rfl, KB, rd5, hv5, ha, hb5⟩ := hcut
    obtain ⟨w5, rfl⟩ : ∃ x, x = wc := ⟨_, rfl⟩
    have C5 := HC.out.below hb5
    obtain ⟨-, c2, -, c4, c5⟩ := C5.cells EN.out I hI
    have b0 : w5.cell? ⟨a, 0, none⟩ = some (.int .i64 l) := KB.cell 0
    have b1 : w5.cell? ⟨a, 1, none⟩ = some (.slice p5 R.length cp5) := KB.cell 1
    have kf0 := row_free C5.rowB (I * 2)
    have kf1 := row_free C5.rowB (I * 2 + 1)
    have kl := (World.ownsRow.lt C5.rowB E rfl).2
    have kb := (World.ownsRow.lt C5.rowB E rfl).1
    have C6 := C5.setL EN.out I hI
    have hnE : ∀ j (hj : j < rs.length) b, rs[j].B b → b ≠ E := fun j hj b hb e => (C5.nR j hj b hb).2.2 (by rw [e]; rfl)
    have rd6 : RdN (w5.setCell ⟨E, I * 2, none⟩ (.int .i64 l)) (.slice p5 R.length cp5) R := by
      by_cases he : R = []
      · subst he; exact rd_empty rd5
      · refine rd5.keep (fun b _ hb => Below.heap_setCell _ ⟨E, I * 2, none⟩ _ b ?_) (by simp)
        rcases hv5 with e | h
        · have he0 : r.its ≠ [] := fun h0 => he (by
            simp only [Value.slice.injEq] at e
            rw [h0] at e
            exact List.length_eq_zero_iff.1 (by simpa using e.2.1))
          intro e2
          have := (HC.out.nV I hI (by rw [← ER.out]; exact he0) b (by rw [← ER.out, EV.out, ← e]; exact hb)).2.2.1
          exact this (by rw [e2]; rfl)
        · have h1 := h b hb
          have := (World.ownsRow.lt HC.out.rowB E rfl).2
          show b ≠ E
          omega
    have C7 := C6.newB EN.out I hI rd6 (by
      rcases hv5 with e | h
      · left; rw [← ER.out, EV.out, e]
      · right; intro b hb
        obtain ⟨q1, q2, q3, q4, q5, q6⟩ := HC.out.off b (h b hb)
        exact ⟨q1, q3, fun e => q2 (Option.some.inj e).symm, q5⟩)
    have hl7 : (rs.set I (rs[I].bag R (.slice p5 R.length cp5))).length = N := by rw [List.length_set]; exact EN.out
    have hI7 : I < (rs.set I (rs[I].bag R (.slice p5 R.length cp5))).length := by rw [hl7]; exact hIN
    have D7 := (C7.each I hI7).d
    have HC7 := hid C7
    rw [List.getElem_set_self] at D7
    have ER7 := hid ER.out
    have D7 : DgV ((w5.setCell ⟨E, I * 2, none⟩ (.int .i64 l)).setCell ⟨E, I * 2 + 1, none⟩ (.slice p5 R.length cp5)) rs[I].dg rs[I].q rs[I].g rs[I].h rs[I].kind l rs[I].k 20000 rs[I].zs := D7
    rw [← ER.out] at D7
    have X5 := X2.below hb5 nlr
    have hEb : w.heap.size ≠ E := fun e => by have := (World.ownsRow.lt HCW1.out E rfl).2; omega
    have X7 := (X5.set_other (I * 2) (.int .i64 l) hEb).set_other (I * 2 + 1) (.slice p5 R.length cp5) hEb
    have hb7 := ((hb2.add hb5).setS ⟨E, I * 2, none⟩ SE (.int .i64 l)).setS ⟨E, I * 2 + 1, none⟩ SE (.slice p5 R.length cp5)
    have hB7 := below_drewN (Below.refl ((w5.setCell ⟨E, I * 2, none⟩ (.int .i64 l)).setCell ⟨E, I * 2 + 1, none⟩ (.slice p5 R.length cp5)).heap.size ((w5.setCell ⟨E, I * 2, none⟩ (.int .i64 l)).setCell ⟨E, I * 2 + 1, none⟩ (.slice p5 R.length cp5))) 1
    have IN7 := hid (IN.out _ (D7.below hB7 nlr))
    have X7 := X7.below hB7 nlr
    have HC7 := hid (HC7.out.below hB7)
    have hb7 := hb7.add hB7
    have HY := hid (And.intro hY1 (And.intro hY2 (And.intro hY3 hY4)))
    clear C5 C6 C7 rd5 rd6 hv5 KB X2 X5 hb5 D7 IN AD rd0 x3 x4 hY1 hY2 hY3 hY4 hnE hb2 hB7
    go_upto_region 37 with fail
    go_region
    all_goals
      rw [show ((w5.setCell ⟨E, I * 2, none⟩ (.int .i64 l)).setCell ⟨E, I * 2 + 1, none⟩ (.slice p5 R.length cp5)).drew = ((w5.setCell ⟨E, I * 2, none⟩ (.int .i64 l)).setCell ⟨E, I * 2 + 1, none⟩ (.slice p5 R.length cp5)).drewN 1 from rfl]
      generalize hW : ((w5.setCell ⟨E, I * 2, none⟩ (.int .i64 l)).setCell ⟨E, I * 2 + 1, none⟩ (.slice p5 R.length cp5)).drewN 1 = w7 at *
      have x3 : w7.cell? ⟨w.heap.size, 3, none⟩ = some (.int .i64 x) := X7.cell 3
      have x4 : w7.cell? ⟨w.heap.size, 4, none⟩ = some (.int .i64 wt) := X7.cell 4
      clear hW b0 b1 kf0 kf1 kl c2 c4 c5
      go_wp2_with fail
      refine IN7.out.mono ?_
      rintro e w8 ⟨rfl, h', d8, hh, hc⟩
      have C8 := HC7.out.turn I hI7 (h' := h') (zs' := Z) (by rw [List.getElem_set_self]; show ChB (DB rs[I].dg rs[I].q rs[I].g rs[I].h) _ _; rw [← ER.out]; exact hc) (by rw [List.getElem_set_self]; show DgV w8 rs[I].dg rs[I].q rs[I].g h' rs[I].kind l rs[I].k 20000 Z; rw [← ER.out]; exact d8) (by rw [List.getElem_set_self]; show h' = rs[I].h ∨ _; rw [← ER.out]; exact hh)
      obtain ⟨hY1, hY2, hY3, hY4⟩ := HY.out
      have T8 := (HT.out.mono hY2 hY3).set2 I (rs[I].bag R (.slice p5 R.length cp5)) (r := (rs.set I (rs[I].bag R (.slice p5 R.length cp5)))[I].turn h' Z) (by rw [List.getElem_set_self]; show TI l rs[I].k Z R Y; rw [← ER.out]; exact hY4)
      have hb8 := hb7.addC hc NS
      have PP : Hid (HopP S B0 l c (.slice (some ⟨D, 0, none⟩) N cd) (.slice (some ⟨E, 0, none⟩) N ce) N X w (.returned (.bool true)) w8) :=
        ⟨rfl, _, Y, by rw [List.length_set]; exact hl7, hY1, C8, T8, hb8⟩
      clear C8 T8 hb8 hc d8 HY hY1 hY2 hY3 hY4 HC7 HC HT HK X7 hb7 IN7
      go_wp2_with fail
      go_ret
      exact PP.out
end Go.Proofs.YtlciofheonbkiaaGreat
