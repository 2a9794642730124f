/- Texts laid together. -/
import Derived.Test.YtlciofheonbkiaaGreatP47
import Derived.Test.YtlciofheonbkiaaGreatP49
import Derived.Test.YtlciofheonbkiaaGreatP50
import Derived.Test.YtlciofheonbkiaaGreatP51
namespace Go.Proofs.YtlciofheonbkiaaGreat
set_option maxHeartbeats 8000000
set_option maxRecDepth 100000
open Go.RowKit Nl
def TqRel (n : Nat) (w9 : World) (gn : Nat) (i : Value) (wr : World) : Prop :=
  ∃ j : Nat, i = .int .i64 j ∧ j ≤ n ∧ n ≤ gn + j ∧ Below w9.heap.size w9 wr
theorem head_eq {its : List Nd} {v : Nd} (h : 0 < its.length) (e : its.getD 0 (0, 0) = v) : its = v :: its.tail := by
  cases its with
  | nil => simp at h
  | cons x t => simp [List.getD] at e; rw [e]; rfl
theorem last_max {its : List Nd} {v c : Int} (hr : its.Pairwise (fun a b => a.1 < b.1)) (e : its.getD (its.length - 1) (0, 0) = (v, c)) : ∀ u ∈ its, u.1 ≤ v := fun u hu => by
  obtain ⟨i, hi, rfl⟩ := List.getElem_of_mem hu
  have hl : its.length - 1 < its.length := by omega
  have e2 : its[its.length - 1] = (v, c) := by rw [← e]; simp [List.getD, hl]
  by_cases q : i = its.length - 1
  · subst q; rw [e2]; exact Int.le_refl _
  · have := List.pairwise_iff_getElem.1 hr i (its.length - 1) hi hl (by omega)
    rw [e2] at this
    exact Int.le_of_lt this
theorem TopQuantile_walk (l r : Int) (v2 : Value) (ks : List Int) (v3 : Value) (os : List HopE) (w : World) (_bl : In64 l) (_br : In64 r) (hk : RdIA w v2 ks) (ho : RdHops w v3 os) :
    Calls Tryz.prog 4 #[.int .i64 l, .int .i64 r, v2, v3] w fun e w' => e = .returned (.bool true) ∧ Below w.heap.size w w' := by
  have A := hid (fun W : World => t_alive W)
  have hk' := hid hk
  obtain ⟨pk, ck, rfl⟩ := hk.1.val
  obtain ⟨po, co, rfl, hat⟩ := id ho
  have HO := hid ho
  clear hat hk ho
  obtain ⟨M, eM⟩ : ∃ M, os.length = M := ⟨_, rfl⟩
  have FW := t_few l pk po ks.length ck os.length co 120 w
  rw [eM] at FW HO ⊢
  have EM := hid eM
  clear eM
  cases hf : fewB l ks.length M 120
  · rw [hf] at FW
    have FW := hid FW
    go_enter Tryz.func4, Tryz.ntmps4
    go_wp2_with fail
    refine FW.out.mono ?_
    rintro e w1 ⟨rfl, rfl⟩
    go_wp2_with fail
    refine (A.out _).mono ?_
    rintro e w2 ⟨rfl, hb2⟩
    go_wp2_with fail
    go_ret
    exact ⟨rfl, hb2⟩
  · rw [hf] at FW
    have FW := hid FW
    obtain ⟨l1, l2, n1, n5, hM⟩ := few_yes hf
    have BG := hid (t_begun l hk'.out l1 l2 n5)
    clear hf
    go_enter Tryz.func4, Tryz.ntmps4
    go_wp2_with fail
    refine FW.out.mono ?_
    rintro e w1 ⟨rfl, rfl⟩
    go_wp2_with fail
    refine BG.out.mono ?_
    rintro e w2 (⟨rfl, hb2⟩ | ⟨c, vd, vb, rs0, rfl, hn, C0, T0, hb2⟩)
    · go_wp2_with fail
      refine (A.out _).mono ?_
      rintro e w3 ⟨rfl, hb3⟩
      go_wp2_with fail
      go_ret
      exact ⟨rfl, hb2.trans (hb3.mono hb2.size)⟩
    · obtain ⟨D, cd, E, ce, rfl, rfl, -, -⟩ := C0.shape (by omega)
      rw [hn] at C0
      generalize ks.length = N at *
      have R0 : Hid (TrRel l w.heap.size c (.slice (some ⟨D, 0, none⟩) N cd) (.slice (some ⟨E, 0, none⟩) N ce) N M w M (.int .i64 (0 : Nat)) w2) :=
        ⟨0, rs0, [], rfl, Nat.zero_le _, nlr, hn, nlr, T0, C0, hb2⟩
      clear C0 T0 hb2 hn FW BG
      go_wp2_with fail
      go_loopg [46] M (fun gn i wr => TrRel l w.heap.size c (.slice (some ⟨D, 0, none⟩) N cd) (.slice (some ⟨E, 0, none⟩) N ce) N M w gn i wr)
      case atStart => exact R0.out
      case round =>
        clear R0
        obtain ⟨j, rs, X, rfl, hj, hgn, hn, hXj, T, C, hbl⟩ := hrel
        by_cases hlt : j < M
        · have ho' := HO.out.below hbl nlr
          obtain ⟨p', c', hv', hat⟩ := ho'
          obtain ⟨g, off, hp, hg, c0, c1, c2, c3, c4, ok⟩ := hat j (by rw [EM.out]; exact hlt)
          simp only [Value.slice.injEq] at hv'
          obtain ⟨rfl, -, -⟩ := hv'
          subst hp
          obtain ⟨o, eo⟩ : ∃ o, os.getD j hop0 = o := ⟨_, rfl⟩
          rw [eo] at c0 c1 c2 c3 c4 ok
          have z0 : decide ((j : Int) < (M : Int)) = true := decide_eq_true (by omega)
          have X1 := Blk.new wr #[.int .i64 o.kind, .int .i64 o.on, .int .i64 o.other, .int .i64 o.x, .int .i64 o.wt] 30
          have hba : Below wr.heap.size wr (wr.alloc (.cells #[.int .i64 o.kind, .int .i64 o.on, .int .i64 o.other, .int .i64 o.x, .int .i64 o.wt] 30)) := (Below.refl _ _).alloc nlr _
          have C1 := C.below hba
          have hb1 := hbl.trans (hba.mono hbl.size)
          have HP := hid (t_hop o ok C1 T (show X.length < 150 by omega) (by rw [hn]; exact n1) (by rw [hn]; exact n5))
          rw [hn] at HP
          have C1H := hid C1
          clear eo C T hbl hat hn C1 ok
          go_upto_region 9 with fail
          generalize hW : wr.alloc (.cells #[.int .i64 o.kind, .int .i64 o.on, .int .i64 o.other, .int .i64 o.x, .int .i64 o.wt] 30) = w1 at *
          clear hW c0 c1 c2 c3 c4
          have x0 : w1.cell? ⟨wr.heap.size, 0, none⟩ = some (.int .i64 o.kind) := X1.cell 0
          have x1 : w1.cell? ⟨wr.heap.size, 1, none⟩ = some (.int .i64 o.on) := X1.cell 1
          have x2 : w1.cell? ⟨wr.heap.size, 2, none⟩ = some (.int .i64 o.other) := X1.cell 2
          have x3 : w1.cell? ⟨wr.heap.size, 3, none⟩ = some (.int .i64 o.x) := X1.cell 3
          have x4 : w1.cell? ⟨wr.heap.size, 4, none⟩ = some (.int .i64 o.wt) := X1.cell 4
          go_wp2_with fail
          refine HP.out.mono ?_
          rintro e w4 ⟨rfl, rs4, X4, hn4, hX4, C4, T4, hc4⟩
          have hb4 := hb1.trans (hc4.below (fun k _ q => C1H.out.cb_low k q) hb1.size)
          have R9 : Hid (∀ i, i = Value.int .i64 ((j : Nat) + 1 : Int) → TrRel l w.heap.size c (.slice (some ⟨D, 0, none⟩) N cd) (.slice (some ⟨E, 0, none⟩) N ce) N M w (M - (j + 1)) i w4) := by
            intro i hi
            refine ⟨j + 1, rs4, X4, ?_, by omega, by omega, hn4, by omega, T4, C4, hb4⟩
            rw [hi]; simp
          clear x0 x1 x2 x3 x4 C4 T4 hn4 hc4 X1 C1H HP
          go_wp2_with fail
          go_roundg (M - (j + 1))
          case rel => exact R9.out _ (by go_num)
          case measure => omega
        · have z0 : decide ((j : Int) < (M : Int)) = false := decide_eq_false (by omega)
          obtain ⟨w9, rfl⟩ : ∃ x, x = wr := ⟨_, rfl⟩
          have hX : X.length ≤ 120 := by omega
          have HT := hid T
          have HC := hid C
          have HN := hid hn
          have c1 : w9.cell? ⟨c, 1, none⟩ = some (.slice (some ⟨D, 0, none⟩) N cd) := C.blk.cell 1
          have RQ : Hid (TqRel N w9 N (.int .i64 (0 : Nat)) w9) := ⟨0, rfl, Nat.zero_le _, nlr, Below.refl _ _⟩
          have hbw := hbl
          clear C T hn hgn hXj hbl
          go_wp2_with fail
          go_loopg [60] N (fun gn i wr => TqRel N w9 gn i wr)
          case atStart => exact RQ.out
          case round =>
            clear RQ
            obtain ⟨i, rfl, hi, hgi, hbi⟩ := hrel
            by_cases hlt : i < N
            · have z1 : decide ((i : Int) < (N : Int)) = true := decide_eq_true (by omega)
              have hi' : i < rs.length := by rw [HN.out]; exact hlt
              have Ci := HC.out.below hbi
              obtain ⟨-, c2, c3, c4, c5⟩ := Ci.cells HN.out i hi'
              have OK := Ci.each i hi'
              have t := HT.out i hi'
              obtain ⟨p, u, ev⟩ := OK.rd.val
              have d0 := OK.d
              have rd0 := OK.rd
              rw [ev] at c5 rd0
              generalize rs[i].dg = dg at *
              generalize rs[i].q = q at *
              generalize rs[i].g = gg at *
              generalize rs[i].h = h at *
              generalize rs[i].kind = kind at *
              generalize rs[i].k = k at *
              generalize rs[i].zs = zs at *
              generalize rs[i].its = its at *
              clear ev OK Ci hi'
              have hzl : zs.length ≤ 7400 := by
                have h1 := t.zlen
                have h2 := t.dg.roll.l2
                have h3 : l.toNat + 1 ≤ 49 := by omega
                have h4 : X.length * (l.toNat + 1) ≤ 150 * 49 := Nat.mul_le_mul (by omega) h3
                omega
              have hil : its.length ≤ 150 := by have := t.ilen; omega
              obtain ⟨L, eL⟩ : ∃ L, its.length = L := ⟨_, rfl⟩
              have EL := hid eL
              rw [eL] at rd0 c5 hil
              have X1 := Blk.new wr #[.int .i64 l, .slice p L u] 41
              have hba : Below wr.heap.size wr (wr.alloc (.cells #[.int .i64 l, .slice p L u] 41)) := (Below.refl _ _).alloc nlr _
              have hb1 := hbi.trans (hba.mono hbi.size)
              have d1 := d0.below hba nlr
              have rd1 := rd0.below hba nlr
              clear eL d0 rd0
              go_upto_region 16 with fail
              generalize hW : wr.alloc (.cells #[.int .i64 l, .slice p L u] 41) = w1 at *
              clear hW c2 c3 c4 c5
              generalize wr.heap.size = bx at *
              have es := t.sum
              have DG := hid (fun W (y : Below w1.heap.size w1 W) => d1.below y nlr)
              have RD := hid (fun W (y : Below w1.heap.size w1 W) => rd1.below y nlr)
              have BX := hid (fun W (y : Below w1.heap.size w1 W) => X1.below y nlr)
              have TO := hid (b_total l rd1 (by rw [EL.out]; omega) t.bag.pos' t.bag.most)
              have x0 : w1.cell? ⟨bx, 0, none⟩ = some (.int .i64 l) := X1.cell 0
              have x1 : w1.cell? ⟨bx, 1, none⟩ = some (.slice p L u) := X1.cell 1
              obtain ⟨S, eS⟩ : ∃ S, sumL its = S := ⟨_, rfl⟩
              rw [eS] at TO es
              have HS := hid eS
              have HT2 := hid t
              clear d1 rd1 X1 eS
              go_upto_region 17 with (go_at_call 11; refine TO.out.mono ?_; rintro e w2 ⟨rfl, hb2⟩)
              by_cases hS0 : S = 0
              · have z2 : (S == 0) = true := by simpa using hS0
                have AN := q_at_no (DG.out w2 hb2) r (by unfold wrongV; rw [if_pos (by omega)]; decide)
                rw [show wrongV (sumL zs) r = 7 by unfold wrongV; rw [if_pos (by omega)]] at AN
                have AN := hid AN
                clear x0 x1 TO DG RD BX
                go_upto_region 18 with (go_at_call 12; refine AN.out.mono ?_; rintro e w3 ⟨rfl, hb3⟩)
                have hbx := hb2.trans (hb3.mono hb2.size)
                have R9 : Hid (∀ v, v = Value.int .i64 ((i : Nat) + 1 : Int) → TqRel N w9 (N - (i + 1)) v w3) := by
                  intro v hv
                  exact ⟨i + 1, by rw [hv]; simp, by omega, by omega, hb1.trans (hbx.mono hb1.size)⟩
                clear hb2 hb3 hbx AN
                go_wp2_with fail
                go_roundg (N - (i + 1))
                case rel => exact R9.out _ (by go_num)
                case measure => omega
              · have z2 : (S == 0) = false := by simpa using hS0
                by_cases hr : r < 1 ∨ S < r
                · have hwv : wrongV (sumL zs) r = 2 := by unfold wrongV; rw [if_neg (by omega), if_pos (by rcases hr with q | q; (· exact .inl q); (· exact .inr (by omega)))]
                  have AN := q_at_no (DG.out w2 hb2) r (by rw [hwv]; decide)
                  rw [hwv] at AN
                  have AN := hid AN
                  clear x0 x1 TO hwv
                  go_upto_region 18 with (go_at_call 12; refine AN.out.mono ?_; rintro e w3 ⟨rfl, hb3'⟩)
                  have hb3 := hb2.trans (hb3'.mono hb2.size)
                  clear AN hb3'
                  go_upto_region 21 with fail
                  have LE := hid (bd_least (DG.out w3 hb3) (by decide) (by omega) (by omega) (fun z hz => by have := (ends_bd (HT2.out.dg.roll.ids z hz)).2; omega))
                  go_upto_region 22 with (go_at_call 13; refine LE.out.mono ?_; rintro e w4 ⟨a1, a2, ⟨rfl, hb4⟩, hLR⟩)
                  have Y5 := Blk.new w4 #[.int .i64 a1, .int .i64 a2] 48
                  have hb5 := (hb3.trans (hb4.mono hb3.size)).alloc (hb3.trans (hb4.mono hb3.size)).size (.cells #[.int .i64 a1, .int .i64 a2] 48)
                  generalize hW5 : w4.alloc (.cells #[.int .i64 a1, .int .i64 a2] 48) = w5 at *
                  generalize w4.heap.size = y5 at *
                  clear hW5 LE hb4
                  have GR := hid (bd_greatest (DG.out w5 hb5) (by decide) (by omega) (by omega) (fun z hz => (ends_bd (HT2.out.dg.roll.ids z hz)).1))
                  go_upto_region 23 with (go_at_call 14; refine GR.out.mono ?_; rintro e w6 ⟨b1, b2, ⟨rfl, hb6⟩, hGR⟩)
                  have Y6 := Y5.below hb6 nlr
                  have Z7 := Blk.new w6 #[.int .i64 b1, .int .i64 b2] 48
                  have Y7 := Y6.alloc (.cells #[.int .i64 b1, .int .i64 b2] 48)
                  have hb7 := (hb5.trans (hb6.mono hb5.size)).alloc (hb5.trans (hb6.mono hb5.size)).size (.cells #[.int .i64 b1, .int .i64 b2] 48)
                  generalize hW7 : w6.alloc (.cells #[.int .i64 b1, .int .i64 b2] 48) = w7 at *
                  generalize w6.heap.size = y7 at *
                  clear hW7 GR hb6 Y5 Y6
                  have hL0 : 0 < L := by
                    rcases Nat.eq_zero_or_pos L with q | q
                    · exfalso
                      have h1 := EL.out
                      rw [q] at h1
                      have h2 := HS.out
                      rw [List.length_eq_zero_iff.1 h1] at h2
                      exact hS0 (by rw [← h2]; rfl)
                    · exact q
                  have rd7 := RD.out w7 hb7
                  have X7 := BX.out w7 hb7
                  obtain ⟨gs, off, v0, e0, hp0, hac0, hgs, q0, -⟩ := rd7.at (k := 0) (by rw [EL.out]; exact hL0)
                  obtain ⟨gs', off', vL, eL', hpL, hacL, -, qL, -⟩ := rd7.at (k := L - 1) (by rw [EL.out]; omega)
                  rw [hp0] at hpL
                  simp only [Option.some.injEq, Addr.mk.injEq, and_true] at hpL
                  obtain ⟨rfl, rfl⟩ := hpL
                  have hhead := head_eq (by rw [EL.out]; exact hL0) hac0
                  have hlast : (vL, eL') ∈ its := by rw [← hacL]; have : L - 1 < its.length := by { rw [EL.out]; omega }; simp [List.getD, this]
                  have hmax : ∀ u ∈ its, u.1 ≤ vL := last_max HT2.out.bag.rise (by rw [EL.out]; exact hacL) 
                  rw [LeastR, List.take_length] at hLR
                  rw [GreatR, List.take_length] at hGR
                  have hzs0 : zs.length ≠ 0 := fun q => by
                    rw [List.length_eq_zero_iff.1 q] at es
                    exact hS0 (by rw [es]; rfl)
                  obtain ⟨f1, f2⟩ := HT2.out.least hhead hLR.1 (hLR.2.resolve_right (fun q => hzs0 q.1))
                  obtain ⟨f3, f4⟩ := HT2.out.greatest hlast hmax (hGR.1.resolve_right (fun q => hzs0 q.1)) hGR.2
                  simp only at f1 f2 f3 f4
                  have g1 : decide (v0 < a1) = false := decide_eq_false (by omega)
                  have g2 : decide (a2 < v0) = false := decide_eq_false (by omega)
                  have g3 : decide (vL < b1) = false := decide_eq_false (by omega)
                  have g4 : decide (b2 < vL) = false := decide_eq_false (by omega)
                  have hwl : IntKind.i64.wrap ((L : Int) - 1) = ((L - 1 : Nat) : Int) := by rw [IntWalk.i64_in _ ⟨by omega, by omega⟩]; omega
                  have hLlt : L - 1 < L := by omega
                  have x0 : w7.cell? ⟨bx, 0, none⟩ = some (.int .i64 l) := X7.cell 0
                  have x1 : w7.cell? ⟨bx, 1, none⟩ = some (.slice p L u) := X7.cell 1
                  have y0 : w7.cell? ⟨y5, 0, none⟩ = some (.int .i64 a1) := Y7.cell 0
                  have y1 : w7.cell? ⟨y5, 1, none⟩ = some (.int .i64 a2) := Y7.cell 1
                  have z0' : w7.cell? ⟨y7, 0, none⟩ = some (.int .i64 b1) := Z7.cell 0
                  have z1' : w7.cell? ⟨y7, 1, none⟩ = some (.int .i64 b2) := Z7.cell 1
                  subst hp0
                  have q0 : w7.cell? ⟨gs, off, none⟩ = some (.int .i64 v0) := by simpa using q0
                  clear hLR hGR hhead hlast hmax hac0 hacL f1 f2 f3 f4 rd7 X7 Y7 Z7 hzs0
                  go_quiet (fail)
                  have hb8 := hb7.trans ((below_drewN (Below.refl w7.heap.size w7) nq).mono hb7.size)
                  all_goals
                    have R9 : Hid (∀ v, v = Value.int .i64 ((i : Nat) + 1 : Int) → TqRel N w9 (N - (i + 1)) v (w7.drewN nq)) := by
                      intro v hv
                      exact ⟨i + 1, by rw [hv]; simp, by omega, by omega, hb1.trans (hb8.mono hb1.size)⟩
                    clear hb8 hb7 hb5 hb3 hb2 DG RD BX
                    rcases hr with hr | hr
                    · have zr : decide (r < 1) = true := decide_eq_true hr
                      go_wp2_with fail
                      go_roundg (N - (i + 1))
                      case rel => exact R9.out _ (by go_num)
                      case measure => omega
                    · have zr : decide (S < r) = true := decide_eq_true hr
                      by_cases hr1 : r < 1
                      · have zr1 : decide (r < 1) = true := decide_eq_true hr1
                        go_wp2_with fail
                        go_roundg (N - (i + 1))
                        case rel => exact R9.out _ (by go_num)
                        case measure => omega
                      · have zr1 : decide (r < 1) = false := decide_eq_false hr1
                        go_wp2_with fail
                        go_roundg (N - (i + 1))
                        case rel => exact R9.out _ (by go_num)
                        case measure => omega
                · have hr1 : 1 ≤ r := by omega
                  have hr2 : r ≤ S := by omega
                  have AN := hid (q_at (DG.out w2 hb2) r (by decide) (by omega) hr1 (by omega))
                  clear x0 x1 TO
                  go_upto_region 18 with (go_at_call 12; refine AN.out.mono ?_; rintro e w3 ⟨y, rfl, qa1, qa2, qa3, hb3'⟩)
                  have hb3 := hb2.trans (hb3'.mono hb2.size)
                  clear AN hb3'
                  go_upto_region 21 with fail
                  have LE := hid (bd_least (DG.out w3 hb3) (by decide) (by omega) (by omega) (fun z hz => by have := (ends_bd (HT2.out.dg.roll.ids z hz)).2; omega))
                  go_upto_region 22 with (go_at_call 13; refine LE.out.mono ?_; rintro e w4 ⟨a1, a2, ⟨rfl, hb4⟩, hLR⟩)
                  have Y5 := Blk.new w4 #[.int .i64 a1, .int .i64 a2] 48
                  have hb5 := (hb3.trans (hb4.mono hb3.size)).alloc (hb3.trans (hb4.mono hb3.size)).size (.cells #[.int .i64 a1, .int .i64 a2] 48)
                  generalize hW5 : w4.alloc (.cells #[.int .i64 a1, .int .i64 a2] 48) = w5 at *
                  generalize w4.heap.size = y5 at *
                  clear hW5 LE hb4
                  have GR := hid (bd_greatest (DG.out w5 hb5) (by decide) (by omega) (by omega) (fun z hz => (ends_bd (HT2.out.dg.roll.ids z hz)).1))
                  go_upto_region 23 with (go_at_call 14; refine GR.out.mono ?_; rintro e w6 ⟨b1, b2, ⟨rfl, hb6⟩, hGR⟩)
                  have Y6 := Y5.below hb6 nlr
                  have Z7 := Blk.new w6 #[.int .i64 b1, .int .i64 b2] 48
                  have Y7 := Y6.alloc (.cells #[.int .i64 b1, .int .i64 b2] 48)
                  have hb7 := (hb5.trans (hb6.mono hb5.size)).alloc (hb5.trans (hb6.mono hb5.size)).size (.cells #[.int .i64 b1, .int .i64 b2] 48)
                  generalize hW7 : w6.alloc (.cells #[.int .i64 b1, .int .i64 b2] 48) = w7 at *
                  generalize w6.heap.size = y7 at *
                  clear hW7 GR hb6 Y5 Y6
                  have hL0 : 0 < L := by
                    rcases Nat.eq_zero_or_pos L with q | q
                    · exfalso
                      have h1 := EL.out
                      rw [q] at h1
                      have h2 := HS.out
                      rw [List.length_eq_zero_iff.1 h1] at h2
                      exact hS0 (by rw [← h2]; rfl)
                    · exact q
                  have rd7 := RD.out w7 hb7
                  have X7 := BX.out w7 hb7
                  obtain ⟨gs, off, v0, e0, hp0, hac0, hgs, q0, -⟩ := rd7.at (k := 0) (by rw [EL.out]; exact hL0)
                  obtain ⟨gs', off', vL, eL', hpL, hacL, -, qL, -⟩ := rd7.at (k := L - 1) (by rw [EL.out]; omega)
                  rw [hp0] at hpL
                  simp only [Option.some.injEq, Addr.mk.injEq, and_true] at hpL
                  obtain ⟨rfl, rfl⟩ := hpL
                  have hhead := head_eq (by rw [EL.out]; exact hL0) hac0
                  have hlast : (vL, eL') ∈ its := by rw [← hacL]; have : L - 1 < its.length := by { rw [EL.out]; omega }; simp [List.getD, this]
                  have hmax : ∀ u ∈ its, u.1 ≤ vL := last_max HT2.out.bag.rise (by rw [EL.out]; exact hacL) 
                  rw [LeastR, List.take_length] at hLR
                  rw [GreatR, List.take_length] at hGR
                  have hzs0 : zs.length ≠ 0 := fun q => by
                    rw [List.length_eq_zero_iff.1 q] at es
                    exact hS0 (by rw [es]; rfl)
                  obtain ⟨f1, f2⟩ := HT2.out.least hhead hLR.1 (hLR.2.resolve_right (fun q => hzs0 q.1))
                  obtain ⟨f3, f4⟩ := HT2.out.greatest hlast hmax (hGR.1.resolve_right (fun q => hzs0 q.1)) hGR.2
                  simp only at f1 f2 f3 f4
                  have g1 : decide (v0 < a1) = false := decide_eq_false (by omega)
                  have g2 : decide (a2 < v0) = false := decide_eq_false (by omega)
                  have g3 : decide (vL < b1) = false := decide_eq_false (by omega)
                  have g4 : decide (b2 < vL) = false := decide_eq_false (by omega)
                  have hwl : IntKind.i64.wrap ((L : Int) - 1) = ((L - 1 : Nat) : Int) := by rw [IntWalk.i64_in _ ⟨by omega, by omega⟩]; omega
                  have hLlt : L - 1 < L := by omega
                  have x0 : w7.cell? ⟨bx, 0, none⟩ = some (.int .i64 l) := X7.cell 0
                  have x1 : w7.cell? ⟨bx, 1, none⟩ = some (.slice p L u) := X7.cell 1
                  have y0 : w7.cell? ⟨y5, 0, none⟩ = some (.int .i64 a1) := Y7.cell 0
                  have y1 : w7.cell? ⟨y5, 1, none⟩ = some (.int .i64 a2) := Y7.cell 1
                  have z0' : w7.cell? ⟨y7, 0, none⟩ = some (.int .i64 b1) := Z7.cell 0
                  have z1' : w7.cell? ⟨y7, 1, none⟩ = some (.int .i64 b2) := Z7.cell 1
                  subst hp0
                  have q0 : w7.cell? ⟨gs, off, none⟩ = some (.int .i64 v0) := by simpa using q0
                  clear hLR hGR hhead hlast hmax hac0 hacL f1 f2 f3 f4 rd7 X7 Y7 Z7 hzs0
                  go_quiet (fail)
                  have hb8 := hb7.trans ((below_drewN (Below.refl w7.heap.size w7) nq).mono hb7.size)
                  all_goals
                    have zr1 : decide (r < 1) = false := decide_eq_false (by omega)
                    have zr2 : decide (S < r) = false := decide_eq_false (by omega)
                    have zr3 : decide (sumL zs < r) = false := decide_eq_false (by omega)
                    have hzq : 1 ≤ S ∧ S ≤ 72057594037927935 := ⟨by omega, by rw [← HS.out]; exact HT2.out.bag.most⟩
                    have SPN := hid (q_span (DG.out _ hb8) r (by decide) (by omega) hr1 (by omega))
                    obtain ⟨w8, e8⟩ : ∃ x, w7.drewN nq = x := ⟨_, rfl⟩
                    rw [e8] at SPN hb8
                    rw [e8]
                    have y0 : w8.cell? ⟨y5, 0, none⟩ = some (.int .i64 a1) := by rw [← e8]; exact y0
                    have y1 : w8.cell? ⟨y5, 1, none⟩ = some (.int .i64 a2) := by rw [← e8]; exact y1
                    have z0' : w8.cell? ⟨y7, 0, none⟩ = some (.int .i64 b1) := by rw [← e8]; exact z0'
                    have z1' : w8.cell? ⟨y7, 1, none⟩ = some (.int .i64 b2) := by rw [← e8]; exact z1'
                    clear e8 x0 x1 hb7 hb5 hb3 hb2 q0 qL hwl hLlt
                    go_upto_region 30 with (go_at_call 15; refine SPN.out.mono ?_; rintro e w10 ⟨yf, yl, rfl, s1, s2, s3, s4, s5, hb10⟩)
                    have hb11 := hb8.trans (hb10.mono hb8.size)
                    have X10 := BX.out w10 hb11
                    have x0 : w10.cell? ⟨bx, 0, none⟩ = some (.int .i64 l) := X10.cell 0
                    have x1 : w10.cell? ⟨bx, 1, none⟩ = some (.slice (some ⟨gs, off, none⟩) L u) := X10.cell 1
                    have KT := hid (q_kth l r (RD.out w10 hb11) (by rw [EL.out]; omega) HT2.out.bag hr1 (by rw [HS.out]; exact hr2))
                    clear y0 y1 z0' z1' g1 g2 g3 g4 X10 SPN hb8 hb10
                    go_upto_region 31 with (go_at_call 16; refine KT.out.mono ?_; rintro e w12 ⟨x, rfl, k1, k2, hb12⟩)
                    have hb13 := hb11.trans (hb12.mono hb11.size)
                    obtain ⟨u1, u2⟩ := HT2.out.quant qa1 qa2
                    obtain ⟨u3, u4⟩ := HT2.out.span s4 s5 k1 k2
                    have RK := hid (fun W z (q : Below w1.heap.size w1 W) => tp_rank l z (RD.out W q) (by rw [EL.out]; omega) HT2.out.bag.pos' HT2.out.bag.most)
                    have SLK := hid (fun W (q : Below w1.heap.size w1 W) => q_slack (DG.out W q))
                    have HLD := hid (fun W => sp_holds (x := x) W s1 s2 s3 u3 u4)
                    have hc : 0 ≤ capV (sumL zs) k ∧ capV (sumL zs) k ≤ S := by
                      have hk := HT2.out.dg.k1
                      unfold capV
                      rw [if_neg (by omega), ← es]
                      exact ⟨Int.ediv_nonneg (by omega) (by omega), Int.ediv_le_self _ (by omega)⟩
                    have hsl0 : 0 ≤ l * capV (sumL zs) k := Int.mul_nonneg (by omega) hc.1
                    have hsl1 : l * capV (sumL zs) k ≤ 48 * capV (sumL zs) k := Int.mul_le_mul_of_nonneg_right l2 hc.1
                    obtain ⟨hy0, hy1⟩ : 0 ≤ y ∧ y ≤ 281474976710655 := by
                      obtain ⟨v, hv, rfl⟩ := qa3
                      obtain ⟨u, hu, rfl⟩ := List.mem_map.1 hv
                      have h1 := ends_bd (HT2.out.dg.roll.ids u hu)
                      have h2 := ends_le (HT2.out.dg.roll.ids u hu)
                      exact ⟨Int.le_trans h1.1 h2, h1.2⟩
                    have RK1 := hid (RK.out w12 y hb13)
                    have RK2 := hid (fun W q => RK.out W (y - 1) q)
                    obtain ⟨SL, eSL⟩ : ∃ SL, l * capV (sumL zs) k = SL := ⟨_, rfl⟩
                    obtain ⟨B1, eB1⟩ : ∃ B1, betV 0 y its = B1 := ⟨_, rfl⟩
                    obtain ⟨B2, eB2⟩ : ∃ B2, betV 0 (y - 1) its = B2 := ⟨_, rfl⟩
                    rw [eSL] at SLK u2 hsl0 hsl1
                    rw [eB1] at RK1 u1
                    rw [eB2] at RK2 u2
                    have w1f : IntKind.i64.wrap (y - 1) = y - 1 := IntWalk.i64_in _ ⟨by omega, by omega⟩
                    have w2f : IntKind.i64.wrap (r + SL) = r + SL := IntWalk.i64_in _ ⟨by omega, by omega⟩
                    have v1 : decide (B1 < r) = false := decide_eq_false (by omega)
                    have v2 : decide (r + SL ≤ B2) = false := decide_eq_false (by omega)
                    have X12 := BX.out w12 hb13
                    have x0 : w12.cell? ⟨bx, 0, none⟩ = some (.int .i64 l) := X12.cell 0
                    have x1 : w12.cell? ⟨bx, 1, none⟩ = some (.slice (some ⟨gs, off, none⟩) L u) := X12.cell 1
                    generalize FB yf = F at *
                    generalize FB yl = G at *
                    clear KT RK X12 u1 u2 u3 u4 k1 k2 s1 s2 s3 s4 s5 qa1 qa2 qa3 eSL eB1 eB2 hsl0 hsl1 hc hy0 hy1 hb11 hb12
                    go_wp2_with fail
                    refine RK1.out.mono ?_
                    rintro e w13 ⟨rfl, hb14⟩
                    have hb15 := hb13.trans (hb14.mono hb13.size)
                    have X13 := BX.out w13 hb15
                    have x0 : w13.cell? ⟨bx, 0, none⟩ = some (.int .i64 l) := X13.cell 0
                    have x1 : w13.cell? ⟨bx, 1, none⟩ = some (.slice (some ⟨gs, off, none⟩) L u) := X13.cell 1
                    have RK3 := hid (RK2.out w13 hb15)
                    clear RK1 RK2 X13 hb14 hb13
                    go_wp2_with fail
                    refine RK3.out.mono ?_
                    rintro e w14 ⟨rfl, hb16⟩
                    have hb17 := hb15.trans (hb16.mono hb15.size)
                    have SL3 := hid (SLK.out w14 hb17)
                    clear RK3 SLK hb16 hb15
                    go_wp2_with fail
                    refine SL3.out.mono ?_
                    rintro e w15 ⟨rfl, hb18⟩
                    have hb19 := hb17.trans (hb18.mono hb17.size)
                    have HL3 := hid (HLD.out w15)
                    clear SL3 HLD hb18 hb17
                    go_wp2_with fail
                    refine HL3.out.mono ?_
                    rintro e w16 ⟨rfl, rfl⟩
                    have R9 : Hid (∀ v, v = Value.int .i64 ((i : Nat) + 1 : Int) → TqRel N w9 (N - (i + 1)) v w15) := by
                      intro v hv
                      exact ⟨i + 1, by rw [hv]; simp, by omega, by omega, hb1.trans (hb19.mono hb1.size)⟩
                    clear hb19 HL3 DG RD BX
                    go_wp2_with fail
                    go_roundg (N - (i + 1))
                    case rel => exact R9.out _ (by go_num)
                    case measure => omega
            · have z1 : decide ((i : Int) < (N : Int)) = false := decide_eq_false (by omega)
              go_wp2_with fail
              refine (A.out _).mono ?_
              rintro e w3 ⟨rfl, hb3⟩
              go_wp2_with fail
              go_ret
              have hb9 := hbw.trans (hbi.mono hbw.size)
              exact ⟨rfl, hb9.trans (hb3.mono hb9.size)⟩
end Go.Proofs.YtlciofheonbkiaaGreat
