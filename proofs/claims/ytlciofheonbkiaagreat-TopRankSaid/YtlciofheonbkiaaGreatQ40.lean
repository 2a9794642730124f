/- Texts laid together. -/
import Derived.Test.YtlciofheonbkiaaGreatQ38
import Derived.Test.YtlciofheonbkiaaGreatQ39
import Derived.Test.YtlciofheonbkiaaGreatQ28
import Derived.Test.YtlciofheonbkiaaGreatQ32
import Derived.Test.YtlciofheonbkiaaGreatQ13
import Derived.Test.YtlciofheonbkiaaGreatQ37
/- The median of one value: 5, twice. -/
namespace Go.Proofs.YtlciofheonbkiaaGreat
open Go.RowKit Nl

theorem so_rank {w : World} {dg q g h m : Nat} {kind k : Int} (d : DgV w dg q g h kind 3 k m [(13, 2)]) : Calls Tryz.prog 121 #[.pointer (some ⟨dg, 0, none⟩), .int .i64 1, .int .i64 2] w fun e w' => e = .returned (.tuple #[.int .i64 1, .int .i64 0]) ∧ Below w.heap.size w w' := by
  have WR := hid (so_wrong d)
  have DN := hid (dg_n d)
  have es : sumL ([(13, 2)] : List Nd) = 2 := rfl
  rw [es] at DN
  have PU := hid (partup_any 2 1 2 w (by decide) (by decide) (by decide) (by decide) (by decide) (by decide))
  rw [show Rk.partUpV 2 1 2 = 1 by decide, show Rk.partUpOk 2 1 2 = true by decide] at PU
  clear es d
  go_enter Tryz.func121, Tryz.ntmps121
  go_wp2_with fail
  refine WR.out.mono ?_
  rintro e w2 ⟨rfl, rfl⟩
  go_wp2_with fail
  refine DN.out.mono ?_
  rintro e w2 ⟨rfl, rfl⟩
  go_wp2_with fail
  refine PU.out.mono ?_
  rintro e w2 ⟨rfl, hd⟩
  have hb : Below w.heap.size w w2 := by obtain ⟨n, rfl⟩ := hd; exact below_drewN (Below.refl _ _) n
  go_wp2_with fail
  go_ret2
  exact ⟨rfl, hb⟩
theorem so_of {w : World} {dg q g h m : Nat} {kind k : Int} (d : DgV w dg q g h kind 3 k m [(13, 2)]) (hm : m ≤ 100000) : Calls Tryz.prog 69 #[.pointer (some ⟨dg, 0, none⟩), .int .i64 1, .int .i64 2] w fun e w' => e = .returned (.tuple #[.int .i64 5, .int .i64 0]) ∧ Below w.heap.size w w' := by
  have RN := hid (so_rank d)
  have AT := hid (fun W (y : DgV W dg q g h kind 3 k m [(13, 2)]) => so_at y hm)
  go_enter Tryz.func69, Tryz.ntmps69
  go_wp2_with fail
  refine RN.out.mono ?_
  rintro e w2 ⟨rfl, hb⟩
  have AT2 := AT.out w2 (d.below hb (Nat.le_refl _))
  clear RN AT d
  go_wp2_with fail
  refine AT2.mono ?_
  rintro e w3 ⟨rfl, hb3⟩
  go_wp2_with fail
  go_ret2
  exact ⟨rfl, hb.trans (hb3.mono hb.size)⟩
theorem so_median {w : World} {dg q g h m : Nat} {kind k : Int} (d : DgV w dg q g h kind 3 k m [(13, 2)]) (hm : m ≤ 100000) : Calls Tryz.prog 24 #[.pointer (some ⟨dg, 0, none⟩)] w fun e w' => e = .returned (.tuple #[.int .i64 5, .int .i64 0]) ∧ Below w.heap.size w w' := by
  have OF := hid (so_of d hm)
  clear d
  go_enter Tryz.func24, Tryz.ntmps24
  go_wp2_with fail
  refine OF.out.mono ?_
  rintro e w2 ⟨rfl, hb⟩
  go_wp2_with fail
  go_ret2
  exact ⟨rfl, hb⟩
end Go.Proofs.YtlciofheonbkiaaGreat

/- The walk of alive. -/
namespace Go.Proofs.YtlciofheonbkiaaGreat
open Go.RowKit Nl Vy Sh

theorem tp_ins : dgIns 3 2 [] 5 2 = ([(13, 2)], 0) := by decide
theorem tp_text : textL 3 2 [(13, 2)] = [100, 105, 103, 101, 115, 116, 32, 51, 32, 50, 32, 50, 10, 53, 46, 46, 53, 32, 50, 10] := by
  have e1 : endsLo 3 13 = 5 := by decide
  have e2 : endsHi 3 13 = 5 := by decide
  have e5 : sumL ([(13, 2)] : List Nd) = 2 := by decide
  have d (n : Nat) (h : n < 10) : digL (n : Int) = [UInt8.ofNat (48 + n)] := by
    unfold digL; rw [if_neg (by omega), Int.toNat_natCast, decL_low h]
  have d2 : digL 2 = [50] := d 2 (by decide)
  have d3 : digL 3 = [51] := d 3 (by decide)
  have d5 : digL 5 = [53] := d 5 (by decide)
  unfold textL headL bodyL
  rw [e5]
  simp only [List.map_cons, List.map_nil, lineL, e1, e2, d2, d3, d5]
  rfl
theorem tp_enc : 4 < (encL 3 2 2 [13] [2]).length := by
  unfold encL
  rw [seal_len]
  unfold headB
  simp only [List.length_append, List.length_cons, List.length_nil]
  omega
set_option maxRecDepth 100000 in
set_option maxHeartbeats 1000000 in
theorem t_alive (w : World) : Calls Tryz.prog 6 #[] w fun e w' => e = .returned (.bool true) ∧ Below w.heap.size w w' := by
  have NW := hid (dg_new 2 3 2 w (by decide) (by decide))
  have IN := hid (fun W dg q g h (d : DgV W dg q g h 2 3 2 20000 []) => dg_insert d 5 2 (by decide) (by decide) (by decide) ⟨by decide, by decide⟩ ⟨by decide, by decide⟩)
  rw [tp_ins] at IN
  have TX := hid (fun (W : World) dg q g h (d : DgV W dg q g h 2 3 2 20000 [(13, 2)]) => s_text d (by decide) ⟨by decide, by decide⟩ ⟨by decide, by decide⟩ ⟨by decide, by decide⟩ (by intro x hx; simp at hx; rcases hx with rfl; exact ⟨by decide, by decide⟩))
  rw [tp_text] at TX
  have EN := hid (fun (W : World) dg q g h (d : DgV W dg q g h 2 3 2 20000 [(13, 2)]) => w_encode d (by decide) (by decide))
  have ME := hid (fun (W : World) dg q g h (d : DgV W dg q g h 2 3 2 20000 [(13, 2)]) => so_median d (by decide))
  obtain ⟨E, eE⟩ : ∃ E : List UInt8, E = encL 3 2 (sumL [(13, 2)]) (([(13, 2)] : List Nd).map (fun x => x.1)) (([(13, 2)] : List Nd).map (fun x => x.2)) := ⟨_, rfl⟩
  have hE : 4 < E.length := by rw [eE]; exact tp_enc
  rw [← eE] at EN
  obtain ⟨B, eB⟩ : ∃ B : ByteArray, B = ⟨E.toArray⟩ := ⟨_, rfl⟩
  have z : decide (4 < (B.size : Int)) = true := decide_eq_true (by rw [eB]; show 4 < ((E.toArray.size : Nat) : Int); simp; omega)
  rw [← eB] at EN
  clear eB eE hE
  go_enter Tryz.func6, Tryz.ntmps6
  go_wp2_with fail
  refine NW.out.mono ?_
  rintro e w1 ⟨dg, q, g, h, rfl, d1, p1, p2, p3, p4, hb1⟩
  have IN1 := IN.out _ _ _ _ _ d1
  clear NW IN d1
  go_wp2_with fail
  refine IN1.mono ?_
  rintro e w2 ⟨rfl, h', d2, hh, hc⟩
  have hb2 : Below w.heap.size w w2 := ChB.of_new hb1 hc (fun j hj => by rcases hj with e | e | e | e <;> omega)
  have EN2 := EN.out _ _ _ _ _ d2
  clear IN1 hc hb1 EN
  go_wp2_with fail
  refine EN2.mono ?_
  rintro e w3 ⟨rfl, hb3⟩
  have d3 := d2.below hb3 (Nat.le_refl _)
  have TX3 := TX.out _ _ _ _ _ d3
  have hbA := hb2.trans (hb3.mono hb2.size)
  clear EN2 d2 TX
  go_wp2_with fail
  refine TX3.mono ?_
  rintro e w4 ⟨rfl, hb4⟩
  have d4 := d3.below hb4 (Nat.le_refl _)
  have ME4 := ME.out _ _ _ _ _ d4
  have hbB := hbA.trans (hb4.mono hbA.size)
  clear TX3 d3 ME
  go_wp2_with fail
  refine ME4.mono ?_
  rintro e w5 ⟨rfl, hb5⟩
  have hbC := hbB.trans (hb5.mono hbB.size)
  clear ME4 d4
  go_wp2_with fail
  go_ret
  exact ⟨rfl, hbC⟩
end Go.Proofs.YtlciofheonbkiaaGreat

/- The walk of TopRank. -/
namespace Go.Proofs.YtlciofheonbkiaaGreat
open Go.RowKit Nl

theorem Crowd.cb_lt {W : World} {B0 c : Nat} {l : Int} {vd vb : Value} {rs : List Rec} (C : Crowd W B0 l c vd vb rs) (k : Nat) (h : CB vd vb rs k) : k < W.heap.size := by
  rcases h with h | h | ⟨j, hj, h⟩
  · exact (World.ownsRow.lt C.rowD k h).2
  · exact (World.ownsRow.lt C.rowB k h).2
  · exact (C.each j hj).d.ltB k h
def TrRel (l : Int) (B0 c : Nat) (vd vb : Value) (n M : Nat) (w : World) (gn : Nat) (i : Value) (wr : World) : Prop :=
  ∃ (j : Nat) (rs : List Rec) (X : List Int), i = .int .i64 j ∧ j ≤ M ∧ M ≤ gn + j ∧ rs.length = n ∧ X.length ≤ j ∧ CrowdT l rs X ∧ Crowd wr B0 l c vd vb rs ∧ Below B0 w wr
theorem few_yes {l : Int} {k h most : Nat} (e : fewB l k h most = true) : 1 ≤ l ∧ l ≤ 48 ∧ 1 ≤ k ∧ k ≤ 5 ∧ h ≤ most := by
  unfold fewB at e
  simp only [Bool.and_eq_true, decide_eq_true_eq] at e
  omega
set_option maxRecDepth 100000 in
set_option maxHeartbeats 4000000 in
theorem TopRank_walk (l y : Int) (v2 : Value) (ks : List Int) (v3 : Value) (os : List HopE) (w : World) (_bl : In64 l) (_by : In64 y) (hk : RdIA w v2 ks) (ho : RdHops w v3 os) :
    Calls Tryz.prog 3 #[.int .i64 l, .int .i64 y, v2, v3] w fun e w' => e = .returned (.bool true) ∧ Below w.heap.size w w' := by
  have A := hid (fun W : World => t_alive W)
  have hk' := hid hk
  obtain ⟨pk, ck, rfl⟩ := hk.1.val
  obtain ⟨po, co, rfl, hat⟩ := id ho
  have HO := hid ho
  clear hat hk ho
  obtain ⟨M, eM⟩ : ∃ M, os.length = M := ⟨_, rfl⟩
  have FW := t_few l pk po ks.length ck os.length co 150 w
  rw [eM] at FW HO ⊢
  have EM := hid eM
  clear eM
  cases hf : fewB l ks.length M 150
  · rw [hf] at FW
    have FW := hid FW
    go_enter Tryz.func3, Tryz.ntmps3
    go_wp2_with fail
    refine FW.out.mono ?_
    rintro e w1 ⟨rfl, rfl⟩
    go_wp2_with fail
    refine (A.out _).mono ?_
    rintro e w2 ⟨rfl, hb2⟩
    go_wp2_with fail
    go_ret
    exact ⟨rfl, hb2⟩
  · rw [hf] at FW
    have FW := hid FW
    obtain ⟨l1, l2, n1, n5, hM⟩ := few_yes hf
    have BG := hid (t_begun l hk'.out l1 l2 n5)
    clear hf
    go_enter Tryz.func3, Tryz.ntmps3
    go_wp2_with fail
    refine FW.out.mono ?_
    rintro e w1 ⟨rfl, rfl⟩
    go_wp2_with fail
    refine BG.out.mono ?_
    rintro e w2 (⟨rfl, hb2⟩ | ⟨c, vd, vb, rs0, rfl, hn, C0, T0, hb2⟩)
    · go_wp2_with fail
      refine (A.out _).mono ?_
      rintro e w3 ⟨rfl, hb3⟩
      go_wp2_with fail
      go_ret
      exact ⟨rfl, hb2.trans (hb3.mono hb2.size)⟩
    · obtain ⟨D, cd, E, ce, rfl, rfl, -, -⟩ := C0.shape (by omega)
      rw [hn] at C0
      generalize ks.length = N at *
      have R0 : Hid (TrRel l w.heap.size c (.slice (some ⟨D, 0, none⟩) N cd) (.slice (some ⟨E, 0, none⟩) N ce) N M w M (.int .i64 (0 : Nat)) w2) :=
        ⟨0, rs0, [], rfl, Nat.zero_le _, Nat.le_refl _, hn, Nat.le_refl _, T0, C0, hb2⟩
      clear C0 T0 hb2 hn FW BG
      go_wp2_with fail
      go_loopg [31] M (fun gn i wr => TrRel l w.heap.size c (.slice (some ⟨D, 0, none⟩) N cd) (.slice (some ⟨E, 0, none⟩) N ce) N M w gn i wr)
      case atStart => exact R0.out
      case round =>
        clear R0
        obtain ⟨j, rs, X, rfl, hj, hgn, hn, hXj, T, C, hbl⟩ := hrel
        by_cases hlt : j < M
        · have ho' := HO.out.below hbl (Nat.le_refl _)
          obtain ⟨p', c', hv', hat⟩ := ho'
          obtain ⟨g, off, hp, hg, c0, c1, c2, c3, c4, ok⟩ := hat j (by rw [EM.out]; exact hlt)
          simp only [Value.slice.injEq] at hv'
          obtain ⟨rfl, -, -⟩ := hv'
          subst hp
          obtain ⟨o, eo⟩ : ∃ o, os.getD j hop0 = o := ⟨_, rfl⟩
          rw [eo] at c0 c1 c2 c3 c4 ok
          have z0 : decide ((j : Int) < (M : Int)) = true := decide_eq_true (by omega)
          have X1 := Blk.new wr #[.int .i64 o.kind, .int .i64 o.on, .int .i64 o.other, .int .i64 o.x, .int .i64 o.wt] 30
          have hba : Below wr.heap.size wr (wr.alloc (.cells #[.int .i64 o.kind, .int .i64 o.on, .int .i64 o.other, .int .i64 o.x, .int .i64 o.wt] 30)) := (Below.refl _ _).alloc (Nat.le_refl _) _
          have C1 := C.below hba
          have hb1 := hbl.trans (hba.mono hbl.size)
          have EN := hid hn
          have HT := hid T
          have CBL := hid (fun k q => C.cb_lt k q)
          have ok2 := ok.2.1
          clear eo C T hbl hat hn
          go_upto_region 9 with fail
          generalize hW : wr.alloc (.cells #[.int .i64 o.kind, .int .i64 o.on, .int .i64 o.other, .int .i64 o.x, .int .i64 o.wt] 30) = w1 at *
          clear hW c0 c1 c2 c3 c4
          have x0 : w1.cell? ⟨wr.heap.size, 0, none⟩ = some (.int .i64 o.kind) := X1.cell 0
          have x1 : w1.cell? ⟨wr.heap.size, 1, none⟩ = some (.int .i64 o.on) := X1.cell 1
          have x2 : w1.cell? ⟨wr.heap.size, 2, none⟩ = some (.int .i64 o.other) := X1.cell 2
          have x3 : w1.cell? ⟨wr.heap.size, 3, none⟩ = some (.int .i64 o.x) := X1.cell 3
          have x4 : w1.cell? ⟨wr.heap.size, 4, none⟩ = some (.int .i64 o.wt) := X1.cell 4
          have HP := hid (t_hop o ok C1 HT.out (show X.length < 150 by omega) (by rw [EN.out]; exact n1) (by rw [EN.out]; exact n5))
          rw [EN.out] at HP
          have AT := hid (fun W => t_at o.on N W ok2 n1 n5)
          have hI := atV_lt o.on n1
          obtain ⟨I, eI⟩ : ∃ I, atV o.on N = I := ⟨_, rfl⟩
          rw [eI] at AT hI
          have C1H := hid C1
          clear C1 ok ok2 eI
          go_wp2_with fail
          refine HP.out.mono ?_
          rintro e w4 ⟨rfl, rs4, X4, hn4, hX4, C4, T4, hc4⟩
          have hb4 := hb1.trans (hc4.below (fun k _ q => C1H.out.cb_low k q) hb1.size)
          have X4b := X1.keep (hc4.block wr.heap.size X1.lt (fun q => by have := CBL.out _ q; omega))
          have x1 : w4.cell? ⟨wr.heap.size, 1, none⟩ = some (.int .i64 o.on) := X4b.cell 1
          have c1 : w4.cell? ⟨c, 1, none⟩ = some (.slice (some ⟨D, 0, none⟩) N cd) := C4.blk.cell 1
          have HC4 := hid C4
          have HT4 := hid T4
          have HN4 := hid hn4
          clear x0 x2 x3 x4 C4 T4 hn4 hc4 X4b X1 C1H HP HT EN CBL
          go_upto_region 11 with fail
          go_quiet ((go_at_call 9; exact Calls.quiet_of_same (calls_flip (AT.out _))))
          have hB2 := below_drewN (Below.refl w4.heap.size w4) nq
          have C5 := HC4.out.below hB2
          have hb5 := hb4.trans (hB2.mono hb4.size)
          clear HC4 hb4 hB2 x1 c1 AT
          generalize w4.drewN nq = w5 at *
          clear w4
          have hI4 : I < rs4.length := by rw [HN4.out]; exact hI
          have OK := C5.each I hI4
          obtain ⟨p0, u0, ev⟩ := OK.rd.val
          have STD := hid (fun W (q : Below w5.heap.size w5 W) => t_stands y (OK.d.below q (Nat.le_refl _)) (OK.rd.below q (Nat.le_refl _)) (HT4.out I hI4) (show X4.length ≤ 150 by omega))
          have FX := hid (fun W (q : Below w5.heap.size w5 W) => (show W.cell? ⟨c, 1, none⟩ = some (.slice (some ⟨D, 0, none⟩) N cd) ∧ W.cell? ⟨c, 2, none⟩ = some (.slice (some ⟨E, 0, none⟩) N ce) ∧ W.cell? ⟨D, I, none⟩ = some (.pointer (some ⟨rs4[I].dg, 0, none⟩)) ∧ W.cell? ⟨E, I * 2, none⟩ = some (.int .i64 l) ∧ W.cell? ⟨E, I * 2 + 1, none⟩ = some (.slice p0 rs4[I].its.length u0) ∧ Below w5.heap.size w5 W from by
            have CI := (C5.below q).cells HN4.out I hI4
            rw [ev] at CI
            exact ⟨CI.1, CI.2.1, CI.2.2.1, CI.2.2.2.1, CI.2.2.2.2, q⟩))
          rw [ev] at STD
          have hB1 : Below w5.heap.size w5 (w5.drewN 1) := below_drewN (Below.refl w5.heap.size w5) 1
          have HC5 := hid C5
          have hXX : X4.length ≤ j + 1 := by omega
          obtain ⟨r, er⟩ : ∃ r, rs4[I] = r := ⟨_, rfl⟩
          rw [er] at STD FX
          clear er OK ev C5
          go_upto_region 12 with fail
          go_region_held3 (fun W => W.cell? ⟨c, 1, none⟩ = some (.slice (some ⟨D, 0, none⟩) N cd) ∧ W.cell? ⟨c, 2, none⟩ = some (.slice (some ⟨E, 0, none⟩) N ce) ∧ W.cell? ⟨D, I, none⟩ = some (.pointer (some ⟨r.dg, 0, none⟩)) ∧ W.cell? ⟨E, I * 2, none⟩ = some (.int .i64 l) ∧ W.cell? ⟨E, I * 2 + 1, none⟩ = some (.slice p0 r.its.length u0) ∧ Below w5.heap.size w5 W)
            (first
              | exact FX.out _ hB1
              | exact FX.out _ hBn)
            ((go_at_call 10; have hBa := (‹_ ∧ _ ∧ _ ∧ _ ∧ _ ∧ Below w5.heap.size w5 _›).2.2.2.2.2; refine (STD.out _ hBa).mono ?_; rintro e w6 ⟨rfl, hb6⟩
              have hBn := hBa.trans (hb6.mono hBa.size)))
          all_goals
            have R9 : Hid (∀ i, i = Value.int .i64 ((j : Nat) + 1 : Int) → TrRel l w.heap.size c (.slice (some ⟨D, 0, none⟩) N cd) (.slice (some ⟨E, 0, none⟩) N ce) N M w (M - (j + 1)) i w6) := by
              intro i hi
              refine ⟨j + 1, rs4, X4, ?_, by omega, by omega, HN4.out, hXX, HT4.out, HC5.out.below hBn, hb5.trans (hBn.mono hb5.size)⟩
              rw [hi]; simp
            clear HC5 HT4 STD FX hb6
            go_wp2_with fail
            go_roundg (M - (j + 1))
            case rel => exact R9.out _ (by go_num)
            case measure => omega
        · have z0 : decide ((j : Int) < (M : Int)) = false := decide_eq_false (by omega)
          clear C T
          go_wp2_with fail
          refine (A.out _).mono ?_
          rintro e w3 ⟨rfl, hb3⟩
          go_wp2_with fail
          go_ret
          exact ⟨rfl, hbl.trans (hb3.mono hbl.size)⟩
end Go.Proofs.YtlciofheonbkiaaGreat
