/- The walks of an agenda: sink, Pop. -/
import Derived.Test.YtejoecoenehooaaAg3
namespace Go.Proofs.Ytejoecoenehooaa
open Go.RowKit Go.Maps Nl

def SinkRel (a b : Nat) (v : Value) (hs1 : List Int) (w1 : World) (N : Nat) (i : Value) (wr : World) : Prop :=
  ∃ (k : Nat) (hs : List Int), i = .int .i64 k ∧ k ≤ N ∧ (k = N → N = 0) ∧ HeapDown hs k ∧ hs.Perm hs1 ∧ AgH wr a b v hs ∧ Tch1 v w1 wr
def FstRel (a b : Nat) (v : Value) (hs : List Int) (k N : Nat) (w1 : World) (f c : Value) (wr : World) : Prop :=
  ∃ (fi m : Nat), f = .int .i64 fi ∧ c = .int .i64 m ∧ 2 * k + 1 ≤ m ∧ m ≤ 2 * k + 3 ∧ (fi = k ∨ (2 * k + 1 ≤ fi ∧ fi < m ∧ fi < N ∧ aheadB (hs.getD fi 0) (hs.getD k 0) = true)) ∧
    (∀ j, 2 * k + 1 ≤ j → j < m → j < N → aheadB (hs.getD j 0) (hs.getD fi 0) = false) ∧ AgH wr a b v hs ∧ Tch1 v w1 wr

set_option maxRecDepth 100000 in
set_option maxHeartbeats 2000000 in
theorem ag_sink {w : World} {a b : Nat} {v : Value} {hs : List Int} (d : AgH w a b v hs) (hd : HeapDown hs 0) (hl : hs.length < 1000000) (hin : ∀ x ∈ hs, In64 x) :
    Calls Try.prog 73 #[.pointer (some ⟨a, 0, none⟩)] w fun e w' => e = .returned (.tuple #[]) ∧ ∃ hs', AgH w' a b v hs' ∧ HeapP hs' ∧ hs'.Perm hs ∧ Tch1 v w w' := by
  obtain ⟨N, eN⟩ : ∃ N, hs.length = N := ⟨_, rfl⟩
  have EN := hid eN
  have HD := hid hd
  have HI := hid hin
  have hN : N < 1000000 := by omega
  obtain ⟨p0, cap, rfl⟩ := d.own.val
  rw [eN] at d ⊢
  clear eN hl hd hin
  go_enter Try.func73, Try.ntmps73
  go_wp2_with fail
  go_loopw [2] (fun i wr => SinkRel a b (.slice p0 N cap) hs w N i wr) (fun i _ => N - (intOf i).toNat)
  case atStart => exact ⟨0, hs, rfl, Nat.zero_le _, fun h => h.symm, HD.out, .refl _, d, Tch1.refl _ _⟩
  case round =>
    obtain ⟨k, ys, rfl, hk, hkN, hdn, hpy, dy, Ty⟩ := hrel
    have HDy := hid hdn
    have HY := hid hpy
    have Hyl : Hid (ys.length = N) := hpy.length_eq.trans EN.out
    have HKN := hid hkN
    clear hdn hpy hkN
    obtain ⟨wo, rfl⟩ : ∃ wo : World, wo = wr := ⟨_, rfl⟩
    have cy := dy.c0
    go_wp2_with fail
    go_loopw [3, 4] (fun f c wr => FstRel a b (.slice p0 N cap) ys k N w f c wr) (fun _ c _ => 2 * k + 3 - (intOf c).toNat)
    case atStart => exact ⟨k, 2 * k + 1, rfl, by go_num, by omega, by omega, .inl rfl, fun j h1 h2 _ => by omega, dy, Ty⟩
    case round =>
      obtain ⟨fi, m, rfl, rfl, hm1, hm2, hf, hmin, dz, Tz⟩ := hrel
      have cz := dz.c0
      have HF := hid hf
      have HM := hid hmin
      clear hf hmin
      by_cases c1 : m ≤ 2 * k + 2 ∧ m < N
      · obtain ⟨c1, c2⟩ := c1
        have hkN : k < N := by
          by_cases q : k = N
          · have := HKN.out q; omega
          · omega
        have hfN : fi < N := by
          rcases HF.out with h | h
          · omega
          · omega
        rcases dz.own.shape with ⟨hv', _⟩ | ⟨g, cap', hv', _, hg', _, hr', _⟩
        · simp at hv'; omega
        simp only [Value.slice.injEq] at hv'
        obtain ⟨rfl, hxx, rfl⟩ := hv'
        have q1 := hr' m (by rw [Hyl.out]; exact c2)
        have q2 := hr' fi (by rw [Hyl.out]; exact hfN)
        have bx : In64 (ys.getD m 0) := HI.out _ (HY.out.mem_iff.1 (getD_mem (d := 0) ys m (by rw [Hyl.out]; exact c2)))
        have bz : In64 (ys.getD fi 0) := HI.out _ (HY.out.mem_iff.1 (getD_mem (d := 0) ys fi (by rw [Hyl.out]; exact hfN)))
        have Ah := hid (fun W : World => f_ahead _ _ W bx bz)
        have R : Hid (∀ n', FstRel a b (.slice (some ⟨g, 0, none⟩) N cap) ys k N w (if aheadB (ys.getD m 0) (ys.getD fi 0) then .int .i64 m else .int .i64 fi) (.int .i64 ((m : Int) + 1)) (wr.drewN n')) := fun n' => by
          cases hA : aheadB (ys.getD m 0) (ys.getD fi 0)
          · refine ⟨fi, m + 1, rfl, by go_num, by omega, by omega, ?_, fun j h1 h2 h3 => ?_, dz.drewN n', Tz.drewN n'⟩
            · rcases HF.out with h | h
              · exact .inl h
              · exact .inr ⟨h.1, by omega, h.2.2⟩
            · by_cases q : j = m
              · rw [q]; exact hA
              · exact HM.out j h1 (by omega) h3
          · refine ⟨m, m + 1, rfl, by go_num, by omega, by omega, .inr ⟨hm1, by omega, c2, ?_⟩, fun j h1 h2 h3 => ?_, dz.drewN n', Tz.drewN n'⟩
            · rcases HF.out with h | h
              · rw [← h]; exact hA
              · exact ahead_trans hA h.2.2.2
            · by_cases q : j = m
              · rw [q]; exact ahead_irrefl _
              · exact nahead_trans (HM.out j h1 (by omega) h3) (ahead_asymm hA)
        have hd1 : decide ((m : Int) ≤ 2 * (k : Int) + 2) = true := by simp; omega
        generalize ys.getD m 0 = x at *
        generalize ys.getD fi 0 = z at *
        obtain ⟨A, eA⟩ : ∃ A, aheadB x z = A := ⟨_, rfl⟩
        rw [eA] at Ah R
        clear hr' hxx eA
        cases A
        · go_wp2_with fail
          go_quiet ((go_at_call 71; exact Calls.quiet_of_same (calls_flip (Ah.out _))))
          go_wp2_with fail
          go_roundw
          case rel => exact R.out _
          case measure => simp [intOf]; omega
        · go_wp2_with fail
          go_quiet ((go_at_call 71; exact Calls.quiet_of_same (calls_flip (Ah.out _))))
          go_wp2_with fail
          go_roundw
          case rel => exact R.out _
          case measure => simp [intOf]; omega
      · have hex : 2 * k + 2 < m ∨ (m ≤ 2 * k + 2 ∧ N ≤ m) := by omega
        have hall : ∀ c, (c = 2 * k + 1 ∨ c = 2 * k + 2) → c < ys.length → aheadB (ys.getD c 0) (ys.getD fi 0) = false := fun c hc h3 => HM.out c (by omega) (by have := Hyl.out; omega) (by rw [← Hyl.out]; exact h3)
        have HA := hid hall
        clear hall c1
        by_cases hfk : fi = k
        · subst hfk
          have Fin : Hid (∃ hs', AgH wr a b (.slice p0 N cap) hs' ∧ HeapP hs' ∧ hs'.Perm hs ∧ Tch1 (.slice p0 N cap) w wr) := ⟨ys, dz, HDy.out.done HA.out, HY.out, Tz⟩
          have hff : ((fi : Int) == fi) = true := by simp
          rcases hex with h1 | ⟨h1, h2⟩
          all_goals
            go_wp2_with fail
            try rw [Exit.noGoto_ret]
            exact bodyPost_ret (results_none rfl _ _ _) rfl ⟨rfl, Fin.out⟩
        · have hF := HF.out.resolve_left hfk
          obtain ⟨f1, f2, f3, f4⟩ := hF
          have hkN : k < N := by omega
          have hff : ((fi : Int) == k) = false := by simp; omega
          have Sw := hid (ag_swapH dz k fi (by rw [Hyl.out]; exact hkN) (by rw [Hyl.out]; exact f3) (by omega) (by rw [Hyl.out]; omega))
          have D := hid (HDy.out.step (f := fi) (by omega) (by rw [Hyl.out]; exact f3) f4 HA.out)
          have Pm : Hid ((swapL ys k fi).Perm hs) := (swapL_perm (by rw [Hyl.out]; exact hkN) (by rw [Hyl.out]; exact f3)).trans HY.out
          clear f4 hfk
          rcases hex with h1 | ⟨h1, h2⟩
          all_goals
            go_wp2_with fail
            refine Sw.out.mono ?_
            rintro e w6 ⟨rfl, d6, T6⟩
            go_wp2_with fail
            go_roundw
            case rel => exact ⟨fi, _, rfl, by omega, fun h => by omega, D.out, Pm.out, d6, Tz.trans T6⟩
            case measure => simp [intOf]; omega

def AgPop (a b : Nat) (v : Value) (t : List Int) (y : Int) (w : World) (e : Ending) (w' : World) : Prop :=
  e = .returned (.tuple #[.int .i64 y, .bool true]) ∧ ∃ v', AgL w' a b v' t ∧ v'.ownBlock = v.ownBlock ∧ Tch3 a b v w w'

set_option maxRecDepth 100000 in
set_option maxHeartbeats 1000000 in
theorem ag_pop_no {w : World} {a b : Nat} {v : Value} (d : AgL w a b v []) :
    Calls Try.prog 18 #[.pointer (some ⟨a, 0, none⟩)] w fun e w' => e = .returned (.tuple #[.int .i64 0, .bool false]) ∧ w = w' := by
  obtain ⟨hs, d, hH, hp, ho, hx⟩ := d
  obtain rfl : hs = [] := List.perm_nil.1 hp
  have L := hid (ag_len d)
  go_enter Try.func18, Try.ntmps18
  go_wp2_with fail
  refine L.out.mono ?_
  rintro e w' ⟨rfl, rfl⟩
  go_wp2_with fail
  go_ret2
  exact ⟨rfl, rfl⟩

set_option maxRecDepth 100000 in
set_option maxHeartbeats 2000000 in
theorem ag_pop {w : World} {a b : Nat} {v : Value} {y : Int} {t : List Int} (d : AgL w a b v (y :: t)) (hl : t.length < 900000) :
    Calls Try.prog 18 #[.pointer (some ⟨a, 0, none⟩)] w (AgPop a b v t y w) := by
  obtain ⟨hs, d, hH, hp, ho, hx⟩ := d
  have hy := heap_head hH hp ho
  have hlen : hs.length = t.length + 1 := hp.length_eq
  have L0 := ag_len d
  obtain ⟨N, eN⟩ : ∃ N, hs.length = N := ⟨_, rfl⟩
  rw [eN] at L0
  have L := hid L0
  clear L0
  rcases d.own.shape with ⟨_, h⟩ | ⟨g, cap, rfl, _, hg, hc, hr, hf⟩
  · rw [h] at hlen; simp at hlen
  have q1 := hr 0 (by omega)
  have q2 := hr (N - 1) (by omega)
  rw [eN] at d ⊢
  have hpop : popL hs = (hs.set 0 (hs.getD (N - 1) 0)).take (N - 1) := by unfold popL; rw [eN]
  rw [hy] at q1
  have f1 := hf 0
  have ng : g ≠ a := fun e => d.ne (by rw [← e]; rfl)
  have nb : g ≠ b := fun e => d.nvb (by rw [← e]; rfl)
  have na := d.nab
  have hla := d.lta
  have hlb := d.ltb
  have pp := popL_perm (hs := hs) (by omega)
  rw [hy] at pp
  have HDS := hid (HeapDown.start hH)
  have HIN : Hid (∀ x ∈ popL hs, In64 x) := fun x h => (hx x (hp.mem_iff.1 (pp.mem_iff.2 (List.mem_cons_of_mem _ h)))).2
  have HND : Hid hs.Nodup := hp.nodup_iff.2 ho.nodup
  have biy : In64 y := (hx y (List.mem_cons_self ..)).2
  have HPL : Hid ((popL hs).length < 1000000) := by show _ < _; rw [popL_length]; omega
  have PP := hid pp
  have HPT : Hid ((popL hs).Perm t) := (List.perm_cons y).1 (pp.symm.trans hp)
  have HO := hid ho.tail
  have HX : Hid (∀ x ∈ t, 1 ≤ x ∧ In64 x) := fun x h => hx x (List.mem_cons_of_mem _ h)
  have hN1 : 1 ≤ N ∧ N < 1000000 := by omega
  generalize hs.getD (N - 1) 0 = x at *
  have dA : ∀ W : World, W.heap = w.heap → AgH ((W.setCell ⟨g, 0, none⟩ (.int .i64 x)).drew) a b (.slice (some ⟨g, 0, none⟩) N cap) (hs.set 0 x) := fun W hW => by
    have dW : AgH W a b (.slice (some ⟨g, 0, none⟩) N cap) hs := d.toH.keep (fun k _ _ => by rw [hW])
    exact (⟨dW.blk.set_other 0 _ ng.symm, dW.own.store 0 _, dW.ne⟩ : AgH _ a b _ _).drew
  have tA : ∀ W : World, W.heap = w.heap → Tch1 (.slice (some ⟨g, 0, none⟩) N cap) W ((W.setCell ⟨g, 0, none⟩ (.int .i64 x)).drew) := fun W hW => (Tch1.setCell W g 0 _ rfl).drew
  obtain ⟨M, eM⟩ : ∃ M, N - 1 = M := ⟨_, rfl⟩
  rw [eM] at q2 hpop
  have eMN : N = M + 1 := by omega
  have hM : ((N : Int) - 1) = (M : Int) := by omega
  have hN0 : ((N : Int) == 0) = false := by simp; omega
  have hcM : M ≤ cap := by omega
  subst eMN
  have c0 := d.c0
  have D := hid d
  have DA := hid dA
  have TA := hid tA
  have HPOP := hid hpop
  clear d dA tA hH hp ho hx hy hlen hr hf hc pp hpop eM eN hl
  go_enter Try.func18, Try.ntmps18
  go_wp2_with fail
  refine L.out.mono ?_
  rintro e w' ⟨rfl, rfl⟩
  go_wp2_with fail
  go_quiet (fail)
  have c0' : (w.drewN nq).cell? ⟨a, 0, none⟩ = some (.slice (some ⟨g, 0, none⟩) (M + 1) cap) := c0
  have q2' : (w.drewN nq).cell? ⟨g, M, none⟩ = some (.int .i64 x) := q2
  have q1' : (w.drewN nq).cell? ⟨g, 0, none⟩ = some (.int .i64 y) := q1
  have f1' : (w.drewN nq).frozen? ⟨g, 0, none⟩ = false := f1
  have dA := DA.out (w.drewN nq) rfl
  have tA : Tch1 (.slice (some ⟨g, 0, none⟩) (M + 1) cap) w (((w.drewN nq).setCell ⟨g, 0, none⟩ (.int .i64 x)).drew) := ((Tch1.refl _ w).drewN nq).trans (TA.out (w.drewN nq) rfl)
  clear c0 q1 q2 f1 hN0 hM
  generalize w.drewN nq = w1 at *
  go_wp2_with fail
  go_region
  generalize ((w1.setCell ⟨g, 0, none⟩ (.int .i64 x)).drew) = w2 at *
  clear c0' q1' q2' f1'
  have c2 := dA.c0
  have f2 := dA.blk.free 0
  have dB : AgH (w2.setCell ⟨a, 0, none⟩ (.slice (some ⟨g, 0, none⟩) M cap)) a b (.slice (some ⟨g, 0, none⟩) M cap) (popL hs) := by
    refine ⟨dA.blk.set 0 _, ?_, fun e => ng (by simpa [Value.ownBlock] using e)⟩
    rw [HPOP.out]
    exact (dA.own.take M (by omega)).keep (fun k hk => Below.heap_setCell _ ⟨a, 0, none⟩ _ k (fun e => ng (by simp only [Value.ownBlock, Option.some.injEq] at hk; exact hk.trans e)))
  have tB : Tch3 a b (.slice (some ⟨g, 0, none⟩) (M + 1) cap) w (w2.setCell ⟨a, 0, none⟩ (.slice (some ⟨g, 0, none⟩) M cap)) := (tA.to3 a b).trans (Tch3.setCell _ a 0 _ (.inl rfl)) (Fr.refl _ _)
  have sB : SetM (w2.setCell ⟨a, 0, none⟩ (.slice (some ⟨g, 0, none⟩) M cap)) b hs := D.out.set.keep ((Below.heap_setCell _ ⟨a, 0, none⟩ _ b (Ne.symm na)).trans (tA.block b hlb (fun e => nb (by simpa [Value.ownBlock] using e))))
  go_wp2_with fail
  generalize w2.setCell ⟨a, 0, none⟩ (.slice (some ⟨g, 0, none⟩) M cap) = w3 at *
  refine (ag_sink dB HDS.out HPL.out HIN.out).mono ?_
  rintro e w4 ⟨rfl, hs4, d4, hH4, hp4, T4⟩
  have T4' := T4.to3 a b
  have sC := sB.keep (T4.block b sB.lt (fun e => nb (by simpa [Value.ownBlock] using e)))
  have c41 := d4.c1
  have HH4 := hid hH4
  have HP4 : Hid (hs.Perm (y :: hs4)) := PP.out.trans (List.Perm.cons y hp4.symm)
  have HT4 : Hid (hs4.Perm t) := hp4.trans HPT.out
  clear hH4 hp4
  go_wp2_with (at_delete; refine deleteSet _ _ sC biy HP4.out HND.out rfl rfl rfl rfl ?_; intro w5 S5 mt5)
  go_ret2
  have fr : ∀ v' : Value, v'.ownBlock = some g → Fr w (.slice (some ⟨g, 0, none⟩) (M + 1) cap) v' := fun v' e => .inl (by rw [e]; rfl)
  have d5 := d4.keep (w' := w5) (fun k hk hc => mt5.grown.block k hk (fun e => by
    cases e
    rcases hc with h | h
    · exact na h.symm
    · exact nb (by simpa [Value.ownBlock] using h)))
  exact ⟨rfl, _, ⟨hs4, ⟨d5.blk, d5.own, S5, d5.ne⟩, HH4.out, HT4.out, HO.out, HX.out⟩, rfl, (tB.trans T4' (fr (.slice (some ⟨g, 0, none⟩) M cap) rfl)).trans (Tch3.of_map mt5) (fr (.slice (some ⟨g, 0, none⟩) M cap) rfl)⟩
end Go.Proofs.Ytejoecoenehooaa
