/- Texts laid together. -/
import Derived.Test.YtdnlejboijkcfaaGreatDoorP02
import Derived.Test.YtdnlejboijkcfaaGreatDoorP01
import Derived.Test.YtdnlejboijkcfaaGreatDoorP07
/- Texts laid together: Ag4, Ag5, OpenInts, PressMath, PressMath2. -/
/- The walks of an agenda: sink, Pop. -/
namespace Go.Proofs.YtdnlejboijkcfaaGreatDoor
set_option maxHeartbeats 8000000
set_option maxRecDepth 100000
open Go.RowKit Go.Maps Nl
def SinkRel (a b : Nat) (v : Value) (hs1 : List Int) (w1 : World) (N : Nat) (i : Value) (wr : World) : Prop :=
  ∃ (k : Nat) (hs : List Int), i = .int .i64 k ∧ k ≤ N ∧ (k = N → N = 0) ∧ HeapDown hs k ∧ hs.Perm hs1 ∧ AgH wr a b v hs ∧ Tch1 v w1 wr
def FstRel (a b : Nat) (v : Value) (hs : List Int) (k N : Nat) (w1 : World) (f c : Value) (wr : World) : Prop :=
  ∃ (fi m : Nat), f = .int .i64 fi ∧ c = .int .i64 m ∧ 2 * k + 1 ≤ m ∧ m ≤ 2 * k + 3 ∧ (fi = k ∨ (2 * k + 1 ≤ fi ∧ fi < m ∧ fi < N ∧ aheadB (hs.getD fi 0) (hs.getD k 0) = true)) ∧
    (∀ j, 2 * k + 1 ≤ j → j < m → j < N → aheadB (hs.getD j 0) (hs.getD fi 0) = false) ∧ AgH wr a b v hs ∧ Tch1 v w1 wr
theorem ag_sink {w : World} {a b : Nat} {v : Value} {hs : List Int} (d : AgH w a b v hs) (hd : HeapDown hs 0) (hl : hs.length < 10000000) (hin : ∀ x ∈ hs, In64 x) :
    Calls Tryz.prog 216 #[.pointer (some ⟨a, 0, none⟩)] w fun e w' => e = .returned (.tuple #[]) ∧ ∃ hs', AgH w' a b v hs' ∧ HeapP hs' ∧ hs'.Perm hs ∧ Tch1 v w w' := by
  obtain ⟨N, eN⟩ : ∃ N, hs.length = N := ⟨_, rfl⟩
  have EN := hid eN
  have HD := hid hd
  have HI := hid hin
  have hN : N < 10000000 := by omega
  obtain ⟨p0, cap, rfl⟩ := d.own.val
  rw [eN] at d ⊢
  clear eN hl hd hin
  go_enter Tryz.func216, Tryz.ntmps216
  go_wp2_with fail
  go_loopw [2] (fun i wr => SinkRel a b (.slice p0 N cap) hs w N i wr) (fun i _ => N - (intOf i).toNat)
  case atStart => exact ⟨0, hs, rfl, Nat.zero_le _, fun h => h.symm, HD.out, .refl _, d, Tch1.refl _ _⟩
  case round =>
    obtain ⟨k, ys, rfl, hk, hkN, hdn, hpy, dy, Ty⟩ := hrel
    have HDy := hid hdn
    have HY := hid hpy
    have Hyl : Hid (ys.length = N) := hpy.length_eq.trans EN.out
    have HKN := hid hkN
    clear hdn hpy hkN
    obtain ⟨wo, rfl⟩ : ∃ wo : World, wo = wr := ⟨_, rfl⟩
    have cy := dy.c0
    go_wp2_with fail
    go_loopw [3, 4] (fun f c wr => FstRel a b (.slice p0 N cap) ys k N w f c wr) (fun _ c _ => 2 * k + 3 - (intOf c).toNat)
    case atStart => exact ⟨k, 2 * k + 1, rfl, by go_num, by omega, by omega, .inl rfl, fun j h1 h2 _ => by omega, dy, Ty⟩
    case round =>
      obtain ⟨fi, m, rfl, rfl, hm1, hm2, hf, hmin, dz, Tz⟩ := hrel
      have cz := dz.c0
      have HF := hid hf
      have HM := hid hmin
      clear hf hmin
      by_cases c1 : m ≤ 2 * k + 2 ∧ m < N
      · obtain ⟨c1, c2⟩ := c1
        have hkN : k < N := by
          by_cases q : k = N
          · have := HKN.out q; omega
          · omega
        have hfN : fi < N := by
          rcases HF.out with h | h
          · omega
          · omega
        rcases dz.own.shape with ⟨hv', _⟩ | ⟨g, cap', hv', _, hg', _, hr', _⟩
        · simp at hv'; omega
        simp only [Value.slice.injEq] at hv'
        obtain ⟨rfl, hxx, rfl⟩ := hv'
        have q1 := hr' m (by rw [Hyl.out]; exact c2)
        have q2 := hr' fi (by rw [Hyl.out]; exact hfN)
        have bx : In64 (ys.getD m 0) := HI.out _ (HY.out.mem_iff.1 (getD_mem (d := 0) ys m (by rw [Hyl.out]; exact c2)))
        have bz : In64 (ys.getD fi 0) := HI.out _ (HY.out.mem_iff.1 (getD_mem (d := 0) ys fi (by rw [Hyl.out]; exact hfN)))
        have Ah := hid (fun W : World => f_ahead _ _ W bx bz)
        have R : Hid (∀ n', FstRel a b (.slice (some ⟨g, 0, none⟩) N cap) ys k N w (if aheadB (ys.getD m 0) (ys.getD fi 0) then .int .i64 m else .int .i64 fi) (.int .i64 ((m : Int) + 1)) (wr.drewN n')) := fun n' => by
          cases hA : aheadB (ys.getD m 0) (ys.getD fi 0)
          · refine ⟨fi, m + 1, rfl, by go_num, by omega, by omega, ?_, fun j h1 h2 h3 => ?_, dz.drewN n', Tz.drewN n'⟩
            · rcases HF.out with h | h
              · exact .inl h
              · exact .inr ⟨h.1, by omega, h.2.2⟩
            · by_cases q : j = m
              · rw [q]; exact hA
              · exact HM.out j h1 (by omega) h3
          · refine ⟨m, m + 1, rfl, by go_num, by omega, by omega, .inr ⟨hm1, by omega, c2, ?_⟩, fun j h1 h2 h3 => ?_, dz.drewN n', Tz.drewN n'⟩
            · rcases HF.out with h | h
              · rw [← h]; exact hA
              · exact ahead_trans hA h.2.2.2
            · by_cases q : j = m
              · rw [q]; exact ahead_irrefl _
              · exact nahead_trans (HM.out j h1 (by omega) h3) (ahead_asymm hA)
        have hd1 : decide ((m : Int) ≤ 2 * (k : Int) + 2) = true := by simp; omega
        generalize ys.getD m 0 = x at *
        generalize ys.getD fi 0 = z at *
        obtain ⟨A, eA⟩ : ∃ A, aheadB x z = A := ⟨_, rfl⟩
        rw [eA] at Ah R
        clear hr' hxx eA
        cases A
        · go_wp2_with fail
          go_quiet ((go_at_call 220; exact Calls.quiet_of_same (calls_flip (Ah.out _))))
          go_wp2_with fail
          go_roundw
          case rel => exact R.out _
          case measure => simp [intOf]; omega
        · go_wp2_with fail
          go_quiet ((go_at_call 220; exact Calls.quiet_of_same (calls_flip (Ah.out _))))
          go_wp2_with fail
          go_roundw
          case rel => exact R.out _
          case measure => simp [intOf]; omega
      · have hex : 2 * k + 2 < m ∨ (m ≤ 2 * k + 2 ∧ N ≤ m) := by omega
        have hall : ∀ c, (c = 2 * k + 1 ∨ c = 2 * k + 2) → c < ys.length → aheadB (ys.getD c 0) (ys.getD fi 0) = false := fun c hc h3 => HM.out c (by omega) (by have := Hyl.out; omega) (by rw [← Hyl.out]; exact h3)
        have HA := hid hall
        clear hall c1
        by_cases hfk : fi = k
        · subst hfk
          have Fin : Hid (∃ hs', AgH wr a b (.slice p0 N cap) hs' ∧ HeapP hs' ∧ hs'.Perm hs ∧ Tch1 (.slice p0 N cap) w wr) := ⟨ys, dz, HDy.out.done HA.out, HY.out, Tz⟩
          have hff : ((fi : Int) == fi) = true := by simp
          rcases hex with h1 | ⟨h1, h2⟩
          all_goals
            go_wp2_with fail
            try rw [Exit.noGoto_ret]
            exact bodyPost_ret (results_none rfl _ _ _) rfl ⟨rfl, Fin.out⟩
        · have hF := HF.out.resolve_left hfk
          obtain ⟨f1, f2, f3, f4⟩ := hF
          have hkN : k < N := by omega
          have hff : ((fi : Int) == k) = false := by simp; omega
          have Sw := hid (ag_swapH dz k fi (by rw [Hyl.out]; exact hkN) (by rw [Hyl.out]; exact f3) (by omega) (by rw [Hyl.out]; omega))
          have D := hid (HDy.out.step (f := fi) (by omega) (by rw [Hyl.out]; exact f3) f4 HA.out)
          have Pm : Hid ((swapL ys k fi).Perm hs) := (swapL_perm (by rw [Hyl.out]; exact hkN) (by rw [Hyl.out]; exact f3)).trans HY.out
          clear f4 hfk
          rcases hex with h1 | ⟨h1, h2⟩
          all_goals
            go_wp2_with fail
            refine Sw.out.mono ?_
            rintro e w6 ⟨rfl, d6, T6⟩
            go_wp2_with fail
            go_roundw
            case rel => exact ⟨fi, _, rfl, by omega, fun h => by omega, D.out, Pm.out, d6, Tz.trans T6⟩
            case measure => simp [intOf]; omega
def AgPop (a b : Nat) (v : Value) (t : List Int) (y : Int) (w : World) (e : Ending) (w' : World) : Prop :=
  e = .returned (.tuple #[.int .i64 y, .bool true]) ∧ ∃ v', AgL w' a b v' t ∧ v'.ownBlock = v.ownBlock ∧ Tch3 a b v w w'
theorem ag_pop {w : World} {a b : Nat} {v : Value} {y : Int} {t : List Int} (d : AgL w a b v (y :: t)) (hl : t.length < 9000000) :
    Calls Tryz.prog 192 #[.pointer (some ⟨a, 0, none⟩)] w (AgPop a b v t y w) := by
  obtain ⟨hs, d, hH, hp, ho, hx⟩ := d
  have hy := heap_head hH hp ho
  have hlen : hs.length = t.length + 1 := hp.length_eq
  have L0 := ag_len d
  obtain ⟨N, eN⟩ : ∃ N, hs.length = N := ⟨_, rfl⟩
  rw [eN] at L0
  have L := hid L0
  clear L0
  rcases d.own.shape with ⟨_, h⟩ | ⟨g, cap, rfl, _, hg, hc, hr, hf⟩
  · rw [h] at hlen; simp at hlen
  have q1 := hr 0 (by omega)
  have q2 := hr (N - 1) (by omega)
  rw [eN] at d ⊢
  have hpop : popL hs = (hs.set 0 (hs.getD (N - 1) 0)).take (N - 1) := by unfold popL; rw [eN]
  rw [hy] at q1
  have f1 := hf 0
  have ng : g ≠ a := fun e => d.ne (by rw [← e]; rfl)
  have nb : g ≠ b := fun e => d.nvb (by rw [← e]; rfl)
  have na := d.nab
  have hla := d.lta
  have hlb := d.ltb
  have pp := popL_perm (hs := hs) (by omega)
  rw [hy] at pp
  have HDS := hid (HeapDown.start hH)
  have HIN : Hid (∀ x ∈ popL hs, In64 x) := fun x h => (hx x (hp.mem_iff.1 (pp.mem_iff.2 (List.mem_cons_of_mem _ h)))).2
  have HND : Hid hs.Nodup := hp.nodup_iff.2 ho.nodup
  have biy : In64 y := (hx y (List.mem_cons_self ..)).2
  have HPL : Hid ((popL hs).length < 10000000) := by show _ < _; rw [popL_length]; omega
  have PP := hid pp
  have HPT : Hid ((popL hs).Perm t) := (List.perm_cons y).1 (pp.symm.trans hp)
  have HO := hid ho.tail
  have HX : Hid (∀ x ∈ t, 1 ≤ x ∧ In64 x) := fun x h => hx x (List.mem_cons_of_mem _ h)
  have hN1 : 1 ≤ N ∧ N < 10000000 := by omega
  generalize hs.getD (N - 1) 0 = x at *
  have dA : ∀ W : World, W.heap = w.heap → AgH ((W.setCell ⟨g, 0, none⟩ (.int .i64 x)).drew) a b (.slice (some ⟨g, 0, none⟩) N cap) (hs.set 0 x) := fun W hW => by
    have dW : AgH W a b (.slice (some ⟨g, 0, none⟩) N cap) hs := d.toH.keep (fun k _ _ => by rw [hW])
    exact (⟨dW.blk.set_other 0 _ ng.symm, dW.own.store 0 _, dW.ne⟩ : AgH _ a b _ _).drew
  have tA : ∀ W : World, W.heap = w.heap → Tch1 (.slice (some ⟨g, 0, none⟩) N cap) W ((W.setCell ⟨g, 0, none⟩ (.int .i64 x)).drew) := fun W hW => (Tch1.setCell W g 0 _ rfl).drew
  obtain ⟨M, eM⟩ : ∃ M, N - 1 = M := ⟨_, rfl⟩
  rw [eM] at q2 hpop
  have eMN : N = M + 1 := by omega
  have hM : ((N : Int) - 1) = (M : Int) := by omega
  have hN0 : ((N : Int) == 0) = false := by simp; omega
  have hcM : M ≤ cap := by omega
  subst eMN
  have c0 := d.c0
  have D := hid d
  have DA := hid dA
  have TA := hid tA
  have HPOP := hid hpop
  clear d dA tA hH hp ho hx hy hlen hr hf hc pp hpop eM eN hl
  go_enter Tryz.func192, Tryz.ntmps192
  go_wp2_with fail
  refine L.out.mono ?_
  rintro e w' ⟨rfl, rfl⟩
  go_wp2_with fail
  go_quiet (fail)
  have c0' : (w.drewN nq).cell? ⟨a, 0, none⟩ = some (.slice (some ⟨g, 0, none⟩) (M + 1) cap) := c0
  have q2' : (w.drewN nq).cell? ⟨g, M, none⟩ = some (.int .i64 x) := q2
  have q1' : (w.drewN nq).cell? ⟨g, 0, none⟩ = some (.int .i64 y) := q1
  have f1' : (w.drewN nq).frozen? ⟨g, 0, none⟩ = false := f1
  have dA := DA.out (w.drewN nq) rfl
  have tA : Tch1 (.slice (some ⟨g, 0, none⟩) (M + 1) cap) w (((w.drewN nq).setCell ⟨g, 0, none⟩ (.int .i64 x)).drew) := ((Tch1.refl _ w).drewN nq).trans (TA.out (w.drewN nq) rfl)
  clear c0 q1 q2 f1 hN0 hM
  generalize w.drewN nq = w1 at *
  go_wp2_with fail
  go_region
  generalize ((w1.setCell ⟨g, 0, none⟩ (.int .i64 x)).drew) = w2 at *
  clear c0' q1' q2' f1'
  have c2 := dA.c0
  have f2 := dA.blk.free 0
  have dB : AgH (w2.setCell ⟨a, 0, none⟩ (.slice (some ⟨g, 0, none⟩) M cap)) a b (.slice (some ⟨g, 0, none⟩) M cap) (popL hs) := by
    refine ⟨dA.blk.set 0 _, ?_, fun e => ng (by simpa [Value.ownBlock] using e)⟩
    rw [HPOP.out]
    exact (dA.own.take M (by omega)).keep (fun k hk => Below.heap_setCell _ ⟨a, 0, none⟩ _ k (fun e => ng (by simp only [Value.ownBlock, Option.some.injEq] at hk; exact hk.trans e)))
  have tB : Tch3 a b (.slice (some ⟨g, 0, none⟩) (M + 1) cap) w (w2.setCell ⟨a, 0, none⟩ (.slice (some ⟨g, 0, none⟩) M cap)) := (tA.to3 a b).trans (Tch3.setCell _ a 0 _ (.inl rfl)) (Fr.refl _ _)
  have sB : SetM (w2.setCell ⟨a, 0, none⟩ (.slice (some ⟨g, 0, none⟩) M cap)) b hs := D.out.set.keep ((Below.heap_setCell _ ⟨a, 0, none⟩ _ b (Ne.symm na)).trans (tA.block b hlb (fun e => nb (by simpa [Value.ownBlock] using e))))
  go_wp2_with fail
  generalize w2.setCell ⟨a, 0, none⟩ (.slice (some ⟨g, 0, none⟩) M cap) = w3 at *
  refine (ag_sink dB HDS.out HPL.out HIN.out).mono ?_
  rintro e w4 ⟨rfl, hs4, d4, hH4, hp4, T4⟩
  have T4' := T4.to3 a b
  have sC := sB.keep (T4.block b sB.lt (fun e => nb (by simpa [Value.ownBlock] using e)))
  have c41 := d4.c1
  have HH4 := hid hH4
  have HP4 : Hid (hs.Perm (y :: hs4)) := PP.out.trans (List.Perm.cons y hp4.symm)
  have HT4 : Hid (hs4.Perm t) := hp4.trans HPT.out
  clear hH4 hp4
  go_wp2_with (at_delete; refine deleteSet _ _ sC biy HP4.out HND.out rfl rfl rfl rfl ?_; intro w5 S5 mt5)
  go_ret2
  have fr : ∀ v' : Value, v'.ownBlock = some g → Fr w (.slice (some ⟨g, 0, none⟩) (M + 1) cap) v' := fun v' e => .inl (by rw [e]; rfl)
  have d5 := d4.keep (w' := w5) (fun k hk hc => mt5.grown.block k hk (fun e => by
    cases e
    rcases hc with h | h
    · exact na h.symm
    · exact nb (by simpa [Value.ownBlock] using h)))
  exact ⟨rfl, _, ⟨hs4, ⟨d5.blk, d5.own, S5, d5.ne⟩, HH4.out, HT4.out, HO.out, HX.out⟩, rfl, (tB.trans T4' (fr (.slice (some ⟨g, 0, none⟩) M cap) rfl)).trans (Tch3.of_map mt5) (fr (.slice (some ⟨g, 0, none⟩) M cap) rfl)⟩
end Go.Proofs.YtdnlejboijkcfaaGreatDoor
/- The walks of the reference's With, Agenda; of fold.New. -/
namespace Go.Proofs.YtdnlejboijkcfaaGreatDoor
set_option maxHeartbeats 8000000
set_option maxRecDepth 100000
open Go.RowKit Go.Maps Nl
namespace Nl
theorem while_split {α : Type} {p : α → Bool} (xs : List α) (d : α) : ∀ k, k ≤ xs.length → (∀ j, j < k → p (xs.getD j d) = true) → (k < xs.length → p (xs.getD k d) = false) → xs.takeWhile p = xs.take k ∧ xs.dropWhile p = xs.drop k := by
  induction xs with
  | nil => intro k hk _ _; simp at hk; subst hk; simp
  | cons x r ih =>
    intro k hk h1 h2
    cases k with
    | zero =>
      have := h2 (by simp)
      simp only [List.getD_cons_zero] at this
      simp [this]
    | succ k =>
      have h0 := h1 0 (by omega)
      simp only [List.getD_cons_zero] at h0
      obtain ⟨i1, i2⟩ := ih k (by simpa using hk) (fun j hj => by have := h1 (j + 1) (by omega); simpa using this) (fun hj => by have := h2 (by simpa using hj); simpa using this)
      rw [List.takeWhile_cons, List.dropWhile_cons, if_pos h0, if_pos h0, i1, i2]
      simp
theorem withL_at {xs : List Int} {id : Int} {k : Nat} (hk : k ≤ xs.length) (h1 : ∀ j, j < k → aheadB (xs.getD j 0) id = true) (h2 : k < xs.length → aheadB (xs.getD k 0) id = false) :
    withL xs id = if k < xs.length ∧ xs.getD k 0 = id then xs else xs.take k ++ id :: xs.drop k := by
  obtain ⟨e1, e2⟩ := while_split (p := fun x => aheadB x id) xs 0 k hk h1 h2
  unfold withL
  rw [e1, e2]
  by_cases h : k < xs.length
  · have e3 : (xs.drop k).head? = some (xs.getD k 0) := by rw [List.head?_drop]; simp [List.getD, List.getElem?_eq_getElem h]
    rw [e3]
    simp [h]
  · have e3 : (xs.drop k).head? = none := by rw [List.drop_eq_nil_of_le (by omega)]; rfl
    rw [e3, if_neg (by simp), if_neg (by omega)]
end Nl
namespace Nl
def agendaL (ids : List Int) : List Int := ids.foldl putL []
theorem agendaL_snoc (ids : List Int) (x : Int) : agendaL (ids ++ [x]) = putL (agendaL ids) x := by simp [agendaL]
theorem agenda_aux (ids : List Int) : ∀ a : List Int, Ord a → (∀ x ∈ a, 1 ≤ x ∧ In64 x) → (∀ x ∈ ids, In64 x) → Ord (ids.foldl putL a) ∧ (∀ x ∈ ids.foldl putL a, 1 ≤ x ∧ In64 x) ∧ (ids.foldl putL a).length ≤ a.length + ids.length := by
  induction ids with
  | nil => intro a o h _; exact ⟨o, h, by simp⟩
  | cons y r ih =>
    intro a o h hi
    rw [List.foldl_cons]
    obtain ⟨i1, i2, i3⟩ := ih (putL a y) (putL_ord o y) (fun x hx => by
      rcases (putL_mem o).1 hx with ⟨rfl, h1⟩ | h1
      · exact ⟨h1, hi x (List.mem_cons_self ..)⟩
      · exact h x h1) (fun x hx => hi x (List.mem_cons_of_mem _ hx))
    have := putL_len o y
    exact ⟨i1, i2, by simp only [List.length_cons]; omega⟩
theorem agendaL_ok {ids : List Int} (h : ∀ x ∈ ids, In64 x) : Ord (agendaL ids) ∧ (∀ x ∈ agendaL ids, 1 ≤ x ∧ In64 x) ∧ (agendaL ids).length ≤ ids.length := by
  obtain ⟨a1, a2, a3⟩ := agenda_aux ids [] List.Pairwise.nil (by simp) h
  exact ⟨a1, a2, by simpa [agendaL] using a3⟩
theorem withL_last {l : List Int} {id : Int} (h : ∀ y ∈ l, aheadB y id = true) : withL l id = l ++ [id] := by
  rw [withL_at (k := l.length) nlr (fun j hj => h _ (getD_mem (d := 0) l j hj)) (fun h => by omega), if_neg (by omega)]
  simp
theorem agendaL_self {l : List Int} (o : Ord l) (h : ∀ x ∈ l, 1 ≤ x) : agendaL l = l := by
  have aux : ∀ (r d : List Int), Ord (d ++ r) → (∀ x ∈ r, 1 ≤ x) → r.foldl putL d = d ++ r := by
    intro r
    induction r with
    | nil => intro d _ _; simp
    | cons x r ih =>
      intro d o h
      rw [List.foldl_cons]
      obtain ⟨_, _, o3⟩ := List.pairwise_append.1 o
      have e : putL d x = d ++ [x] := by
        unfold putL; rw [if_pos (h x (List.mem_cons_self ..)), withL_last (fun y hy => o3 y hy x (List.mem_cons_self ..))]
      rw [e, ih (d ++ [x]) (by simpa using o) (fun y hy => h y (List.mem_cons_of_mem _ hy))]
      simp
  have := aux l [] (by simpa using o) h
  simpa [agendaL] using this
end Nl
def RdIB (w : World) (B : Nat) (v : Value) (xs : List Int) : Prop := RdI w v xs ∧ ∀ k, v.ownBlock = some k → B ≤ k
def IsInts (xs : List Int) (w : World) (e : Ending) (w' : World) : Prop := ∃ v, e = .returned v ∧ RdIB w' w.heap.size v xs ∧ Below w.heap.size w w'
def NewAg (l : List Int) (w : World) (e : Ending) (w' : World) : Prop :=
  ∃ a b v, e = .returned (.pointer (some ⟨a, 0, none⟩)) ∧ AgL w' a b v l ∧ w.heap.size ≤ a ∧ w.heap.size ≤ b ∧ (∀ k, v.ownBlock = some k → w.heap.size ≤ k) ∧ Below w.heap.size w w'
def NewRel (ids : List Int) (w : World) (a b : Nat) (i : Value) (wr : World) : Prop :=
  ∃ (k : Nat) (v : Value), i = .int .i64 k ∧ k ≤ ids.length ∧ AgL wr a b v (agendaL (ids.take k)) ∧ (∀ k, v.ownBlock = some k → w.heap.size ≤ k) ∧ Below w.heap.size w wr
theorem f_new {v : Value} {ids : List Int} (w : World) (hr : RdI w v ids) (hl : ids.length < 100000) (hx : ∀ x ∈ ids, In64 x) :
    Calls Tryz.prog 189 #[v] w (NewAg (agendaL ids) w) := by
  obtain ⟨p, cap, rfl⟩ := hr.val
  obtain ⟨N, eN⟩ : ∃ N, ids.length = N := ⟨_, rfl⟩
  rw [eN] at hr ⊢
  have EN := hid eN
  have HX := hid hx
  have hN : N < 100000 := by omega
  have hmm := @run_makeMap Tryz.prog
  have d0 : Ag ((w.alloc (.map #[] 0)).alloc (.cells #[.slice none 0 0, .map (some w.heap.size)] 269)) (w.heap.size + 1) w.heap.size (.slice none 0 0) [] := by
    have h1 := Blk.new (w.alloc (.map #[] 0)) #[.slice none 0 0, .map (some w.heap.size)] 269
    rw [World.size_alloc] at h1
    exact ⟨h1, OwnI.nil _ _, (SetM.made w).keep (Below.heap_alloc _ _ _ (by simp)), by simp [Value.ownBlock]⟩
  have hb0 : Below w.heap.size w ((w.alloc (.map #[] 0)).alloc (.cells #[.slice none 0 0, .map (some w.heap.size)] 269)) := ((Below.refl _ _).alloc nlr _).alloc (by simp) _
  have D0 := hid d0
  clear eN hl hx d0
  go_enter Tryz.func189, Tryz.ntmps189
  go_wp2_with fail
  generalize ((w.alloc (.map #[] 0)).alloc (.cells #[.slice none 0 0, .map (some w.heap.size)] 269)) = w1 at *
  go_loopw [11] (fun i wr => NewRel ids w (w.heap.size + 1) w.heap.size i wr) (fun i _ => N - (intOf i).toNat)
  case atStart => exact ⟨0, _, rfl, Nat.zero_le _, ⟨[], D0.out, HeapP.nil, .refl _, List.Pairwise.nil, by simp [agendaL]⟩, none_lt, hb0⟩
  case round =>
    obtain ⟨k, v, rfl, hk, hA, hv, hB⟩ := hrel
    have hkN : k ≤ N := by rw [EN.out] at hk; exact hk
    have HV := hid hv
    clear hk hmm hv
    by_cases hlt : k < N
    · have hkx : k < ids.length := by rw [EN.out]; exact hlt
      have hrw := hr.below hB nlr
      obtain ⟨g, off, x, rfl, ex, hg, hc⟩ := hrw.at hkx
      have bx : In64 x := by rw [← ex]; exact HX.out _ (getD_mem (d := 0) ids k hkx)
      have Ets : Hid (agendaL (ids.take (k + 1)) = putL (agendaL (ids.take k)) x) := by
        show _ = _
        rw [take_at (d := 0) ids k hkx, ex, agendaL_snoc]
      have hok := agendaL_ok (ids := ids.take k) (fun y hy => HX.out y (List.mem_of_mem_take hy))
      have hlk : (ids.take k).length ≤ k := List.length_take_le _ _
      generalize agendaL (ids.take k) = zs at *
      have P := hid (ag_put x hA bx (by omega))
      have hs := hB.size
      clear hok ex hkx hA
      go_wp2_with fail
      refine P.out.mono ?_
      rintro e w2 ⟨rfl, v2, d2, f2, t2⟩
      go_wp2_with fail
      go_roundw
      case rel =>
        refine ⟨k + 1, v2, by go_num, by rw [EN.out]; omega, by rw [Ets.out]; exact d2, fun q hq => ?_, hB.trans (t2.below (by omega) (by omega) HV.out hs)⟩
        rcases f2 with h | ⟨j, h, hj⟩
        · exact HV.out q (by rw [← h]; exact hq)
        · rw [h] at hq; cases hq; omega
      case measure => simp [intOf]; omega
    · obtain rfl : k = N := by omega
      have Et : Hid (ids.take k = ids) := by show _ = _; rw [← EN.out, List.take_length]
      go_wp2_with fail
      go_ret
      exact ⟨_, _, v, rfl, by rw [← Et.out]; exact hA, by omega, by omega, HV.out, hB⟩
end Go.Proofs.YtdnlejboijkcfaaGreatDoor
/- An argument that is a slice of ints. -/
namespace Go.Proofs.YtdnlejboijkcfaaGreatDoor
set_option maxHeartbeats 8000000
set_option maxRecDepth 100000
open Go.RowKit Go.ChangeShapes Go.WideShapes Go.ChangeAt
def RdIA (w : World) (v : Value) (xs : List Int) : Prop := RdI w v xs ∧ (∀ x ∈ xs, In64 x) ∧ xs.length ≤ 9223372036854775807
theorem open_ints {H : Type} {enc : TypeId × Value → H} {w : World} {base b0 : Nat} {spare : Nat → Bool} {held : Bool} {r : Reach} {v : Value} {d : DataW H} {ps : List MemPlace}
    (hv : Value.okWide Tryz.prog w r b0 22 v) (h : DataW.Trod enc Tryz.prog w base spare held 22 v d ps) : ∃ xs, RdIA w v xs := by
  obtain ⟨p, len, cap, rfl⟩ := okWide_slice Tryz.underlying22 hv
  obtain ⟨fuel, hf⟩ := h
  rcases Deep.open_slice1 Tryz.underlying22 (by kernel_rfl) hf with ⟨h0, _⟩ | ⟨a, len', cap', m, n', V, D, Pl, hcs, _, hl, hm, hmm, _, hi⟩
  · simp [Value.cells] at h0
    obtain ⟨rfl, rfl, rfl⟩ := h0
    exact ⟨[], RdI.nil w, by simp, by simp⟩
  · simp [Value.cells] at hcs
    obtain ⟨rfl, rfl, rfl⟩ := hcs
    have hlm : len ≤ m := by rw [hmm]; split <;> omega
    have key : ∀ k, k < len → w.cell? (a.add k) = some (.int .i64 (intAt w (a.add k))) ∧ In64 (intAt w (a.add k)) := by
      intro k hk
      obtain ⟨hc, ht'⟩ := hi k (by omega)
      obtain ⟨z, hz, _, hw⟩ := DataW.trod_int Tryz.underlying3 ht'
      simp only [List.cons.injEq, and_true] at hz
      rw [hz] at hc
      have h3 : intAt w (a.add k) = z := by unfold intAt; rw [hc]
      rw [h3]
      exact ⟨hc, bd_i64 _ hw⟩
    by_cases h0 : len = 0
    · subst h0; exact ⟨[], .inr (.inl ⟨a, cap, rfl, rfl⟩), by simp, by simp⟩
    · have hk0 := (key 0 (by omega)).1
      have hs := spot_none hk0
      obtain ⟨g, off, s⟩ := a
      have hs' : s = none := by simpa [Addr.add] using hs
      subst hs'
      have hadd : ∀ k, (⟨g, off, none⟩ : Addr).add k = ⟨g, off + k, none⟩ := fun k => by unfold Addr.add; split <;> simp_all
      have hlen : ((List.range len).map fun k => intAt w ⟨g, off + k, none⟩).length = len := by simp
      refine ⟨(List.range len).map fun k => intAt w ⟨g, off + k, none⟩, .inr (.inr ⟨g, off, cap, by rw [hlen], ?_, by rw [hlen]; exact hl, fun k hk => ?_⟩), fun x hx => ?_, by rw [hlen]; unfold maxLen at hm; omega⟩
      · exact World.block_lt_of_cell? w _ hk0
      · rw [hlen] at hk
        have e : ((List.range len).map fun k => intAt w ⟨g, off + k, none⟩).getD k 0 = intAt w ⟨g, off + k, none⟩ := by simp [List.getD, hk]
        rw [e, ← hadd]
        exact (key k hk).1
      · simp only [List.mem_map, List.mem_range] at hx
        obtain ⟨k, hk, rfl⟩ := hx
        rw [← hadd]; exact (key k hk).2
end Go.Proofs.YtdnlejboijkcfaaGreatDoor
/- Folding as far as it may be (no program in sight). -/
namespace Go.Proofs.YtdnlejboijkcfaaGreatDoor
set_option maxHeartbeats 8000000
set_option maxRecDepth 100000
open Go.RowKit
namespace Nl
def gsum (f : Int → Int → Int) : List (Int × Int) → Int
  | [] => 0
  | x :: r => f x.1 x.2 + gsum f r
theorem gsum_append (f : Int → Int → Int) (xs ys : List (Int × Int)) : gsum f (xs ++ ys) = gsum f xs + gsum f ys := by
  induction xs with
  | nil => simp [gsum]
  | cons x r ih => simp only [List.cons_append, gsum, ih]; omega
theorem gsum_one {f : Int → Int → Int} (hf : ∀ i, f i 0 = 0) (id v : Int) (hv : 0 ≤ v) : gsum f (if 0 < v then [(id, v)] else []) = f id v := by
  by_cases h : 0 < v
  · rw [if_pos h]; simp [gsum]
  · rw [if_neg h, show v = 0 by omega, hf]; rfl
theorem gsum_take {f : Int → Int → Int} (hf : ∀ i, f i 0 = 0) {zs : List (Int × Int)} (h : Strict zs) (id : Int) : gsum f (stTake zs id).1 + f id (findL id zs) = gsum f zs := by
  obtain ⟨P, Q, e1, e2, e3, e4⟩ := strict_split h id
  have ef : (stTake zs id).1 = zs.filter (fun x => x.1 ≠ id) := rfl
  generalize findL id zs = v at *
  rw [ef, e1, filter_ids e2 e3, gsum_append, gsum_append, gsum_append, gsum_one hf id v e4]
  omega
theorem gsum_addS {f : Int → Int → Int} (hf : ∀ i, f i 0 = 0) {zs : List (Int × Int)} (h : Strict zs) {id c : Int} (hc : 0 ≤ c) : gsum f (addS zs id c) + f id (findL id zs) = gsum f zs + f id (findL id zs + c) := by
  obtain ⟨P, Q, e1, e2, e3, e4⟩ := strict_split h id
  generalize findL id zs = v at *
  subst e1
  rw [addS_parts e2 e3 e4 hc, gsum_append, gsum_append, gsum_append, gsum_append, gsum_one hf id v e4, gsum_one hf id (v + c) (by omega)]
  omega
theorem gsum_sum (zs : List (Int × Int)) : gsum (fun _ c => c) zs = sumL zs := by
  induction zs with
  | nil => rfl
  | cons x r ih => simp only [gsum, sumL, ih]
theorem gsum_le {f g : Int → Int → Int} {zs : List (Int × Int)} (h : ∀ x ∈ zs, f x.1 x.2 ≤ g x.1 x.2) : gsum f zs ≤ gsum g zs := by
  induction zs with
  | nil => simp [gsum]
  | cons x r ih =>
    have h1 := h x (List.mem_cons_self ..)
    have h2 := ih (fun y hy => h y (List.mem_cons_of_mem _ hy))
    simp only [gsum]; omega
theorem gsum_const (k : Int) (zs : List (Int × Int)) : gsum (fun _ _ => k) zs = k * zs.length := by
  induction zs with
  | nil => simp [gsum]
  | cons x r ih => simp only [gsum, ih, List.length_cons]; rw [Int.natCast_add, Int.mul_add]; simp; omega
theorem gsum_zero {f : Int → Int → Int} {zs : List (Int × Int)} (h : ∀ x ∈ zs, 0 ≤ f x.1 x.2) : 0 ≤ gsum f zs := by
  induction zs with
  | nil => simp [gsum]
  | cons x r ih =>
    have h1 := h x (List.mem_cons_self ..)
    have h2 := ih (fun y hy => h y (List.mem_cons_of_mem _ hy))
    simp only [gsum]; omega
theorem kids_right {l p : Int} (hk : kidsB l p = true) : rightB l p = true := by
  simp only [kidsB, Bool.and_eq_true] at hk; exact hk.1
theorem gsum_fold {f : Int → Int → Int} (hf : ∀ i, f i 0 = 0) {l : Int} {zs : List (Int × Int)} (r : Roll l zs) {p : Int} (hk : kidsB l p = true) :
    gsum f (foldDo l zs p).1 + f (2 * p) (findL (2 * p) zs) + f (2 * p + 1) (findL (2 * p + 1) zs) + f p (findL p zs) = gsum f zs + f p (allV l zs p) := by
  unfold allV foldDo
  rw [hk]
  simp only [if_true]
  obtain ⟨k1, k2⟩ := kids_bound hk
  have r1 := r.take (2 * p)
  have r2 := r1.take (2 * p + 1)
  have s1 := gsum_take hf r.strict (2 * p)
  have s2 := gsum_take hf r1.strict (2 * p + 1)
  have t1 : (stTake zs (2 * p)).2 = findL (2 * p) zs := rfl
  have t2 : (stTake (stTake zs (2 * p)).1 (2 * p + 1)).2 = findL (2 * p + 1) (stTake zs (2 * p)).1 := rfl
  have t3 : findL (2 * p + 1) (stTake zs (2 * p)).1 = findL (2 * p + 1) zs := findL_filter (by omega)
  have g0 : findL p (stTake (stTake zs (2 * p)).1 (2 * p + 1)).1 = findL p zs := (findL_filter (by omega)).trans (findL_filter (by omega))
  have f1 := r.find (2 * p)
  have f2 := r1.find (2 * p + 1)
  obtain ⟨q1, _⟩ := take_facts r.strict (2 * p)
  obtain ⟨q2, _⟩ := take_facts r1.strict (2 * p + 1)
  have hs := r.most
  rw [t1, t2, stAdd_ok r2 (kids_right hk) (by omega) (by omega)]
  dsimp only
  have s3 := gsum_addS hf r2.strict (id := p) (c := findL (2 * p) zs + findL (2 * p + 1) (stTake zs (2 * p)).1) (by omega)
  rw [g0, t3] at s3
  rw [t3] at s2 ⊢
  rw [show findL p zs + (findL (2 * p) zs + findL (2 * p + 1) zs) = findL (2 * p) zs + findL (2 * p + 1) zs + findL p zs by omega] at s3
  omega
theorem find_mem {zs : List (Int × Int)} (h : Strict zs) {id : Int} (hv : 0 < findL id zs) : (id, findL id zs) ∈ zs := by
  obtain ⟨P, Q, e1, _, _, _⟩ := strict_split h id
  generalize findL id zs = v at *
  subst e1
  rw [if_pos hv]
  simp
theorem fold_other {l : Int} {zs : List (Int × Int)} (r : Roll l zs) {p : Int} (hk : kidsB l p = true) {q : Int} (h1 : q ≠ 2 * p) (h2 : q ≠ 2 * p + 1) (h3 : q ≠ p) : findL q (foldDo l zs p).1 = findL q zs := by
  unfold foldDo
  rw [hk]
  simp only [if_true]
  obtain ⟨k1, k2⟩ := kids_bound hk
  have r1 := r.take (2 * p)
  have r2 := r1.take (2 * p + 1)
  have t1 : (stTake zs (2 * p)).2 = findL (2 * p) zs := rfl
  have t2 : (stTake (stTake zs (2 * p)).1 (2 * p + 1)).2 = findL (2 * p + 1) (stTake zs (2 * p)).1 := rfl
  have g0 : findL q (stTake (stTake zs (2 * p)).1 (2 * p + 1)).1 = findL q zs := (findL_filter h2).trans (findL_filter h1)
  have f1 := r.find (2 * p)
  have f2 := r1.find (2 * p + 1)
  obtain ⟨q1, _⟩ := take_facts r.strict (2 * p)
  obtain ⟨q2, _⟩ := take_facts r1.strict (2 * p + 1)
  have hs := r.most
  rw [t1, t2, stAdd_ok r2 (kids_right hk) (by omega) (by omega)]
  dsimp only
  have hc0 : 0 ≤ findL (2 * p) zs + findL (2 * p + 1) (stTake zs (2 * p)).1 := by omega
  generalize findL (2 * p) zs + findL (2 * p + 1) (stTake zs (2 * p)).1 = c at *
  rw [← g0]
  generalize (stTake (stTake zs (2 * p)).1 (2 * p + 1)).1 = ys at *
  obtain ⟨a1, a2⟩ := addS_spec r2.strict (id := p) (c := c) (by omega) (by omega)
  obtain ⟨_, _, _, _, _, e4⟩ := strict_split r2.strict q
  obtain ⟨_, _, _, _, _, e5⟩ := strict_split a1 q
  by_cases hv : 0 < findL q ys
  · exact strict_at a1 ((a2 q _).2 (.inl ⟨h3, find_mem r2.strict hv⟩))
  · by_cases hw : 0 < findL q (addS ys p c)
    · rcases (a2 q _).1 (find_mem a1 hw) with ⟨_, h⟩ | ⟨h, _⟩
      · have := strict_at r2.strict h; omega
      · exact absurd h h3
    · omega
end Nl
end Go.Proofs.YtdnlejboijkcfaaGreatDoor
/- Folding as far as it may be: the first that is ready, one by one, and by an agenda (no program in sight). -/
namespace Go.Proofs.YtdnlejboijkcfaaGreatDoor
set_option maxHeartbeats 8000000
set_option maxRecDepth 100000
open Go.RowKit
namespace Nl
def parentsL (zs : List (Int × Int)) : List Int := zs.foldl (fun a x => if 1 < x.1 then withL a (x.1 / 2) else a) []
theorem parents_aux (zs : List (Int × Int)) : ∀ a : List Int, Ord a → Ord (zs.foldl (fun a x => if 1 < x.1 then withL a (x.1 / 2) else a) a) ∧ ∀ p, p ∈ zs.foldl (fun a x => if 1 < x.1 then withL a (x.1 / 2) else a) a ↔ p ∈ a ∨ ∃ x ∈ zs, 1 < x.1 ∧ x.1 / 2 = p := by
  induction zs with
  | nil => intro a o; simp [o]
  | cons x r ih =>
    intro a o
    rw [List.foldl_cons]
    by_cases h : 1 < x.1
    · rw [if_pos h]
      obtain ⟨i1, i2⟩ := ih _ (withL_ord o (x.1 / 2))
      refine ⟨i1, fun p => ?_⟩
      rw [i2, withL_mem o]
      constructor
      · rintro ((e | e) | ⟨y, hy, e⟩)
        · exact .inr ⟨x, List.mem_cons_self .., h, e.symm⟩
        · exact .inl e
        · exact .inr ⟨y, List.mem_cons_of_mem _ hy, e⟩
      · rintro (e | ⟨y, hy, e1, e2⟩)
        · exact .inl (.inr e)
        · rcases List.mem_cons.1 hy with rfl | hy
          · exact .inl (.inl e2.symm)
          · exact .inr ⟨y, hy, e1, e2⟩
    · rw [if_neg h]
      obtain ⟨i1, i2⟩ := ih _ o
      refine ⟨i1, fun p => ?_⟩
      rw [i2]
      constructor
      · rintro (e | ⟨y, hy, e⟩)
        · exact .inl e
        · exact .inr ⟨y, List.mem_cons_of_mem _ hy, e⟩
      · rintro (e | ⟨y, hy, e1, e2⟩)
        · exact .inl e
        · rcases List.mem_cons.1 hy with rfl | hy
          · exact absurd e1 h
          · exact .inr ⟨y, hy, e1, e2⟩
theorem parents_ord (zs : List (Int × Int)) : Ord (parentsL zs) := (parents_aux zs [] List.Pairwise.nil).1
theorem parents_mem {zs : List (Int × Int)} {p : Int} : p ∈ parentsL zs ↔ ∃ x ∈ zs, 1 < x.1 ∧ x.1 / 2 = p := by
  unfold parentsL
  rw [(parents_aux zs [] List.Pairwise.nil).2]; simp
theorem parents_len (zs : List (Int × Int)) : (parentsL zs).length ≤ zs.length := by
  have aux : ∀ (zs : List (Int × Int)) (a : List Int), Ord a → (zs.foldl (fun a x => if 1 < x.1 then withL a (x.1 / 2) else a) a).length ≤ a.length + zs.length := by
    intro zs
    induction zs with
    | nil => intro a _; simp
    | cons x r ih =>
      intro a o
      rw [List.foldl_cons]
      by_cases h : 1 < x.1
      · rw [if_pos h]
        have h1 := ih _ (withL_ord o (x.1 / 2))
        rw [withL_length o] at h1
        simp only [List.length_cons]
        split at h1 <;> omega
      · rw [if_neg h]
        have h1 := ih _ o
        simp only [List.length_cons]; omega
  have := aux zs [] List.Pairwise.nil
  simpa [parentsL] using this
def firstR (l : Int) (zs : List (Int × Int)) (most : Int) : Option Int := (parentsL zs).find? (fun p => readyB l zs p most)
theorem ready_kids {l : Int} {zs : List (Int × Int)} {p most : Int} (h : readyB l zs p most = true) : kidsB l p = true := by
  unfold readyB pairV at h
  cases hk : kidsB l p
  · rw [hk] at h; simp at h
  · rfl
theorem ready_pair {l : Int} {zs : List (Int × Int)} {p most : Int} (h : readyB l zs p most = true) : 0 < findL (2 * p) zs + findL (2 * p + 1) zs ∧ allV l zs p ≤ most ∧ allV l zs p = findL (2 * p) zs + findL (2 * p + 1) zs + findL p zs := by
  have hk := ready_kids h
  unfold readyB pairV at h
  rw [hk] at h
  simp only [if_true, decide_eq_true_eq] at h
  refine ⟨h.1, h.2, ?_⟩
  unfold allV; rw [hk]; rfl
theorem ready_mem {l : Int} {zs : List (Int × Int)} (r : Roll l zs) {p most : Int} (h : readyB l zs p most = true) : p ∈ parentsL zs := by
  obtain ⟨h1, _, _⟩ := ready_pair h
  obtain ⟨k1, k2⟩ := kids_bound (ready_kids h)
  have f1 := r.find (2 * p)
  have f2 := r.find (2 * p + 1)
  rw [parents_mem]
  by_cases hv : 0 < findL (2 * p) zs
  · exact ⟨_, find_mem r.strict hv, by simp; omega, by simp⟩
  · exact ⟨_, find_mem r.strict (id := 2 * p + 1) (by omega), by simp; omega, by simp; omega⟩
theorem find_ord {l : List Int} (o : Ord l) {f : Int → Bool} {p : Int} (hp : p ∈ l) (hf : f p = true) (hm : ∀ q ∈ l, f q = true → aheadB q p = false) : l.find? f = some p := by
  induction l with
  | nil => cases hp
  | cons x r ih =>
    rw [List.find?_cons]
    obtain ⟨o1, o2⟩ := List.pairwise_cons.1 o
    cases hx : f x
    · rcases List.mem_cons.1 hp with rfl | hp
      · rw [hf] at hx; cases hx
      · exact ih o2 hp (fun q hq => hm q (List.mem_cons_of_mem _ hq))
    · rcases List.mem_cons.1 hp with rfl | hp
      · rfl
      · have h1 := hm x (List.mem_cons_self ..) hx
        rw [o1 p hp] at h1; cases h1
theorem first_some {l : Int} {zs : List (Int × Int)} {most p : Int} (h : firstR l zs most = some p) : p ∈ parentsL zs ∧ readyB l zs p most = true :=
  ⟨List.mem_of_find?_eq_some h, by have := List.find?_some (p := fun p => readyB l zs p most) h; exact this⟩
theorem first_none {l : Int} {zs : List (Int × Int)} {most : Int} (r : Roll l zs) : firstR l zs most = none ↔ ∀ p, readyB l zs p most = false := by
  unfold firstR
  rw [List.find?_eq_none]
  constructor
  · intro h p
    cases hp : readyB l zs p most
    · rfl
    · exact absurd hp (h p (ready_mem r hp))
  · intro h p _
    rw [h p]; decide
theorem first_is {l : Int} {zs : List (Int × Int)} {most p : Int} (r : Roll l zs) (hp : readyB l zs p most = true) (hm : ∀ q, readyB l zs q most = true → aheadB q p = false) : firstR l zs most = some p :=
  find_ord (parents_ord zs) (ready_mem r hp) hp (fun q _ hq => hm q hq)
theorem dep_kid {p : Int} (h : 1 ≤ p) : depV (2 * p) = depV p + 1 ∧ depV (2 * p + 1) = depV p + 1 := by
  obtain ⟨n, rfl⟩ := Int.eq_ofNat_of_zero_le (show 0 ≤ p by omega)
  have key : ∀ m : Nat, m / 2 = n → depV (m : Int) = depV (n : Int) + 1 := fun m hm => by
    have e := bitLen_shift m 1 (by rw [show (2 : Nat) ^ 1 = 2 from rfl]; omega)
    rw [show (2 : Nat) ^ 1 = 2 from rfl, hm] at e
    unfold depV depOk
    rw [if_pos (by simp; omega), if_pos (by simp; omega)]
    simp only [Int.toNat_natCast]
    omega
  exact ⟨by have := key (2 * n) (by omega); simpa using this, by have := key (2 * n + 1) (by omega); simpa using this⟩
def depF (i c : Int) : Int := if 0 < c then depV i else 0
def phi (zs : List (Int × Int)) : Int := gsum depF zs
theorem phi_nonneg (zs : List (Int × Int)) : 0 ≤ phi zs := gsum_zero (fun x _ => by have := dep_nn x.1; unfold depF; split <;> omega)
theorem phi_le {l : Int} {zs : List (Int × Int)} (r : Roll l zs) : phi zs ≤ l * zs.length := by
  rw [← gsum_const]
  refine gsum_le (fun x hx => ?_)
  have h1 := r.ids x hx
  have h2 := rightB_dep (l := l) (id := x.1) ⟨r.l1, r.l2⟩ (right_pos h1)
  rw [h1] at h2
  have h3 : depV x.1 ≤ l := by simpa using h2.symm
  have := r.l1
  unfold depF
  split <;> omega
theorem phi_fold {l : Int} {zs : List (Int × Int)} (r : Roll l zs) {p most : Int} (h : readyB l zs p most = true) : phi (foldDo l zs p).1 + 1 ≤ phi zs := by
  have hk := ready_kids h
  obtain ⟨h1, _, h3⟩ := ready_pair h
  obtain ⟨k1, _⟩ := kids_bound hk
  have e := gsum_fold (f := depF) (fun i => by simp [depF]) r hk
  obtain ⟨d1, d2⟩ := dep_kid k1
  have d0 := dep_nn p
  have f0 := r.find p
  have f1 := r.find (2 * p)
  have f2 := r.find (2 * p + 1)
  unfold phi
  rw [h3] at e
  generalize findL p zs = c0 at *
  generalize findL (2 * p) zs = c1 at *
  generalize findL (2 * p + 1) zs = c2 at *
  simp only [depF, d1, d2] at e ⊢
  split at e <;> split at e <;> split at e <;> split at e <;> omega
def runF (l most : Int) : Nat → List (Int × Int) → List (Int × Int) × List Int
  | 0, zs => (zs, [])
  | f + 1, zs => match firstR l zs most with
    | none => (zs, [])
    | some p => ((runF l most f (foldDo l zs p).1).1, p :: (runF l most f (foldDo l zs p).1).2)
def runR (l most : Int) (zs : List (Int × Int)) : List (Int × Int) × List Int := runF l most (phi zs).toNat zs
theorem first_phi {l : Int} {zs : List (Int × Int)} (r : Roll l zs) {most p : Int} (h : firstR l zs most = some p) : Roll l (foldDo l zs p).1 ∧ (phi (foldDo l zs p).1).toNat < (phi zs).toNat := by
  have h1 := phi_fold r (first_some h).2
  have h2 := phi_nonneg (foldDo l zs p).1
  exact ⟨(fold_facts r p).1, by omega⟩
theorem runF_fuel (l most : Int) (f : Nat) : ∀ (g : Nat) (zs : List (Int × Int)), Roll l zs → (phi zs).toNat ≤ f → (phi zs).toNat ≤ g → runF l most f zs = runF l most g zs := by
  induction f with
  | zero =>
    intro g zs r h1 h2
    cases g with
    | zero => rfl
    | succ g =>
      cases hf : firstR l zs most with
      | none => simp only [runF, hf]
      | some p => have := first_phi r hf; omega
  | succ f ih =>
    intro g zs r h1 h2
    cases g with
    | zero =>
      cases hf : firstR l zs most with
      | none => simp only [runF, hf]
      | some p => have := first_phi r hf; omega
    | succ g =>
      cases hf : firstR l zs most with
      | none => simp only [runF, hf]
      | some p =>
        obtain ⟨r1, h3⟩ := first_phi r hf
        simp only [runF, hf]
        rw [ih g _ r1 (by omega) (by omega)]
theorem runR_none {l most : Int} {zs : List (Int × Int)} (h : firstR l zs most = none) : runR l most zs = (zs, []) := by
  unfold runR
  cases (phi zs).toNat with
  | zero => rfl
  | succ f => simp only [runF, h]
theorem runR_some {l most p : Int} {zs : List (Int × Int)} (r : Roll l zs) (h : firstR l zs most = some p) : runR l most zs = ((runR l most (foldDo l zs p).1).1, p :: (runR l most (foldDo l zs p).1).2) := by
  obtain ⟨r1, h3⟩ := first_phi r h
  obtain ⟨f, hf⟩ : ∃ f, (phi zs).toNat = f + 1 := ⟨(phi zs).toNat - 1, by omega⟩
  unfold runR
  rw [hf]
  simp only [runF, h]
  rw [runF_fuel l most f (phi (foldDo l zs p).1).toNat _ r1 (by omega) nlr]
theorem run_keeps {l most : Int} (Q : List (Int × Int) → Prop) (hQ : ∀ zs p, Roll l zs → Q zs → readyB l zs p most = true → Q (foldDo l zs p).1) (n : Nat) : ∀ zs, Roll l zs → Q zs → (phi zs).toNat ≤ n →
    Roll l (runR l most zs).1 ∧ Q (runR l most zs).1 ∧ firstR l (runR l most zs).1 most = none ∧ ((runR l most zs).2.length : Int) + phi (runR l most zs).1 ≤ phi zs := by
  induction n with
  | zero =>
    intro zs r q h
    cases hf : firstR l zs most with
    | none => rw [runR_none hf]; exact ⟨r, q, hf, by simp⟩
    | some p => have := first_phi r hf; omega
  | succ n ih =>
    intro zs r q h
    cases hf : firstR l zs most with
    | none => rw [runR_none hf]; exact ⟨r, q, hf, by simp⟩
    | some p =>
      have hp := (first_some hf).2
      obtain ⟨r1, h3⟩ := first_phi r hf
      obtain ⟨i1, i2, i3, i4⟩ := ih _ r1 (hQ zs p r q hp) (by omega)
      have h5 := phi_fold r hp
      rw [runR_some r hf]
      refine ⟨i1, i2, i3, ?_⟩
      simp only [List.length_cons]
      omega
theorem run_facts {l most : Int} {zs : List (Int × Int)} (r : Roll l zs) :
    Roll l (runR l most zs).1 ∧ sumL (runR l most zs).1 = sumL zs ∧ (runR l most zs).1.length ≤ zs.length ∧ firstR l (runR l most zs).1 most = none ∧ ((runR l most zs).2.length : Int) ≤ l * zs.length := by
  obtain ⟨h1, ⟨h2, h3⟩, h4, h5⟩ := run_keeps (most := most) (fun ys => sumL ys = sumL zs ∧ ys.length ≤ zs.length) (fun ys p r' q hp => by
    obtain ⟨_, f2, f3, _⟩ := fold_facts r' p
    exact ⟨f2.trans q.1, Nat.le_trans f3 q.2⟩) _ zs r ⟨rfl, nlr⟩ nlr
  have h6 := phi_nonneg (runR l most zs).1
  have h7 := phi_le r
  exact ⟨h1, h2, h3, h4, by omega⟩
theorem ready_near {l : Int} {zs : List (Int × Int)} (r : Roll l zs) {p q most : Int} (hk : kidsB l p = true) (h : readyB l (foldDo l zs p).1 q most = true) : readyB l zs q most = true ∧ q ≠ p ∨ q = 2 * p ∨ q = 2 * p + 1 ∨ q = p / 2 := by
  have hqp : q ≠ p := fun e => by rw [e, fold_ready r] at h; cases h
  by_cases h1 : q = 2 * p
  · exact .inr (.inl h1)
  by_cases h2 : q = 2 * p + 1
  · exact .inr (.inr (.inl h2))
  by_cases h3 : q = p / 2
  · exact .inr (.inr (.inr h3))
  left
  refine ⟨?_, hqp⟩
  have hq := ready_kids h
  have e1 := fold_other r hk (q := q) h1 h2 hqp
  have e2 := fold_other r hk (q := 2 * q) (by omega) (by omega) (by omega)
  have e3 := fold_other r hk (q := 2 * q + 1) (by omega) (by omega) (by omega)
  unfold readyB pairV allV at h ⊢
  rw [hq] at h ⊢
  simp only [if_true, e1, e2, e3] at h ⊢
  exact h
def AgInv (l most : Int) (zs0 zs : List (Int × Int)) (ag done : List Int) : Prop :=
  Roll l zs ∧ Ord ag ∧ (∀ q ∈ ag, 1 ≤ q) ∧ (∀ q, readyB l zs q most = true → q ∈ ag) ∧ runR l most zs0 = ((runR l most zs).1, done ++ (runR l most zs).2)
theorem AgInv.start {l most : Int} {zs : List (Int × Int)} (r : Roll l zs) : AgInv l most zs zs (parentsL zs) [] :=
  ⟨r, parents_ord zs, fun q hq => by obtain ⟨x, _, h1, h2⟩ := parents_mem.1 hq; omega, fun _ h => ready_mem r h, by simp⟩
theorem AgInv.skip {l most p : Int} {zs0 zs : List (Int × Int)} {t done : List Int} (h : AgInv l most zs0 zs (p :: t) done) (hp : readyB l zs p most = false) : AgInv l most zs0 zs t done := by
  obtain ⟨h1, h2, h3, h4, h5⟩ := h
  refine ⟨h1, h2.tail, fun q hq => h3 q (List.mem_cons_of_mem _ hq), fun q hq => ?_, h5⟩
  rcases List.mem_cons.1 (h4 q hq) with rfl | h
  · rw [hp] at hq; cases hq
  · exact h
theorem AgInv.fold {l most p : Int} {zs0 zs : List (Int × Int)} {t done : List Int} (h : AgInv l most zs0 zs (p :: t) done) (hp : readyB l zs p most = true) :
    AgInv l most zs0 (foldDo l zs p).1 (putL (putL (putL t (2 * p)) (2 * p + 1)) (p / 2)) (done ++ [p]) := by
  obtain ⟨h1, h2, h3, h4, h5⟩ := h
  have hf : firstR l zs most = some p := first_is h1 hp (fun q hq => by
    rcases List.mem_cons.1 (h4 q hq) with rfl | h
    · exact ahead_irrefl _
    · exact ahead_asymm ((List.pairwise_cons.1 h2).1 q h))
  have o0 := h2.tail
  have o1 := putL_ord o0 (2 * p)
  have o2 := putL_ord o1 (2 * p + 1)
  refine ⟨(fold_facts h1 p).1, putL_ord o2 _, fun q hq => ?_, fun q hq => ?_, ?_⟩
  · rw [putL_mem o2, putL_mem o1, putL_mem o0] at hq
    rcases hq with ⟨rfl, h⟩ | ⟨rfl, h⟩ | ⟨rfl, h⟩ | h
    · exact h
    · exact h
    · exact h
    · exact h3 q (List.mem_cons_of_mem _ h)
  · have hq1 := (kids_bound (ready_kids hq)).1
    rw [putL_mem o2, putL_mem o1, putL_mem o0]
    rcases ready_near h1 (ready_kids hp) hq with ⟨h, hne⟩ | h | h | h
    · rcases List.mem_cons.1 (h4 q h) with e | h
      · exact absurd e hne
      · exact .inr (.inr (.inr h))
    · exact .inr (.inr (.inl ⟨h, by omega⟩))
    · exact .inr (.inl ⟨h, by omega⟩)
    · exact .inl ⟨h, by omega⟩
  · rw [h5, runR_some h1 hf]; simp
theorem AgInv.done {l most : Int} {zs0 zs : List (Int × Int)} {done : List Int} (h : AgInv l most zs0 zs [] done) : runR l most zs0 = (zs, done) := by
  obtain ⟨h1, h2, h3, h4, h5⟩ := h
  rw [h5, runR_none ((first_none h1).2 (fun q => by
    cases hq : readyB l zs q most
    · rfl
    · exact absurd (h4 q hq) (by simp)))]
  simp
end Nl
end Go.Proofs.YtdnlejboijkcfaaGreatDoor
