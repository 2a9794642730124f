/- The walks of an agenda: swap, Len, Put. -/
import Derived.Test.YtejoecoenehooaaAg2
import Derived.BigRegion
namespace Go.Proofs.Ytejoecoenehooaa
open Go.RowKit Go.Maps Nl

theorem calls_flip {P : Program} {f : FuncId} {args : Array Value} {w : World} {v : Value} (h : Calls P f args w fun e w' => e = .returned v ∧ w = w') : Calls P f args w fun e w' => e = .returned v ∧ w' = w := h.mono fun _ _ ⟨a, b⟩ => ⟨a, b.symm⟩

theorem AgH.swap {w : World} {a b g n cap : Nat} {hs : List Int} (d : AgH w a b (.slice (some ⟨g, 0, none⟩) n cap) hs) (i j : Nat) :
    AgH ((w.setCell ⟨g, i, none⟩ (.int .i64 (hs.getD j 0))).setCell ⟨g, j, none⟩ (.int .i64 (hs.getD i 0))) a b (.slice (some ⟨g, 0, none⟩) n cap) (swapL hs i j) := by
  have ng : g ≠ a := fun e => d.ne (by rw [← e]; rfl)
  exact ⟨(d.blk.set_other i _ ng.symm).set_other j _ ng.symm, (d.own.store i _).store j _, d.ne⟩

set_option maxRecDepth 100000 in
set_option maxHeartbeats 1000000 in
theorem ag_swapH {w : World} {a b : Nat} {v : Value} {hs : List Int} (d : AgH w a b v hs) (i j : Nat) (hi : i < hs.length) (hj : j < hs.length) (hij : i ≠ j) (hl : hs.length < 2000000) :
    Calls Try.prog 72 #[.pointer (some ⟨a, 0, none⟩), .int .i64 i, .int .i64 j] w fun e w' => e = .returned (.tuple #[]) ∧ AgH w' a b v (swapL hs i j) ∧ Tch1 v w w' := by
  have c0 := d.c0
  rcases d.own.shape with ⟨_, rfl⟩ | ⟨g, cap, rfl, _, hg, hc, hr, hf⟩
  · simp at hi
  have q1 := hr i hi
  have q2 := hr j hj
  have f0 := hf i
  have f1 := hf j
  have D := hid (d.swap i j)
  have ng : g ≠ a := fun e => d.ne (by rw [← e]; rfl)
  have T : Hid (Tch1 (.slice (some ⟨g, 0, none⟩) hs.length cap) w ((w.setCell ⟨g, i, none⟩ (.int .i64 (hs.getD j 0))).setCell ⟨g, j, none⟩ (.int .i64 (hs.getD i 0)))) :=
    (Tch1.setCell w g i _ rfl).trans (Tch1.setCell _ g j _ rfl)
  generalize hs.getD i 0 = x at *
  generalize hs.getD j 0 = y at *
  clear hr hf d
  go_enter Try.func72, Try.ntmps72
  go_wp2_with fail
  go_region
  go_end0
  exact ⟨rfl, D.out.drew, T.out.drew⟩
theorem ag_swap {w : World} {a b : Nat} {v : Value} {hs : List Int} (d : Ag w a b v hs) (i j : Nat) (hi : i < hs.length) (hj : j < hs.length) (hij : i ≠ j) (hl : hs.length < 2000000) :
    Calls Try.prog 72 #[.pointer (some ⟨a, 0, none⟩), .int .i64 i, .int .i64 j] w fun e w' => e = .returned (.tuple #[]) ∧ Ag w' a b v (swapL hs i j) ∧ Tch3 a b v w w' :=
  (ag_swapH d.toH i j hi hj hij hl).mono fun _ _ ⟨h1, h2, h3⟩ => ⟨h1, d.next h2 h3 (swapL_perm hi hj), h3.to3 a b⟩

set_option maxRecDepth 100000 in
theorem ag_len {w : World} {a b : Nat} {v : Value} {hs : List Int} (d : Ag w a b v hs) :
    Calls Try.prog 19 #[.pointer (some ⟨a, 0, none⟩)] w fun e w' => e = .returned (.int .i64 hs.length) ∧ w = w' := by
  have c0 := d.c0
  obtain ⟨p, cap, rfl⟩ := d.len
  clear d
  go_enter Try.func19, Try.ntmps19
  go_wp2
  go_ret
  exact ⟨rfl, rfl⟩

def AgPut (a b : Nat) (v : Value) (l : List Int) (id : Int) (w : World) (e : Ending) (w' : World) : Prop :=
  e = .returned (.bool (decide (1 ≤ id ∧ id ∉ l))) ∧ ∃ v', AgL w' a b v' (putL l id) ∧ Fr w v v' ∧ Tch3 a b v w w'
def UpRel (a b : Nat) (v : Value) (hs1 : List Int) (w1 : World) (i : Value) (wr : World) : Prop :=
  ∃ (k : Nat) (hs : List Int), i = .int .i64 k ∧ k < hs.length ∧ HeapUp hs k ∧ hs.Perm hs1 ∧ Ag wr a b v hs ∧ Tch3 a b v w1 wr

set_option maxRecDepth 100000 in
set_option maxHeartbeats 1000000 in
theorem ag_put {w : World} {a b : Nat} {v : Value} {l : List Int} (id : Int) (d : AgL w a b v l) (bi : In64 id) (hl : l.length < 1000000) :
    Calls Try.prog 17 #[.pointer (some ⟨a, 0, none⟩), .int .i64 id] w (AgPut a b v l id w) := by
  by_cases h1 : id < 1
  · have e1 : decide (1 ≤ id ∧ id ∉ l) = false := by simp; omega
    have e2 : putL l id = l := by unfold putL; rw [if_neg (by omega)]
    have P : AgPut a b v l id w (.returned (.bool false)) w := ⟨by rw [e1], v, by rw [e2]; exact d, Fr.refl _ _, Tch3.refl _ _ _ _⟩
    have P' := hid P
    clear P e1 e2 d
    go_enter Try.func17, Try.ntmps17
    go_wp2
    go_ret
    exact P'.out
  obtain ⟨hs, d, hH, hp, ho, hx⟩ := d
  have hlen : hs.length = l.length := hp.length_eq
  by_cases h2 : id ∈ l
  · have e1 : decide (1 ≤ id ∧ id ∉ l) = false := by simp [h2]
    have e2 : putL l id = l := by unfold putL; rw [if_pos (by omega), withL_old ho h2]
    have hm : decide (id ∈ hs) = true := by simpa using hp.mem_iff.2 h2
    have hba : Below w.heap.size w (w.alloc (.cells #[] 107)) := (Below.refl _ _).alloc (Nat.le_refl _) _
    have P : AgPut a b v l id w (.returned (.bool false)) (w.alloc (.cells #[] 107)) := ⟨by rw [e1], v, by rw [e2]; exact ⟨hs, d.below hba (Nat.le_refl _), hH, hp, ho, hx⟩, Fr.refl _ _, Tch3.of_below hba⟩
    have P' := hid P
    have S := d.set
    have c1 := d.c1
    clear P e1 e2 h2
    go_enter Try.func17, Try.ntmps17
    go_wp2_with (at_lookup; refine lookupSet _ _ S bi rfl rfl rfl rfl ?_; rw [hm])
    go_ret
    exact P'.out
  · have hn : id ∉ hs := fun h => h2 (hp.mem_iff.1 h)
    have hm : decide (id ∈ hs) = false := by simpa using hn
    have e1 : decide (1 ≤ id ∧ id ∉ l) = true := by simp [h2]; omega
    have hp1 : (hs ++ [id]).Perm (withL l id) := (List.perm_append_comm.trans (List.Perm.cons id hp)).trans (withL_perm h2).symm
    have e2 : putL l id = withL l id := by unfold putL; rw [if_pos (by omega)]
    have ho1 := withL_ord ho id
    have hx1 : ∀ x ∈ withL l id, 1 ≤ x ∧ In64 x := fun x h => by
      rcases (withL_mem ho).1 h with rfl | h
      · exact ⟨by omega, bi⟩
      · exact hx x h
    have hna := d.nab
    have hnv := d.nvb
    have hne := d.ne
    have hla := d.lta
    have hlb := d.ltb
    have hlv := d.own.lt'
    have hba : Below w.heap.size w (w.alloc (.cells #[] 107)) := (Below.refl _ _).alloc (Nat.le_refl _) _
    have d1 := d.below hba (Nat.le_refl _)
    have S := d.set
    have c1 := d.c1
    have S1 := d1.set
    have b1 := d1.blk
    have o1 := d1.own
    have c11 := d1.c1
    have T1 : Tch3 a b v w (w.alloc (.cells #[] 107)) := Tch3.of_below hba
    have hsz : (w.alloc (.cells #[] 107)).heap.size = w.heap.size + 1 := by simp
    have E1 := hid e1
    have E2 := hid e2
    have HP1 := hid hp1
    have HO1 := hid ho1
    have HX1 := hid hx1
    have HH := hid (HeapUp.start hH id)
    have HN := hid hn
    have Hlen := hid hlen
    have hlt : hs.length < 1000000 := by omega
    clear e1 e2 hp1 ho1 hx1 hH d d1 hp h2 hx ho hn hlen hl
    go_enter Try.func17, Try.ntmps17
    go_wp2_with (first
      | (at_lookup; refine lookupSet _ _ S bi rfl rfl rfl rfl ?_; rw [hm])
      | (at_mapUpdate; refine updateSet _ _ _ S1 bi HN.out (by omega) rfl rfl rfl rfl rfl ?_; intro w2 S2 ht2
         have b2 := b1.keep (ht2.grown.block a (by omega) (by simp; omega))
         have o2 := o1.keep (fun k hk => ht2.grown.block k (by have := hlv k hk; omega) (by rintro ⟨rfl⟩; exact hnv hk))
         have T2 := T1.trans (Tch3.of_map ht2) (Fr.refl _ _)
         have hs2 := ht2.grown.size
         have c20 := b2.cell 0)
      | (at_builtin; refine appendI _ _ o2 (by omega) (Nat.zero_le _) rfl rfl rfl rfl rfl ?_; intro g cap w3 o3 hg3 hat3 hlt3
         have b3 := b2.keep (hg3.block a (by omega) hne.symm)
         have c30 := b3.cell 0
         have f30 := b3.free 0))
    have hga : g ≠ a := by
      rcases hat3 with h | h
      · intro e; subst e; exact hne h
      · omega
    have hgb : b ≠ g := by
      rcases hat3 with h | h
      · intro e; subst e; exact hnv h
      · omega
    have hlb2 : b < w2.heap.size := by omega
    have d4 : Ag (w3.setCell ⟨a, 0, none⟩ (.slice (some ⟨g, 0, none⟩) (hs.length + 1) cap)) a b (.slice (some ⟨g, 0, none⟩) (hs.length + 1) cap) (hs ++ [id]) := by
      refine ⟨b3.set 0 _, o3.keep (fun k hk => Below.heap_setCell _ ⟨a, 0, none⟩ _ k (fun e => ?_)), S2.keep ((Below.heap_setCell _ ⟨a, 0, none⟩ _ b (Ne.symm hna)).trans (hg3.block b hlb2 hnv.symm)), ?_⟩
      · simp only [Value.ownBlock, Option.some.injEq] at hk
        exact hga (hk.trans e)
      · simp only [Value.ownBlock, ne_eq, Option.some.injEq]; exact hga
    have T4 : Tch3 a b v w (w3.setCell ⟨a, 0, none⟩ (.slice (some ⟨g, 0, none⟩) (hs.length + 1) cap)) := (T2.trans (Tch3.of_grown hg3 (fun k e => .inr (.inr e))) (Fr.refl _ _)).trans (Tch3.setCell _ a 0 _ (.inl rfl)) (Fr.refl _ _)
    have F4 : Fr w v (.slice (some ⟨g, 0, none⟩) (hs.length + 1) cap) := by
      rcases hat3 with h | h
      · exact .inl h.symm
      · exact .inr ⟨g, rfl, by omega⟩
    have hl4 : (hs ++ [id]).length = hs.length + 1 := by simp
    generalize w3.setCell ⟨a, 0, none⟩ (.slice (some ⟨g, 0, none⟩) (hs.length + 1) cap) = w4 at *
    clear c1 S1 S b1 o1 c11 T1 b2 o2 T2 S2 hs2 c20 b3 c30 f30 hg3 hat3 o3 ht2 hm
    obtain ⟨N, eN⟩ : ∃ N, hs.length + 1 = N := ⟨_, rfl⟩
    rw [eN] at d4 F4 hl4 ⊢
    have hN1 : 1 ≤ N ∧ N ≤ 1000000 := by omega
    have EN := hid eN
    have c40 := d4.c0
    clear eN
    go_wp2_with fail
    go_loopw [7] (fun i wr => UpRel a b (.slice (some ⟨g, 0, none⟩) N cap) (hs ++ [id]) w4 i wr) (fun i _ => (intOf i).toNat)
    case atStart => exact ⟨hs.length, hs ++ [id], rfl, by simp, HH.out, .refl _, d4, Tch3.refl _ _ _ _⟩
    case round =>
      obtain ⟨k, ys, rfl, hk, hup, hpy, dy, Ty⟩ := hrel
      have HU := hid hup
      have HY := hid hpy
      have hyl : ys.length = N := hpy.length_eq.trans hl4
      have Hyl := hid hyl
      have cy := dy.c0
      have rdy := dy.own.shape
      rcases rdy with ⟨h, _⟩ | ⟨g', cap', hv', _, hg', hc', hr', hf'⟩
      · simp at h
      simp only [Value.slice.injEq, Option.some.injEq, Addr.mk.injEq, and_true] at hv'
      obtain ⟨rfl, hxx, rfl⟩ := hv'
      clear hxx
      have hkN : k < N := by omega
      have Sw := hid (fun (j : Nat) (hj : j < ys.length) (hij : k ≠ j) W (x : Ag W a b (.slice (some ⟨g, 0, none⟩) N cap) ys) => ag_swap x k j hk hj hij (by omega))
      clear hup hpy c40 hl4 hyl
      have PP : Hid (k = 0 ∨ aheadB (ys.getD k 0) (ys.getD ((k - 1) / 2) 0) = false → ∀ n, AgPut a b v l id w (.returned (.bool true)) (wr.drewN n)) := fun h n =>
        ⟨by rw [E1.out], _, by rw [E2.out]; exact ⟨ys, dy.drewN n, HU.out.done h, HY.out.trans HP1.out, HO1.out, HX1.out⟩, F4, (T4.trans Ty F4).drewN n⟩
      by_cases h0 : k = 0
      · subst h0
        have hd : decide ((0 : Int) < 0) = false := by decide
        go_wp2_with fail
        go_quiet (fail)
        go_wp2_with fail
        go_ret
        exact PP.out (.inl trivial) _
      · have h0' : 0 < k := by omega
        have hpk : (k - 1) / 2 < k := by omega
        obtain ⟨K, eK⟩ : ∃ K : Int, (k : Int) - 1 = K := ⟨_, rfl⟩
        have e1 : IntKind.i64.wrap ((k : Int) - 1) = K := by rw [IntWalk.i64_in _ (by omega)]; omega
        have e2 : IntKind.i64.wrap (Int.tdiv K 2) = (((k - 1) / 2 : Nat) : Int) := by rw [Int.tdiv_eq_ediv_of_nonneg (by omega), IntWalk.i64_in _ (by omega)]; omega
        have e3 : Int.tdiv K 2 = (((k - 1) / 2 : Nat) : Int) := by rw [Int.tdiv_eq_ediv_of_nonneg (by omega)]; omega
        clear eK
        have q1 := hr' k hk
        have q2 := hr' ((k - 1) / 2) (by omega)
        have hin : ∀ j, j < ys.length → In64 (ys.getD j 0) := fun j hj => (HX1.out _ (HP1.out.mem_iff.1 (HY.out.mem_iff.1 (getD_mem (d := 0) ys j hj)))).2
        have bx : In64 (ys.getD k 0) := hin k hk
        have bz : In64 (ys.getD ((k - 1) / 2) 0) := hin _ (by omega)
        have Up : Hid (aheadB (ys.getD k 0) (ys.getD ((k - 1) / 2) 0) = true → HeapUp (swapL ys k ((k - 1) / 2)) ((k - 1) / 2) ∧ (swapL ys k ((k - 1) / 2)).Perm (hs ++ [id]) ∧ (k - 1) / 2 < (swapL ys k ((k - 1) / 2)).length) :=
          fun h => ⟨HU.out.step h0' hk h, (swapL_perm hk (by omega)).trans HY.out, by rw [swapL_length]; omega⟩
        clear hin
        have Ah := hid (fun W : World => f_ahead _ _ W bx bz)
        have hd : decide ((0 : Int) < k) = true := by simpa using h0'
        have Swp := hid (Sw.out ((k - 1) / 2) (by omega) (by omega))
        have hpl : (k - 1) / 2 < N := by omega
        generalize (k - 1) / 2 = p at *
        generalize ys.getD k 0 = x at *
        generalize ys.getD p 0 = z at *
        obtain ⟨A, eA⟩ : ∃ A, aheadB x z = A := ⟨_, rfl⟩
        rw [eA] at Ah PP Up
        clear h0 hr' hf'
        cases A
        · go_wp2_with fail
          go_quiet ((go_at_call 71; exact Calls.quiet_of_same (calls_flip (Ah.out _))))
          go_wp2_with fail
          go_ret
          exact PP.out (.inr trivial) _
        · go_wp2_with fail
          go_quiet ((go_at_call 71; exact Calls.quiet_of_same (calls_flip (Ah.out _))))
          go_wp2_with fail
          refine (Swp.out _ (dy.drewN nq)).mono ?_
          rintro e w6 ⟨rfl, d6, T6⟩
          go_wp2_with fail
          go_roundw
          case rel =>
            obtain ⟨u1, u2, u3⟩ := Up.out trivial
            exact ⟨p, _, rfl, u3, u1, u2, d6, (Ty.drewN nq).trans T6 (Fr.refl _ _)⟩
          case measure => simp [intOf]; omega
end Go.Proofs.Ytejoecoenehooaa
