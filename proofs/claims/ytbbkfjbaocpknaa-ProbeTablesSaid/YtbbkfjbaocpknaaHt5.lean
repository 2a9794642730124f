/- The walk of the reference's table: Add. -/
import Derived.Test.YtbbkfjbaocpknaaHt4
import Derived.Deep.CutBlock
namespace Go.Proofs.Ytbbkfjbaocpknaa
open Go.RowKit Nl

theorem rd_setH {w : World} {v : Value} {xs : List Nd} {g : Nat} (h : RdN w v xs) (o : ∀ k, v.ownBlock = some k → k ≠ g) (j : Nat) (u : Value) : RdN (w.setCell ⟨g, j, Option.none⟩ u) v xs :=
  h.keep (fun k _ hk => Below.heap_setCell _ ⟨g, j, Option.none⟩ _ k (o k hk)) (by simp)
theorem rd_blkH {w : World} {g : Nat} {xs : List Nd} {n : Nat} (X : Blk w g (ncells xs).toArray 40) (hn : xs.length = n) : RdN w (.slice (some ⟨g, 0, none⟩) n n) xs := by
  subst hn
  refine .inr (.inr ⟨g, 0, xs.length, rfl, X.lt, Nat.le_refl _, fun k hk => ?_⟩)
  obtain ⟨h1, h2⟩ := ncells_get xs k hk
  exact ⟨by rw [Nat.zero_add, X.cell]; simpa using h1, by rw [Nat.zero_add, X.cell]; simpa using h2⟩
def HWRel (l : Int) (b : Nat) (zs all : List Nd) (p5 : Option Addr) (c5 : Nat) (w : World) (gn : Nat) (i : Value) (wr : World) : Prop :=
  ∃ (j : Nat) (v : Value), i = .int .i64 j ∧ j ≤ all.length ∧ all.length - j ≤ gn ∧ Blk wr w.heap.size #[.int .i64 l, .int .i64 b, v] 31 ∧ Blk wr (w.heap.size + 1) #[.int .i64 0, .int .i64 0, .slice none 0 0] 31 ∧
    RdN wr v (putAll b zs (all.take j)) ∧ RdN wr (.slice p5 all.length c5) all ∧ (∀ k, v.ownBlock = some k → w.heap.size + 1 < k) ∧ Below w.heap.size w wr
theorem blkA {X w9 : World} {arr : Array Value} {T : TypeId} (hb : Below (X.alloc (.cells arr T)).heap.size (X.alloc (.cells arr T)) w9) : Blk w9 X.heap.size arr T := (Blk.new X arr T).below hb (Nat.le_refl _)
theorem blkD {X w9 : World} {arr : Array Value} {T : TypeId} (hb : Below (X.alloc (.cells arr T)).drew.heap.size (X.alloc (.cells arr T)).drew w9) : Blk w9 X.heap.size arr T := ((Blk.new X arr T).drewN 1).below hb (Nat.le_refl _)
set_option maxRecDepth 100000 in
set_option maxHeartbeats 4000000 in
theorem h_add {w : World} {l : Int} {b : Nat} {v : Value} {xs : List Nd} (id c : Int) (hr : RdN w v xs) (V : Pv l b xs) (hb1 : 1 ≤ b) (hb : b + 1 ≤ 40) (bi : In64 id) (bc : In64 c) (hcl : xs.length ≤ 400008) :
    Calls Try.prog 24 #[.agg #[.int .i64 l, .int .i64 b, v], .int .i64 id, .int .i64 c] w (HPost l (pAdd l b xs id c).1 (pAdd l b xs id c).2 (pAddCode l xs id c) v w) := by
  obtain ⟨p0, cap, rfl⟩ := hr.val
  have hba : Below w.heap.size w ((w.alloc (.cells #[.int .i64 l, .int .i64 b, .slice p0 xs.length cap] 31)).alloc (.cells #[.int .i64 0, .int .i64 0, .slice none 0 0] 31)) := ((Below.refl _ _).alloc (Nat.le_refl _) _).alloc (by simp) _
  have X1 := (Blk.new w #[.int .i64 l, .int .i64 b, .slice p0 xs.length cap] 31).alloc (.cells #[.int .i64 0, .int .i64 0, .slice none 0 0] 31)
  have Z1 := Blk.new (w.alloc (.cells #[.int .i64 l, .int .i64 b, .slice p0 xs.length cap] 31)) #[.int .i64 0, .int .i64 0, .slice none 0 0] 31
  rw [World.size_alloc] at Z1
  have r1 := hr.below hba (Nat.le_refl _)
  have hl1 := V.l1
  have hl2 := V.l2
  have hmost := V.most
  have htot := tot_snapP V
  have hsnn := sumL_nonneg (pos_of_tab V.tab)
  have hsl : (snapP xs).length ≤ 400008 := by rw [snapP_length]; have := occ_le xs; omega
  have ND := hid (fun W (y : RdN W (.slice p0 xs.length cap) xs) => h_nodes (l := l) (b := b) y V.tab hmost (by omega))
  have ST := hid (fun W v' (y : RdN W v' (snapP xs)) => r_stadd (B := 0) l id c W ⟨y, fun _ _ => Nat.zero_le _⟩ (Nat.zero_le _) (by omega) ⟨by omega, by omega⟩ bi bc (by omega))
  rw [add_snapP V (by omega) id c] at ST
  have HA : Hid (pAdd l b xs id c = if pAddCode l xs id c = 0 then addT b xs id c else (b, xs)) := rfl
  have HC : Hid (pAddCode l xs id c = if rightB l id = false ∨ c < 0 then 2 else if 72057594037927935 < sumL xs + c then 5 else 0) := rfl
  obtain ⟨code, ecode⟩ : ∃ code, pAddCode l xs id c = code := ⟨_, rfl⟩
  rw [ecode] at HA HC ST ⊢
  clear ecode
  go_enter Try.func24, Try.ntmps24
  go_upto_region 1 with fail
  generalize ((w.alloc (.cells #[.int .i64 l, .int .i64 b, .slice p0 xs.length cap] 31)).alloc (.cells #[.int .i64 0, .int .i64 0, .slice none 0 0] 31)) = w1 at *
  go_cut [8, 9] (fun s e wx => (∃ a, s = .pointer (some ⟨a, 0, none⟩)) ∧ e = .int .i64 code ∧ Below w1.heap.size w1 wx)
  case first =>
    have FX := hid (fun W (hb : Below w1.heap.size w1 W) => show W.cell? ⟨w.heap.size, 0, none⟩ = some (.int .i64 l) ∧ W.cell? ⟨w.heap.size, 1, none⟩ = some (.int .i64 b) ∧ W.cell? ⟨w.heap.size, 2, none⟩ = some (.slice p0 xs.length cap) ∧ Below w1.heap.size w1 W from ⟨(X1.below hb (Nat.le_refl _)).cell 0, (X1.below hb (Nat.le_refl _)).cell 1, (X1.below hb (Nat.le_refl _)).cell 2, hb⟩)
    have hB1 : Below w1.heap.size w1 (w1.drewN 1) := below_drewN (Below.refl w1.heap.size w1) 1
    go_region_held3 (fun w' => w'.cell? ⟨w.heap.size, 0, none⟩ = some (.int .i64 l) ∧ w'.cell? ⟨w.heap.size, 1, none⟩ = some (.int .i64 b) ∧ w'.cell? ⟨w.heap.size, 2, none⟩ = some (.slice p0 xs.length cap) ∧ Below w1.heap.size w1 w')
      (first
        | exact FX.out _ hB1
        | exact FX.out _ hBn
        | exact FX.out _ (hB1.alloc (Nat.le_refl _) _)
        | exact FX.out _ (hBn.alloc hBn.size _)
        | exact FX.out _ ((hBn.setCell (p := ⟨w1.heap.size, 0, none⟩) (Nat.le_refl _) _).setCell (p := ⟨w1.heap.size, 1, none⟩) (Nat.le_refl _) _)
        | exact FX.out _ ((hBn.setCell (p := ⟨w5.heap.size, 0, none⟩) hw5s _).setCell (p := ⟨w5.heap.size, 1, none⟩) hw5s _))
      (first
        | (go_at_call 48; have hBa := (‹_ ∧ _ ∧ _ ∧ Below w1.heap.size w1 _›).2.2.2; refine (ND.out _ (r1.below hBa (Nat.le_refl _))).mono ?_; rintro e w5 ⟨v5, rfl, o5, hb5⟩
           have hBn := hBa.trans (hb5.mono hBa.size)
           have hw5s : w1.heap.size ≤ w5.heap.size := hBn.size
           have rd5 := o5.rd
           obtain ⟨p5, c5, rfl⟩ := rd5.val
           try have KB := blkA hb5
           try have KB := blkD hb5
           try have kc0 : World.cell? w5 ⟨_, 0, none⟩ = some (.int .i64 0) := KB.cell 0
           try have kc1 : World.cell? w5 ⟨_, 1, none⟩ = some (.slice none 0 0) := KB.cell 1
           try have kf0 := KB.free 0
           try have kf1 := KB.free 1
           try have kl := KB.lt)
        | (go_at_call 47; have hBa := (‹_ ∧ _ ∧ _ ∧ Below w1.heap.size w1 _›).2.2.2; refine (ST.out _ _ (by first | exact rd5 | exact rd5.alloc _)).mono ?_; rintro e w6 ⟨v6, rfl, r6, -, hb6⟩
           have hBn := hBa.trans (hb6.mono hBa.size)
           obtain ⟨p6, c6, rfl⟩ := r6.1.val
           try have KB := KB.below hb6 (Nat.le_refl _)
           try have KB := blkA hb6
           try have kc0 : World.cell? w6 ⟨_, 0, none⟩ = some (.int .i64 0) := KB.cell 0
           try have kc1 : World.cell? w6 ⟨_, 1, none⟩ = some (.slice none 0 0) := KB.cell 1
           try have kf0 := KB.free 0
           try have kf1 := KB.free 1
           try have kl := KB.lt))
    all_goals
      clear FX ND ST
      go_wp2_with fail
      go_meet
      first
        | exact ⟨⟨_, rfl⟩, rfl, hBn.alloc hBn.size _⟩
        | exact ⟨⟨_, rfl⟩, rfl, (hBn.setCell (p := ⟨w1.heap.size, 0, none⟩) (Nat.le_refl _) _).setCell (p := ⟨w1.heap.size, 1, none⟩) (Nat.le_refl _) _⟩
        | exact ⟨⟨_, rfl⟩, rfl, (hBn.setCell (p := ⟨w5.heap.size, 0, none⟩) hw5s _).setCell (p := ⟨w5.heap.size, 1, none⟩) hw5s _⟩
  case rest =>
    obtain ⟨⟨sa, rfl⟩, rfl, hb2⟩ := hcut
    obtain ⟨w2, rfl⟩ : ∃ x, x = wc := ⟨_, rfl⟩
    have X2 := X1.below hb2 (Nat.le_refl _)
    have Z2 := Z1.below hb2 (Nat.le_refl _)
    have r2 := r1.below hb2 (Nat.le_refl _)
    have hbw := hba.trans (hb2.mono hba.size)
    have hz2 := Z2.lt
    clear X1 Z1 r1 hba hb2 ND ST
    by_cases hno : code ≠ 0 ∨ c = 0
    · have e2 : pAdd l b xs id c = (b, xs) := by
        rw [HA.out]
        rcases hno with h | h
        · rw [if_neg h]
        · split
          · unfold addT; rw [if_pos h]
          · rfl
      have E2 := hid e2
      have x0 : w2.cell? ⟨w.heap.size, 0, none⟩ = some (.int .i64 l) := X2.cell 0
      have x1 : w2.cell? ⟨w.heap.size, 1, none⟩ = some (.int .i64 b) := X2.cell 1
      have x2 : w2.cell? ⟨w.heap.size, 2, none⟩ = some (.slice p0 xs.length cap) := X2.cell 2
      have z0 : w2.cell? ⟨w.heap.size + 1, 0, none⟩ = some (.int .i64 0) := Z2.cell 0
      have z1 : w2.cell? ⟨w.heap.size + 1, 1, none⟩ = some (.int .i64 0) := Z2.cell 1
      have z2 : w2.cell? ⟨w.heap.size + 1, 2, none⟩ = some (.slice none 0 0) := Z2.cell 2
      have g0 := Z2.free 0
      have g1 := Z2.free 1
      have g2 := Z2.free 2
      have V2 := ((Z2.set 0 (.int .i64 l)).set 1 (.int .i64 b)).set 2 (.slice p0 xs.length cap)
      have q0 : World.cell? _ ⟨w.heap.size + 1, 0, none⟩ = some (.int .i64 l) := V2.cell 0
      have q1 : World.cell? _ ⟨w.heap.size + 1, 1, none⟩ = some (.int .i64 b) := V2.cell 1
      have q2 : World.cell? _ ⟨w.heap.size + 1, 2, none⟩ = some (.slice p0 xs.length cap) := V2.cell 2
      have hbz := ((hbw.setCell (p := ⟨w.heap.size + 1, 0, none⟩) (by show w.heap.size ≤ w.heap.size + 1; omega) (.int .i64 l)).setCell (p := ⟨w.heap.size + 1, 1, none⟩) (by show w.heap.size ≤ w.heap.size + 1; omega) (.int .i64 b)).setCell (p := ⟨w.heap.size + 1, 2, none⟩) (by show w.heap.size ≤ w.heap.size + 1; omega) (.slice p0 xs.length cap)
      have rz := hr.below hbz (Nat.le_refl _)
      have hcs : (code ≠ 0 ∧ (code != 0) = true) ∨ ((code != 0) = false ∧ (c == 0) = true) := by
        by_cases h : code = 0
        · exact .inr ⟨by simp [h], by simpa [h] using hno⟩
        · exact .inl ⟨h, by simpa using h⟩
      clear hno e2 V
      rcases hcs with ⟨hq, hq1⟩ | ⟨hq1, hq2⟩
      all_goals
        go_wp2_with fail
        exact bodyPost_ret (v := .tuple #[.agg #[.int .i64 l, .int .i64 b, .slice p0 xs.length cap], .int .i64 code]) (by simp [results, Try.results24, go_sem, q0, q1, q2]) rfl (by rw [E2.out]; exact ⟨_, rfl, rz, .inl rfl, hbz⟩)
    · obtain rfl : code = 0 := by
        by_cases h : code = 0
        · exact h
        · exact absurd (.inl h) hno
      have hc0 : c ≠ 0 := fun h => hno (.inr h)
      have hcc := HC.out
      have hrt : rightB l id = true := by
        cases hq : rightB l id
        · rw [hq, if_pos (.inl rfl)] at hcc; exact absurd hcc (by decide)
        · rfl
      have hcn : ¬ (rightB l id = false ∨ c < 0) := fun h => by rw [if_pos h] at hcc; exact absurd hcc (by decide)
      rw [if_neg hcn] at hcc
      have hsum : ¬ 72057594037927935 < sumL xs + c := fun h => by rw [if_pos h] at hcc; exact absurd hcc (by decide)
      have hcp : 0 < c := by
        by_cases h : c < 0
        · exact absurd (.inr h) hcn
        · omega
      have hcb : c ≤ 72057594037927935 := by omega
      have ha := HA.out
      rw [if_pos rfl, hadd_eq V (by omega) hrt hcp] at ha
      have hi1 := right_pos hrt
      obtain ⟨em, he, hs⟩ := V.empty
      have F := hid (fun W (y : RdN W (.slice p0 xs.length cap) xs) => h_find (l := l) id y V.tab hb1 (by omega) he (hs id) ⟨hi1, bi.2⟩)
      have hli := (look_spec V.tab id he (hs id)).2.2.1
      have hcp0 := V.tab.pos (lookI xs b id)
      have hcle := cnt_le V.tab (lookI xs b id)
      have SL := hid (fun W (y : RdN W (.slice p0 xs.length cap) xs) => h_slots2 (l := l) (b := b) y (by omega))
      have PU := hid (fun W (y : RdN W (.slice p0 xs.length cap) xs) => h_put (l := l) id c y V.tab hb1 (by omega) he (hs id) ⟨hi1, bi.2⟩ bc ⟨by omega, by omega⟩ (by omega))
      have hfl : (full xs).length ≤ xs.length := by rw [full_length]; exact occ_le xs
      obtain ⟨gs, off, y, x, hp, ex, hgs, -, -⟩ := r2.at hli
      have hx : cntA xs (lookI xs b id) = x := by unfold cntA; rw [ex]
      rw [hx] at ha hcp0 hcle
      have HA2 := hid ha
      have EX := hid ex
      have WF := hid (fun (k : Nat) (hk : k < (full xs).length) => widen_free V.tab (by omega : b + 1 ≤ 62) hk)
      have FO := hid V.tab.full_ok
      have WS := hid (widen_spec V.tab (by omega : b + 1 ≤ 62))
      have TL := hid V.tab.len
      have IDM := hid V.idmax
      have VT := hid V
      subst hp
      generalize lookI xs b id = q at *
      generalize lookD xs b id = dd at *
      clear hs he ha hx ex HA HC hcc hsum hcn hno V hrt
      have hlq : (q : Int) < (xs.length : Int) := by omega
      have x0 : w2.cell? ⟨w.heap.size, 0, none⟩ = some (.int .i64 l) := X2.cell 0
      have x1 : w2.cell? ⟨w.heap.size, 1, none⟩ = some (.int .i64 b) := X2.cell 1
      have x2 : w2.cell? ⟨w.heap.size, 2, none⟩ = some (.slice (some ⟨gs, off, none⟩) xs.length cap) := X2.cell 2
      have hc0i : (c == 0) = false := by simpa using hc0
      go_wp2_with fail
      refine (F.out _ r2).mono ?_
      rintro e w3 ⟨rfl, hb3⟩
      have X3 := X2.below hb3 (Nat.le_refl _)
      have Z3 := Z2.below hb3 (Nat.le_refl _)
      have r3 := r2.below hb3 (Nat.le_refl _)
      have hbw3 := hbw.trans (hb3.mono hbw.size)
      clear x0 x1 x2 F X2 Z2 r2 hbw hb3
      have x0 : w3.cell? ⟨w.heap.size, 0, none⟩ = some (.int .i64 l) := X3.cell 0
      have x1 : w3.cell? ⟨w.heap.size, 1, none⟩ = some (.int .i64 b) := X3.cell 1
      have x2 : w3.cell? ⟨w.heap.size, 2, none⟩ = some (.slice (some ⟨gs, off, none⟩) xs.length cap) := X3.cell 2
      go_wp2_with fail
      refine (SL.out _ r3).mono ?_
      rintro e w4 ⟨v5, rfl, o5, hb4⟩
      have hz3 := Z3.lt
      have X4 := X3.below hb4 (Nat.le_refl _)
      have Z4 := Z3.below hb4 (Nat.le_refl _)
      have r4 := r3.below hb4 (Nat.le_refl _)
      have hbw4 := hbw3.trans (hb4.mono hbw3.size)
      have hz4 := Z4.lt
      obtain ⟨p5, c5, rfl⟩ := o5.rd.val
      have hlt5 := o5.lt
      have rd5 := o5.rd
      obtain ⟨gs', off', y', x', hp', ex', hgs', k0, k1⟩ := r4.at hli
      simp only [Option.some.injEq, Addr.mk.injEq, and_true] at hp'
      obtain ⟨rfl, rfl⟩ := hp'
      rw [EX.out] at ex'
      simp only [Prod.mk.injEq] at ex'
      obtain ⟨rfl, rfl⟩ := ex'
      clear x0 x1 x2 SL X3 Z3 r3 hbw3 hb4 o5
      have x0 : w4.cell? ⟨w.heap.size, 0, none⟩ = some (.int .i64 l) := X4.cell 0
      have x1 : w4.cell? ⟨w.heap.size, 1, none⟩ = some (.int .i64 b) := X4.cell 1
      have x2 : w4.cell? ⟨w.heap.size, 2, none⟩ = some (.slice (some ⟨gs, off, none⟩) xs.length cap) := X4.cell 2
      by_cases hw : x = 0 ∧ xs.length < 2 * ((full xs).length + 1)
      · obtain ⟨b', hb'⟩ : ∃ b', b' = b + 1 := ⟨_, rfl⟩
        have E2 : Hid (pAdd l b xs id c = (b', hput b' (widenP b xs) (id, c))) := by show _ = _; rw [HA2.out, if_pos hw, hb']
        have HBB := hid (show (b : Int) + 1 = (b' : Int) by omega)
        obtain ⟨hx0, hlt⟩ := hw
        subst hx0
        have hq2 : decide ((xs.length : Int) < 2 * (((full xs).length : Int) + 1)) = true := decide_eq_true (by omega)
        have hN : 2 ^ b' = 2 * xs.length := by rw [hb', TL.out, Nat.pow_succ]; omega
        have hmk := make_nodes (2 * xs.length) (by omega)
        rw [show ((2 * xs.length : Nat) : Int) = 2 * (xs.length : Int) by simp] at hmk
        have WF2 := hid (fun k (hk : k < (full xs).length) => by have := WF.out k hk; rw [← hb', hN] at this; exact this)
        have WS2 : Hid (Tab b' (widenP b xs) ∧ occ (widenP b xs) = occ xs ∧ sumL (widenP b xs) = sumL xs ∧ (widenP b xs).length = 2 * xs.length) := by
          obtain ⟨a1, a2, a3, a4, -⟩ := WS.out
          rw [← hb'] at a1
          exact ⟨a1, a2, a3, a4⟩
        have WP : Hid (widenP b xs = putAll b' (List.replicate (2 * xs.length) (0, 0)) (full xs)) := by
          show _ = _; unfold widenP; rw [← hb', hN]
        have f1 := X4.free 1
        have f2 := X4.free 2
        have X6 := (((X4.set 1 (.int .i64 ((b : Int) + 1))).set 2 (.slice (some ⟨w4.heap.size, 0, none⟩) (2 * xs.length) (2 * xs.length)))).alloc (.cells (ncells (List.replicate (2 * xs.length) ((0 : Int), (0 : Int)))).toArray 40)
        have Z6 := (((Z4.set_other (g' := w.heap.size) 1 (.int .i64 ((b : Int) + 1)) (by omega)).set_other (g' := w.heap.size) 2 (.slice (some ⟨w4.heap.size, 0, none⟩) (2 * xs.length) (2 * xs.length)) (by omega))).alloc (.cells (ncells (List.replicate (2 * xs.length) ((0 : Int), (0 : Int)))).toArray 40)
        have B6 := Blk.new ((w4.setCell ⟨w.heap.size, 1, none⟩ (.int .i64 ((b : Int) + 1))).setCell ⟨w.heap.size, 2, none⟩ (.slice (some ⟨w4.heap.size, 0, none⟩) (2 * xs.length) (2 * xs.length))) (ncells (List.replicate (2 * xs.length) ((0 : Int), (0 : Int)))).toArray 40
        simp only [World.size_setCell] at B6
        have hn5 : ∀ k, Value.ownBlock (.slice p5 (full xs).length c5) = some k → k ≠ w.heap.size := fun k hk => by have := hlt5 k hk; omega
        have rd6 := (rd_setH (rd_setH rd5 hn5 1 (.int .i64 ((b : Int) + 1))) hn5 2 (.slice (some ⟨w4.heap.size, 0, none⟩) (2 * xs.length) (2 * xs.length))).alloc (.cells (ncells (List.replicate (2 * xs.length) ((0 : Int), (0 : Int)))).toArray 40)
        have hbw6 := ((hbw4.setCell (p := ⟨w.heap.size, 1, none⟩) (Nat.le_refl _) (.int .i64 ((b : Int) + 1))).setCell (p := ⟨w.heap.size, 2, none⟩) (Nat.le_refl _) (.slice (some ⟨w4.heap.size, 0, none⟩) (2 * xs.length) (2 * xs.length))).alloc (by rw [World.size_setCell, World.size_setCell]; exact hbw4.size) (.cells (ncells (List.replicate (2 * xs.length) ((0 : Int), (0 : Int)))).toArray 40)
        have hlx := X4.lt
        have rv6 := rd_blkH (n := 2 * xs.length) B6 (by simp)
        have hall : ∀ k, Value.ownBlock (.slice p5 (full xs).length c5) = some k → w.heap.size + 1 < k := fun k hk => by have := hlt5 k hk; omega
        have HALL := hid hall
        have hmx : ∀ k (hk : k < (full xs).length), ((full xs).getD k (0, 0)).1 ≤ 9223372036854775807 := fun k hk => by
          have hm : (full xs).getD k (0, 0) ∈ full xs := getD_mem _ _ hk
          obtain ⟨i, hi, e1, -, -⟩ := full_mem.1 (show (((full xs).getD k (0, 0)).1, ((full xs).getD k (0, 0)).2) ∈ full xs from hm)
          rw [← e1]; exact IDM.out i
        have hmc : ∀ k (hk : k < (full xs).length), 1 ≤ ((full xs).getD k (0, 0)).1 ∧ 0 < ((full xs).getD k (0, 0)).2 ∧ ((full xs).getD k (0, 0)).2 ≤ 72057594037927935 := fun k hk => by
          have hm : (full xs).getD k (0, 0) ∈ full xs := getD_mem _ _ hk
          obtain ⟨g1, g2⟩ := FO.out _ hm
          obtain ⟨i, hi, -, e2, -⟩ := full_mem.1 (show (((full xs).getD k (0, 0)).1, ((full xs).getD k (0, 0)).2) ∈ full xs from hm)
          have := cnt_le VT.out.tab i
          have := VT.out.most
          exact ⟨g1, g2, by omega⟩
        have HMX := hid hmx
        have HMC := hid hmc
        have R0 : Hid (HWRel l b' (List.replicate (2 * xs.length) (0, 0)) (full xs) p5 c5 w (full xs).length (.int .i64 (0 : Nat)) (((w4.setCell ⟨w.heap.size, 1, none⟩ (.int .i64 ((b : Int) + 1))).setCell ⟨w.heap.size, 2, none⟩ (.slice (some ⟨w4.heap.size, 0, none⟩) (2 * xs.length) (2 * xs.length))).alloc (.cells (ncells (List.replicate (2 * xs.length) ((0 : Int), (0 : Int)))).toArray 40))) :=
          ⟨0, _, rfl, Nat.zero_le _, Nat.le_refl _, by rw [← HBB.out]; simpa using X6, Z6, by simpa [putAll] using rv6, rd6, fun k hk => by simp only [Value.ownBlock, Option.some.injEq] at hk; omega, hbw6⟩
        have hn0 : (full xs).length ≤ 400008 := by omega
        clear X6 Z6 B6 rd6 hbw6 rv6 hmx hmc hall hn5 rd5 WF WS HA2 PU EX hlt5 IDM VT FO
        have hbp1 : 1 ≤ b' := by omega
        have hbp2 : b' ≤ 40 := by omega
        clear hb'
        generalize full xs = al at *
        have hlN : xs.length ≤ 400008 := hcl
        as_aux_lemma =>
          go_wp2_with fail
          go_loopg [13] al.length (fun gn i wr => HWRel l b' (List.replicate (2 * xs.length) (0, 0)) al p5 c5 w gn i wr)
          case atStart => exact R0.out
          case round =>
            obtain ⟨j, v9, rfl, hj, hgn, Xr, Zr, rv, rall, hv9, hbl⟩ := hrel
            obtain ⟨pv, cv, rfl⟩ := rv.val
            have hxl := Xr.lt
            have hzl := Zr.lt
            have y0 : wr.cell? ⟨w.heap.size, 0, none⟩ = some (.int .i64 l) := Xr.cell 0
            have y1 : wr.cell? ⟨w.heap.size, 1, none⟩ = some (.int .i64 b') := Xr.cell 1
            by_cases hjn : j < al.length
            · obtain ⟨ga, oa, a', c', hp5, hac, hga, m0, m1⟩ := rall.at hjn
              subst hp5
              obtain ⟨tj, zj, lj, oj⟩ := WF2.out j hjn
              have hm1 := HMX.out j hjn
              have hm2 := HMC.out j hjn
              rw [hac] at zj hm1 hm2
              have hsn := putAll_snoc b' (List.replicate (2 * xs.length) ((0 : Int), (0 : Int))) (al.take j) (a', c')
              rw [← hac, ← take_at (d := ((0, 0) : Nd)) al j hjn, hac] at hsn
              generalize putAll b' (List.replicate (2 * xs.length) ((0 : Int), (0 : Int))) (al.take j) = T at *
              obtain ⟨T2, eT2⟩ : ∃ T2, putAll b' (List.replicate (2 * xs.length) ((0 : Int), (0 : Int))) (al.take (j + 1)) = T2 := ⟨_, rfl⟩
              rw [eT2] at hsn
              have ET2 := hid eT2
              obtain ⟨ee, hee, hse⟩ := has_empty (show occ T < T.length by omega)
              have hz := hput_zero (b := b') (t := T) (x := (a', c')) zj
              have PJ := hid (fun W (y : RdN W (.slice pv T.length cv) T) => h_put (l := l) a' c' y tj (by omega) (by omega) hee ((stopB_iff).2 (.inl hse)) ⟨by omega, hm1⟩ ⟨by omega, by omega⟩ (by rw [zj]; exact ⟨by omega, by omega⟩) (by omega))
              rw [hz, ← hsn] at PJ
              have y2 : wr.cell? ⟨w.heap.size, 2, none⟩ = some (.slice pv T.length cv) := Xr.cell 2
              have hB0 := Below.refl wr.heap.size wr
              have hjl : (j : Int) < (al.length : Int) := by omega
              clear hsn hz zj tj oj lj hee hse eT2 hac hm1 hm2 R0
              go_wp2_with fail
              go_region_with ((go_at_call 50; refine (PJ.out _ (rv.below (below_drewN hB0 1) (Nat.le_refl _))).mono ?_; rintro e w5 ⟨v5, rfl, o5, hb5⟩; obtain ⟨p6, c6, rfl⟩ := o5.rd.val; have Y5 := (Xr.drewN 1).below hb5 (Nat.le_refl _); have c50 : w5.cell? ⟨w.heap.size, 0, none⟩ = _ := Y5.cell 0; have c51 : w5.cell? ⟨w.heap.size, 1, none⟩ = _ := Y5.cell 1; have c52 : w5.cell? ⟨w.heap.size, 2, none⟩ = _ := Y5.cell 2; have f50 := Y5.free 0; have f51 := Y5.free 1; have f52 := Y5.free 2; have hl5 := Y5.lt))
              all_goals
                have Z5 := (Zr.drewN 1).below hb5 (Nat.le_refl _)
                have ra5 := (rall.drewN 1).below hb5 (Nat.le_refl _)
                have lt5 := o5.lt
                have hbw5 : Below w.heap.size w w5 := hbl.trans (((below_drewN hB0 1).trans (hb5.mono (Nat.le_refl _))).mono hbl.size)
                have Y6 := ((Y5.set 0 (.int .i64 l)).set 1 (.int .i64 b')).set 2 (.slice p6 T2.length c6)
                have Z6 := ((Z5.set_other (g' := w.heap.size) 0 (.int .i64 l) (by omega)).set_other (g' := w.heap.size) 1 (.int .i64 b') (by omega)).set_other (g' := w.heap.size) 2 (.slice p6 T2.length c6) (by omega)
                have n5 : ∀ k, Value.ownBlock (.slice p6 T2.length c6) = some k → k ≠ w.heap.size := fun k hk => by have : wr.heap.size ≤ k := lt5 k hk; omega
                have na : ∀ k, Value.ownBlock (.slice (some ⟨ga, oa, none⟩) al.length c5) = some k → k ≠ w.heap.size := fun k hk => by have := HALL.out k hk; omega
                have r6 := rd_setH (rd_setH (rd_setH o5.rd n5 0 (.int .i64 l)) n5 1 (.int .i64 b')) n5 2 (.slice p6 T2.length c6)
                have a6 := rd_setH (rd_setH (rd_setH ra5 na 0 (.int .i64 l)) na 1 (.int .i64 b')) na 2 (.slice p6 T2.length c6)
                have hbw6 := ((hbw5.setCell (p := ⟨w.heap.size, 0, none⟩) (Nat.le_refl _) (.int .i64 l)).setCell (p := ⟨w.heap.size, 1, none⟩) (Nat.le_refl _) (.int .i64 b')).setCell (p := ⟨w.heap.size, 2, none⟩) (Nat.le_refl _) (.slice p6 T2.length c6)
                have own5 : ∀ k, Value.ownBlock (.slice p6 T2.length c6) = some k → w.heap.size + 1 < k := fun k hk => by have : wr.heap.size ≤ k := lt5 k hk; omega
                clear Z5 Y5 hbw5 PJ y0 y1 y2 hb5 ra5
                go_wp2_with fail
                go_roundg (al.length - (j + 1))
                case rel => exact ⟨j + 1, _, by go_num, by omega, Nat.le_refl _, Y6, Z6, by rw [ET2.out]; exact r6, a6, own5, hbw6⟩
                case measure => omega
            · obtain rfl : j = al.length := by omega
              rw [List.take_length, ← WP.out] at rv Xr
              obtain ⟨t1, o1, s1, l1⟩ := WS2.out
              have hocc := occ_le xs
              have hpos := Xr.lt
              obtain ⟨ee, hee, hse⟩ := has_empty (show occ (widenP b xs) < (widenP b xs).length by omega)
              have cle := cnt_le t1 (lookI (widenP b xs) b' id)
              have cps := t1.pos (lookI (widenP b xs) b' id)
              have PW := hid (fun W (y : RdN W (.slice pv (widenP b xs).length cv) (widenP b xs)) => h_put (l := l) id c y t1 hbp1 hbp2 hee ((stopB_iff).2 (.inl hse)) ⟨hi1, bi.2⟩ bc ⟨by omega, by omega⟩ (by omega))
              clear cle cps hee hse t1 o1 s1 R0 WF2 HMX HMC
              have y2 : wr.cell? ⟨w.heap.size, 2, none⟩ = some (.slice pv (widenP b xs).length cv) := Xr.cell 2
              clear l1
              go_wp2_with fail
              refine (PW.out _ rv).mono ?_
              rintro e w9 ⟨v9, rfl, o9, hb9⟩
              obtain ⟨p9, c9, rfl⟩ := o9.rd.val
              have Z9 := Zr.below hb9 (Nat.le_refl _)
              have hbw9 := hbl.trans (hb9.mono hbl.size)
              have lt9 := o9.lt
              clear y0 y1 y2 PW hb9 Zr Xr hbl rv rall
              have z0 : w9.cell? ⟨w.heap.size + 1, 0, none⟩ = some (.int .i64 0) := Z9.cell 0
              have z1 : w9.cell? ⟨w.heap.size + 1, 1, none⟩ = some (.int .i64 0) := Z9.cell 1
              have z2 : w9.cell? ⟨w.heap.size + 1, 2, none⟩ = some (.slice none 0 0) := Z9.cell 2
              have g0 := Z9.free 0
              have g1 := Z9.free 1
              have g2 := Z9.free 2
              obtain ⟨T9, eT9⟩ : ∃ T9, hput b' (widenP b xs) (id, c) = T9 := ⟨_, rfl⟩
              rw [eT9] at o9 E2 lt9 ⊢
              clear eT9
              have V2 := ((Z9.set 0 (.int .i64 l)).set 1 (.int .i64 b')).set 2 (.slice p9 T9.length c9)
              have q0 : World.cell? _ ⟨w.heap.size + 1, 0, none⟩ = some (.int .i64 l) := V2.cell 0
              have q1 : World.cell? _ ⟨w.heap.size + 1, 1, none⟩ = some (.int .i64 b') := V2.cell 1
              have q2 : World.cell? _ ⟨w.heap.size + 1, 2, none⟩ = some (.slice p9 T9.length c9) := V2.cell 2
              have hbz := ((hbw9.setCell (p := ⟨w.heap.size + 1, 0, none⟩) (by show w.heap.size ≤ w.heap.size + 1; omega) (.int .i64 l)).setCell (p := ⟨w.heap.size + 1, 1, none⟩) (by show w.heap.size ≤ w.heap.size + 1; omega) (.int .i64 b')).setCell (p := ⟨w.heap.size + 1, 2, none⟩) (by show w.heap.size ≤ w.heap.size + 1; omega) (.slice p9 T9.length c9)
              have no9 : ∀ k, Value.ownBlock (.slice p9 T9.length c9) = some k → k ≠ w.heap.size + 1 := fun k hk => by have := lt9 k hk; omega
              have rz := rd_setH (rd_setH (rd_setH o9.rd no9 0 (.int .i64 l)) no9 1 (.int .i64 b')) no9 2 (.slice p9 T9.length c9)
              have own9 : ∀ k, Value.ownBlock (.slice p9 T9.length c9) = some k → w.heap.size ≤ k := fun k hk => by have := lt9 k hk; omega
              go_wp2_with fail
              exact bodyPost_ret (v := .tuple #[.agg #[.int .i64 l, .int .i64 b', .slice p9 T9.length c9], .int .i64 0]) (by simp [results, Try.results24, go_sem, q0, q1, q2]) rfl (by rw [E2.out]; exact ⟨_, rfl, rz, .inr own9, hbz⟩)
      · have E2 : Hid (pAdd l b xs id c = (b, hput b xs (id, c))) := by show _ = _; rw [HA2.out, if_neg hw]
        have hcs : (x == 0) = false ∨ ((x == 0) = true ∧ decide ((xs.length : Int) < 2 * (((full xs).length : Int) + 1)) = false) := by
          by_cases h : x = 0
          · exact .inr ⟨by simp [h], decide_eq_false (fun h2 => hw ⟨h, by omega⟩)⟩
          · exact .inl (by simpa using h)
        generalize (full xs).length = n5 at *
        clear hw HA2 WF WS FO TL IDM VT EX
        as_aux_lemma =>
          rcases hcs with hq1 | ⟨hq1, hq2⟩
          all_goals
            go_wp2_with fail
            refine (PU.out _ r4).mono ?_
            rintro e w9 ⟨v9, rfl, o9, hb9⟩
            obtain ⟨p9, c9, rfl⟩ := o9.rd.val
            have Z9 := Z4.below hb9 (Nat.le_refl _)
            have hbw9 := hbw4.trans (hb9.mono hbw4.size)
            have lt9 := o9.lt
            clear x0 x1 x2 k0 k1 PU hb9 Z4 X4 hbw4
            have z0 : w9.cell? ⟨w.heap.size + 1, 0, none⟩ = some (.int .i64 0) := Z9.cell 0
            have z1 : w9.cell? ⟨w.heap.size + 1, 1, none⟩ = some (.int .i64 0) := Z9.cell 1
            have z2 : w9.cell? ⟨w.heap.size + 1, 2, none⟩ = some (.slice none 0 0) := Z9.cell 2
            have g0 := Z9.free 0
            have g1 := Z9.free 1
            have g2 := Z9.free 2
            obtain ⟨T9, eT9⟩ : ∃ T9, hput b xs (id, c) = T9 := ⟨_, rfl⟩
            rw [eT9] at o9 E2 lt9 ⊢
            clear eT9
            have V2 := ((Z9.set 0 (.int .i64 l)).set 1 (.int .i64 b)).set 2 (.slice p9 T9.length c9)
            have q0 : World.cell? _ ⟨w.heap.size + 1, 0, none⟩ = some (.int .i64 l) := V2.cell 0
            have q1 : World.cell? _ ⟨w.heap.size + 1, 1, none⟩ = some (.int .i64 b) := V2.cell 1
            have q2 : World.cell? _ ⟨w.heap.size + 1, 2, none⟩ = some (.slice p9 T9.length c9) := V2.cell 2
            have hbz := ((hbw9.setCell (p := ⟨w.heap.size + 1, 0, none⟩) (by show w.heap.size ≤ w.heap.size + 1; omega) (.int .i64 l)).setCell (p := ⟨w.heap.size + 1, 1, none⟩) (by show w.heap.size ≤ w.heap.size + 1; omega) (.int .i64 b)).setCell (p := ⟨w.heap.size + 1, 2, none⟩) (by show w.heap.size ≤ w.heap.size + 1; omega) (.slice p9 T9.length c9)
            have no9 : ∀ k, Value.ownBlock (.slice p9 T9.length c9) = some k → k ≠ w.heap.size + 1 := fun k hk => by have := lt9 k hk; omega
            have rz := rd_setH (rd_setH (rd_setH o9.rd no9 0 (.int .i64 l)) no9 1 (.int .i64 b)) no9 2 (.slice p9 T9.length c9)
            have own9 : ∀ k, Value.ownBlock (.slice p9 T9.length c9) = some k → w.heap.size ≤ k := fun k hk => by have := lt9 k hk; omega
            go_wp2_with fail
            exact bodyPost_ret (v := .tuple #[.agg #[.int .i64 l, .int .i64 b, .slice p9 T9.length c9], .int .i64 0]) (by simp [results, Try.results24, go_sem, q0, q1, q2]) rfl (by rw [E2.out]; exact ⟨_, rfl, rz, .inr own9, hbz⟩)
end Go.Proofs.Ytbbkfjbaocpknaa
