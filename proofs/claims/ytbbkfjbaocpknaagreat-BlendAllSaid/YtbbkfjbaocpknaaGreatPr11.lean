/- The walks of press.Trace, and of the reference's Run. -/
import Derived.Test.YtbbkfjbaocpknaaGreatPr5
import Derived.Test.YtbbkfjbaocpknaaGreatFold7
namespace Go.Proofs.YtbbkfjbaocpknaaGreat
open Go.RowKit Nl

/-- What comes of the reference's Run. -/
def RRunPost (l : Int) (R : List Nd × List Int) (v0 : Value) (w : World) (e : Ending) (w' : World) : Prop :=
  ∃ v o, e = .returned (.tuple #[.agg #[.int .i64 l, v], o]) ∧ RdN w' v R.1 ∧ FrV v0 v w.heap.size ∧ RdIB w' w.heap.size o R.2 ∧ Below w.heap.size w w'
/-- A run of the reference's that is under way. -/
def RRunRel (l most s : Int) (zs0 : List Nd) (v0 : Value) (w : World) (out : Value) (n : Nat) (wr : World) : Prop :=
  ∃ (zs : List Nd) (done : List Int) (v : Value), Roll l zs ∧ Hid (sumL zs = s) ∧ zs.length ≤ zs0.length ∧ Hid (runR l most zs0 = ((runR l most zs).1, done ++ (runR l most zs).2)) ∧ (phi zs).toNat ≤ n ∧ (done.length : Int) + phi zs ≤ phi zs0 ∧
    Blk wr w.heap.size #[.int .i64 l, v] 35 ∧ Blk wr (w.heap.size + 1) #[.int .i64 0, .slice none 0 0] 35 ∧ RdN wr v zs ∧ NotIn v zs w.heap.size ∧ NotIn v zs (w.heap.size + 1) ∧ FrV v0 v w.heap.size ∧ (∀ j, out.ownBlock = some j → NotIn v zs j) ∧ OwnI wr (w.heap.size + 2) out done ∧ Below w.heap.size w wr

set_option maxRecDepth 100000 in
set_option maxHeartbeats 2000000 in
theorem r_crun {w : World} {l : Int} {zs : List Nd} {v : Value} (k : Int) (hr : RdN w v zs) (hl : zs.length ≤ 2000) (hroll : Roll l zs) (bk : In64 k) :
    Calls Tryz.prog 79 #[.agg #[.int .i64 l, v], .int .i64 k] w (RRunPost l (runR l (capV (sumL zs) k) zs) v w) := by
  obtain ⟨p, cap, rfl⟩ := hr.val
  have X := (Blk.new w #[.int .i64 l, .slice p zs.length cap] 35).alloc (.cells #[.int .i64 0, .slice none 0 0] 35)
  have Z := Blk.new (w.alloc (.cells #[.int .i64 l, .slice p zs.length cap] 35)) #[.int .i64 0, .slice none 0 0] 35
  rw [World.size_alloc] at Z
  have hb0 : Below w.heap.size w ((w.alloc (.cells #[.int .i64 l, .slice p zs.length cap] 35)).alloc (.cells #[.int .i64 0, .slice none 0 0] 35)) := ((Below.refl _ _).alloc (Nat.le_refl _) _).alloc (by simp) _
  have hr0 := hr.below hb0 (Nat.le_refl _)
  have o1 : NotIn (.slice p zs.length cap) zs w.heap.size := NotIn.of_lt hr (Nat.le_refl _)
  have o2 : NotIn (.slice p zs.length cap) zs (w.heap.size + 1) := NotIn.of_lt hr (by omega)
  obtain ⟨most, em⟩ : ∃ m, capV (sumL zs) k = m := ⟨_, rfl⟩
  obtain ⟨s, es⟩ : ∃ s, sumL zs = s := ⟨_, rfl⟩
  rw [em]
  rw [es] at em
  have EM := hid em
  have R0 : Hid (RRunRel l most s zs (.slice p zs.length cap) w (.slice none 0 0) (phi zs).toNat ((w.alloc (.cells #[.int .i64 l, .slice p zs.length cap] 35)).alloc (.cells #[.int .i64 0, .slice none 0 0] 35))) :=
    ⟨zs, [], _, hroll, es, Nat.le_refl _, by show _ = _; simp, Nat.le_refl _, by simp, X, Z, hr0, o1, o2, .inl rfl, (fun j hj => by cases hj), OwnI.nil _ _, hb0⟩
  have hph := phi_le hroll
  have hph0 := phi_nonneg zs
  have hl48 := hroll.l2
  have hphb : phi zs ≤ 96000 := by
    have : l * (zs.length : Int) ≤ 48 * (zs.length : Int) := Int.mul_le_mul_of_nonneg_right hl48 (by omega)
    omega
  have hn0 : (phi zs).toNat ≤ 96000 := by omega
  generalize hN : (phi zs).toNat = n0 at *
  clear hN X Z hb0 hr0 o1 o2 em es hph hroll hr
  go_enter Tryz.func79, Tryz.ntmps79
  go_wp2_with fail
  generalize ((w.alloc (.cells #[.int .i64 l, .slice p zs.length cap] 35)).alloc (.cells #[.int .i64 0, .slice none 0 0] 35)) = w1 at *
  go_loopg [6] n0 (fun n out wr => n ≤ n0 ∧ RRunRel l most s zs (.slice p zs.length cap) w out n wr)
  case atStart => exact ⟨Nat.le_refl _, R0.out⟩
  case round =>
    obtain ⟨hgk, zs1, done, v1, hroll1, hs1, hlen1, hrun, hphn, hdl, X1, Z1, hr1, o1, o2, fv1, o3, own1, hbw⟩ := hrel
    have ro := hid hroll1
    have hp0 := phi_nonneg zs1
    obtain ⟨p1, c1, rfl⟩ := hr1.val
    obtain ⟨po, co, rfl⟩ := own1.val
    have C0 := fun W (q : RdN W (.slice p1 zs1.length c1) zs1) => r_ccap k q (by omega) hroll1 bk
    simp only [hs1.out, EM.out] at C0
    have C := hid C0
    have F0 := fun W (q : RdN W (.slice p1 zs1.length c1) zs1) => r_first most W q (by omega) hroll1
    have x0 : World.cell? _ ⟨w.heap.size, 0, none⟩ = some (.int .i64 l) := X1.cell 0
    have x1 : World.cell? _ ⟨w.heap.size, 1, none⟩ = some (.slice p1 zs1.length c1) := X1.cell 1
    have hB0 := Below.refl wr.heap.size wr
    have hXl := X1.lt
    have hZl := Z1.lt
    clear C0
    cases hf : firstR l zs1 most with
    | none =>
      simp only [hf, firstE, Option.getD_none, Option.isSome_none] at F0
      have F := hid F0
      have HR : Hid (runR l most zs = (zs1, done)) := by
        show _ = _
        rw [hrun.out, runR_none hf]; simp
      clear F0 hf hrun hroll1 hs1
      go_wp2_with fail
      go_region_held3 (fun w' => w'.cell? ⟨w.heap.size, 0, none⟩ = some (.int .i64 l) ∧ w'.cell? ⟨w.heap.size, 1, none⟩ = some (.slice p1 zs1.length c1) ∧ Below wr.heap.size wr w')
        (first
          | exact ⟨x0, x1, below_drewN hB0 1⟩
          | exact ⟨(X1.below' hB6 hXl).cell 0, (X1.below' hB6 hXl).cell 1, hB6⟩
          | exact ⟨(X1.below' hB5 hXl).cell 0, (X1.below' hB5 hXl).cell 1, hB5⟩)
        (first
          | (go_at_call 138; have hB4 := (‹_ ∧ _ ∧ Below wr.heap.size wr _›).2.2; refine (C.out _ (hr1.below hB4 (Nat.le_refl _))).mono ?_; rintro e w5 ⟨rfl, hb5⟩
             have hB5 := hB4.trans (hb5.mono hB4.size))
          | (go_at_call 137; have hB4 := (‹_ ∧ _ ∧ Below wr.heap.size wr _›).2.2; refine (F.out _ (hr1.below hB4 (Nat.le_refl _))).mono ?_; rintro e w6 ⟨rfl, hb6⟩
             have hB6 := hB4.trans (hb6.mono hB4.size)))
      have X6 := X1.below hB6 (Nat.le_refl _)
      have Z6 := Z1.below hB6 (Nat.le_refl _)
      have hr6 := hr1.below hB6 (Nat.le_refl _)
      have own6 := own1.below hB6 (Nat.le_refl _)
      have x60 : w6.cell? ⟨w.heap.size, 0, none⟩ = some (.int .i64 l) := X6.cell 0
      have x61 : w6.cell? ⟨w.heap.size, 1, none⟩ = some (.slice p1 zs1.length c1) := X6.cell 1
      have f0 := Z6.free 0
      have f1 := Z6.free 1
      have z60 : w6.cell? ⟨w.heap.size + 1, 0, none⟩ = some (.int .i64 0) := Z6.cell 0
      have z61 : w6.cell? ⟨w.heap.size + 1, 1, none⟩ = some (.slice none 0 0) := Z6.cell 1
      have hs6 := hB6.size
      have hsw := hbw.size
      go_wp2_with fail
      have Z8 := (Z6.set 0 (.int .i64 l)).set 1 (.slice p1 zs1.length c1)
      have z80 : World.cell? _ ⟨w.heap.size + 1, 0, none⟩ = some (.int .i64 l) := Z8.cell 0
      have z81 : World.cell? _ ⟨w.heap.size + 1, 1, none⟩ = some (.slice p1 zs1.length c1) := Z8.cell 1
      refine bodyPost_ret (v := .tuple #[.agg #[.int .i64 l, .slice p1 zs1.length c1], .slice po done.length co]) (by simp [results, Tryz.results79, go_sem, z80, z81]) rfl ⟨_, _, rfl, ?_, ?_, ?_, ?_⟩
      · rw [HR.out]
        exact (hr6.set_off o2 _ _).set_off o2 _ _
      · exact fv1
      · rw [HR.out]
        refine ⟨(own6.keep (fun j hj => ?_)).rd, fun j hj => by have := own6.lt j hj; omega⟩
        have := own6.lt j hj
        exact (Below.heap_setCell _ ⟨w.heap.size + 1, 1, none⟩ _ j (by show j ≠ w.heap.size + 1; omega)).trans (Below.heap_setCell _ ⟨w.heap.size + 1, 0, none⟩ _ j (by show j ≠ w.heap.size + 1; omega))
      · exact ((hbw.trans (hB6.mono hsw)).setCell (p := ⟨w.heap.size + 1, 0, none⟩) (by show w.heap.size ≤ w.heap.size + 1; omega) _).setCell (p := ⟨w.heap.size + 1, 1, none⟩) (by show w.heap.size ≤ w.heap.size + 1; omega) _
    | some pp =>
      simp only [hf, firstE, Option.getD_some, Option.isSome_some] at F0
      have F := hid F0
      have hrd := (first_some hf).2
      have bp := kids_bound (ready_kids hrd)
      have fp := first_phi hroll1 hf
      have fph := phi_fold hroll1 hrd
      have ff := fold_facts hroll1 pp
      have HR : Hid (runR l most zs = ((runR l most (foldDo l zs1 pp).1).1, (done ++ [pp]) ++ (runR l most (foldDo l zs1 pp).1).2)) := by
        show _ = _
        rw [hrun.out, runR_some hroll1 hf]; simp
      have HS : Hid (sumL (foldDo l zs1 pp).1 = s) := ff.2.1.trans hs1.out
      have hp20 := phi_nonneg (foldDo l zs1 pp).1
      have hlen2 := ff.2.2.1
      have Dd := hid (fun W (x : RdB W 0 (.slice p1 zs1.length c1) zs1) => r_fdo pp W x (Nat.zero_le _) (by omega) hroll1 ⟨by omega, by omega⟩)
      obtain ⟨hr2, hpl⟩ := fp
      clear F0 hf hrun hroll1 hs1 ff hrd
      generalize foldDo l zs1 pp = FD at *
      obtain ⟨zs2, n2⟩ := FD
      simp only at HR HS hp20 hlen2 hr2 hpl fph
      go_wp2_with fail
      go_region_held3 (fun w' => w'.cell? ⟨w.heap.size, 0, none⟩ = some (.int .i64 l) ∧ w'.cell? ⟨w.heap.size, 1, none⟩ = some (.slice p1 zs1.length c1) ∧ Below wr.heap.size wr w')
        (first
          | exact ⟨x0, x1, below_drewN hB0 1⟩
          | exact ⟨(X1.below' hB6 hXl).cell 0, (X1.below' hB6 hXl).cell 1, hB6⟩
          | exact ⟨(X1.below' hB5 hXl).cell 0, (X1.below' hB5 hXl).cell 1, hB5⟩)
        (first
          | (go_at_call 138; have hB4 := (‹_ ∧ _ ∧ Below wr.heap.size wr _›).2.2; refine (C.out _ (hr1.below hB4 (Nat.le_refl _))).mono ?_; rintro e w5 ⟨rfl, hb5⟩
             have hB5 := hB4.trans (hb5.mono hB4.size))
          | (go_at_call 137; have hB4 := (‹_ ∧ _ ∧ Below wr.heap.size wr _›).2.2; refine (F.out _ (hr1.below hB4 (Nat.le_refl _))).mono ?_; rintro e w6 ⟨rfl, hb6⟩
             have hB6 := hB4.trans (hb6.mono hB4.size)))
      have X6 := X1.below hB6 (Nat.le_refl _)
      have Z6 := Z1.below hB6 (Nat.le_refl _)
      have hr6 := hr1.below hB6 (Nat.le_refl _)
      have own6 := own1.below hB6 (Nat.le_refl _)
      have x60 : w6.cell? ⟨w.heap.size, 0, none⟩ = some (.int .i64 l) := X6.cell 0
      have x61 : w6.cell? ⟨w.heap.size, 1, none⟩ = some (.slice p1 zs1.length c1) := X6.cell 1
      have hs6 := hB6.size
      have hsw := hbw.size
      have hbw6 := hbw.trans (hB6.mono hsw)
      clear X1 Z1 hr1 own1 x0 x1 C F
      go_wp2_with fail
      refine (Dd.out w6 ⟨hr6, fun _ _ => Nat.zero_le _⟩).mono ?_
      rintro e w7 ⟨v7, rfl, hr7, fv7, hb7⟩
      obtain ⟨p7, c7, rfl⟩ := hr7.1.val
      have X7 := X6.below hb7 (Nat.le_refl _)
      have Z7 := Z6.below hb7 (Nat.le_refl _)
      have own7 := own6.below hb7 (Nat.le_refl _)
      have hs7 := hb7.size
      have hbw7 := hbw6.trans (hb7.mono (by omega))
      have f70 := X7.free 0
      have f71 := X7.free 1
      have x70 : w7.cell? ⟨w.heap.size, 0, none⟩ = some (.int .i64 l) := X7.cell 0
      have x71 : w7.cell? ⟨w.heap.size, 1, none⟩ = some (.slice p1 zs1.length c1) := X7.cell 1
      have o17 := o1.next hr6 hr7.1 fv7 (by omega)
      have o27 := o2.next hr6 hr7.1 fv7 (by omega)
      have fvn := FrV.trans fv1 fv7 (by omega)
      have O37 := hid (fun j (hj : (Value.slice po done.length co).ownBlock = some j) => (o3 j hj).next hr6 hr7.1 fv7 (own6.lt' j hj))
      have hdl1 : done.length < 2097152 := by omega
      have X8 := (X7.set 0 (.int .i64 l)).set 1 (.slice p7 zs2.length c7)
      have Z8 := (Z7.set_other 0 (.int .i64 l) (show w.heap.size + 1 ≠ w.heap.size by omega)).set_other 1 (.slice p7 zs2.length c7) (show w.heap.size + 1 ≠ w.heap.size by omega)
      have hr8 := (hr7.1.set_off o17 0 (.int .i64 l)).set_off o17 1 (.slice p7 zs2.length c7)
      have own8 : OwnI ((w7.setCell ⟨w.heap.size, 0, none⟩ (.int .i64 l)).setCell ⟨w.heap.size, 1, none⟩ (.slice p7 zs2.length c7)) (w.heap.size + 2) (.slice po done.length co) done := own7.keep (fun j hj => by
        have := own7.lt j hj
        exact (Below.heap_setCell _ ⟨w.heap.size, 1, none⟩ _ j (by show j ≠ w.heap.size; omega)).trans (Below.heap_setCell _ ⟨w.heap.size, 0, none⟩ _ j (by show j ≠ w.heap.size; omega)))
      have hbw8 := (hbw7.setCell (p := ⟨w.heap.size, 0, none⟩) (Nat.le_refl _) (.int .i64 l)).setCell (p := ⟨w.heap.size, 1, none⟩) (Nat.le_refl _) (.slice p7 zs2.length c7)
      have hs8 : ((w7.setCell ⟨w.heap.size, 0, none⟩ (.int .i64 l)).setCell ⟨w.heap.size, 1, none⟩ (.slice p7 zs2.length c7)).heap.size = w7.heap.size := by simp
      have HS8 := hid hs8
      have hBr8 : w.heap.size + 2 ≤ ((w7.setCell ⟨w.heap.size, 0, none⟩ (.int .i64 l)).setCell ⟨w.heap.size, 1, none⟩ (.slice p7 zs2.length c7)).heap.size := by rw [hs8]; omega
      clear x60 x61 X6 Z6 hr6 own6 hb7 fv7 X7 Z7 own7 hr7 hs8 hbw7 o1 o2 fv1 Dd
      go_wp2_with (first
        | (at_builtin; refine appendI _ _ own8 hdl1 hBr8 rfl rfl rfl rfl (by rw [HS8.out]; rfl) ?_; intro g9 cap9 w9 own9 hg9 hat9 hlt9))
      have hne9 : ∀ j, (Value.slice po done.length co).ownBlock = some j → w.heap.size + 2 ≤ j := fun j hj => own8.lt j hj
      have bw9 : Below (w.heap.size + 2) ((w7.setCell ⟨w.heap.size, 0, none⟩ (.int .i64 l)).setCell ⟨w.heap.size, 1, none⟩ (.slice p7 zs2.length c7)) w9 := below_grown hg9 (by have := HS8.out; omega) (fun j hj => hne9 j hj)
      have hr9 : RdN w9 (.slice p7 zs2.length c7) zs2 := by
        by_cases e : zs2 = []
        · subst e; exact hr8.any
        · refine hr8.grown hg9 (fun j hj e2 => ?_)
          rcases O37.out j e2.symm with h | h
          · exact e h
          · exact h j hj rfl
      have O39 : ∀ j, (Value.slice (some ⟨g9, 0, none⟩) (done.length + 1) cap9).ownBlock = some j → NotIn (.slice p7 zs2.length c7) zs2 j := fun j hj => by
        simp only [Value.ownBlock, Option.some.injEq] at hj
        subst hj
        rcases hat9 with h | h
        · exact O37.out _ h
        · exact NotIn.of_lt hr8 (by omega)
      go_roundg (phi zs2).toNat
      case rel => exact ⟨by omega, zs2, done ++ [pp], .slice p7 zs2.length c7, hr2, HS, by omega, HR, Nat.le_refl _, by simp; omega, X8.below' bw9 (by omega), Z8.below' bw9 (by omega), hr9, o17, o27, fvn, O39, by simpa using own9, hbw8.trans (bw9.mono (by omega))⟩
      case measure => omega
end Go.Proofs.YtbbkfjbaocpknaaGreat
