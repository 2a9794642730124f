/- The walk of the reference's table: Take. -/
import Derived.Test.YtbbkfjbaocpknaaHt3
namespace Go.Proofs.Ytbbkfjbaocpknaa
open Go.RowKit Nl

def IsTabR (l : Int) (b : Nat) (xs : List Nd) (w : World) (e : Ending) (w' : World) : Prop := ∃ v, e = .returned (.agg #[.int .i64 l, .int .i64 b, v]) ∧ RdN w' v xs ∧ (∀ k, v.ownBlock = some k → w.heap.size ≤ k) ∧ Below w.heap.size w w'
def HPost (l : Int) (b : Nat) (xs : List Nd) (n : Int) (v0 : Value) (w : World) (e : Ending) (w' : World) : Prop :=
  ∃ v, e = .returned (.tuple #[.agg #[.int .i64 l, .int .i64 b, v], .int .i64 n]) ∧ RdN w' v xs ∧ (v = v0 ∨ ∀ k, v.ownBlock = some k → w.heap.size ≤ k) ∧ Below w.heap.size w w'
def HTakeRel (w2 : World) (g3 cap3 B : Nat) (b N e : Nat) (R : List Nd) (hole i : Value) (wr : World) : Prop :=
  ∃ (f m p q : Nat) (ys : List Nd), hole = .int .i64 p ∧ i = .int .i64 q ∧ Hid (takeF b f ys p q = R) ∧ TabH b ys p m ∧ q = (p + m) % N ∧ cntA ys e ≤ 0 ∧ e ≠ p ∧ way N q e < f ∧ Hid (ys.length = N) ∧ (∀ j, idA ys j ≤ 9223372036854775807) ∧ OwnN wr B (.slice (some ⟨g3, 0, none⟩) N cap3) ys ∧ Below B w2 wr
set_option maxRecDepth 100000 in
set_option maxHeartbeats 4000000 in
theorem h_take {w : World} {l : Int} {b : Nat} {v : Value} {xs : List Nd} (id : Int) (hr : RdN w v xs) (V : Pv l b xs) (hb1 : 1 ≤ b) (hb : b ≤ 40) (bi : In64 id) (hcl : xs.length < 1000000) :
    Calls Try.prog 25 #[.agg #[.int .i64 l, .int .i64 b, v], .int .i64 id] w (HPost l b (pTake l b xs id) (pGet l b xs id) v w) := by
  obtain ⟨p0, cap, rfl⟩ := hr.val
  have hba : Below w.heap.size w ((w.alloc (.cells #[.int .i64 l, .int .i64 b, .slice p0 xs.length cap] 31)).alloc (.cells #[.int .i64 0, .int .i64 0, .slice none 0 0] 31)) := ((Below.refl _ _).alloc (Nat.le_refl _) _).alloc (by simp) _
  have X1 := (Blk.new w #[.int .i64 l, .int .i64 b, .slice p0 xs.length cap] 31).alloc (.cells #[.int .i64 0, .int .i64 0, .slice none 0 0] 31)
  have Z1 := Blk.new (w.alloc (.cells #[.int .i64 l, .int .i64 b, .slice p0 xs.length cap] 31)) #[.int .i64 0, .int .i64 0, .slice none 0 0] 31
  rw [World.size_alloc] at Z1
  have r1 := hr.below hba (Nat.le_refl _)
  have hl1 := V.l1
  have hl2 := V.l2
  have RT := hid (fun W => r_right l id W (by omega) (by omega) bi.1 bi.2)
  -- nothing is taken: the table as it is
  have RET : Hid (∀ (W : World) (ys : List Nd), ys = xs → Blk W (w.heap.size + 1) #[.int .i64 l, .int .i64 b, .slice p0 xs.length cap] 31 → Below w.heap.size w W → RdN W (.slice p0 xs.length cap) ys) := fun W ys e _ hW => by rw [e]; exact hr.below hW (Nat.le_refl _)
  cases er : rightB l id
  · have eg : pGet l b xs id = 0 := by unfold pGet; rw [er]; rfl
    have e2 : pTake l b xs id = xs := by unfold pTake; rw [if_pos eg]
    rw [er] at RT
    rw [eg, e2]
    clear eg e2 er V
    go_enter Try.func25, Try.ntmps25
    go_wp2_with fail
    generalize ((w.alloc (.cells #[.int .i64 l, .int .i64 b, .slice p0 xs.length cap] 31)).alloc (.cells #[.int .i64 0, .int .i64 0, .slice none 0 0] 31)) = w1 at *
    refine (RT.out _).mono ?_
    rintro e w' ⟨rfl, rfl⟩
    have x0 : w1.cell? ⟨w.heap.size, 0, none⟩ = some (.int .i64 l) := X1.cell 0
    have x1 : w1.cell? ⟨w.heap.size, 1, none⟩ = some (.int .i64 b) := X1.cell 1
    have x2 : w1.cell? ⟨w.heap.size, 2, none⟩ = some (.slice p0 xs.length cap) := X1.cell 2
    have z0 : w1.cell? ⟨w.heap.size + 1, 0, none⟩ = some (.int .i64 0) := Z1.cell 0
    have z1 : w1.cell? ⟨w.heap.size + 1, 1, none⟩ = some (.int .i64 0) := Z1.cell 1
    have z2 : w1.cell? ⟨w.heap.size + 1, 2, none⟩ = some (.slice none 0 0) := Z1.cell 2
    have g0 := Z1.free 0
    have g1 := Z1.free 1
    have g2 := Z1.free 2
    have V2 := ((Z1.set 0 (.int .i64 l)).set 1 (.int .i64 b)).set 2 (.slice p0 xs.length cap)
    have q0 : World.cell? _ ⟨w.heap.size + 1, 0, none⟩ = some (.int .i64 l) := V2.cell 0
    have q1 : World.cell? _ ⟨w.heap.size + 1, 1, none⟩ = some (.int .i64 b) := V2.cell 1
    have q2 : World.cell? _ ⟨w.heap.size + 1, 2, none⟩ = some (.slice p0 xs.length cap) := V2.cell 2
    have hbz := ((hba.setCell (p := ⟨w.heap.size + 1, 0, none⟩) (by show w.heap.size ≤ w.heap.size + 1; omega) (.int .i64 l)).setCell (p := ⟨w.heap.size + 1, 1, none⟩) (by show w.heap.size ≤ w.heap.size + 1; omega) (.int .i64 b)).setCell (p := ⟨w.heap.size + 1, 2, none⟩) (by show w.heap.size ≤ w.heap.size + 1; omega) (.slice p0 xs.length cap)
    have rz := RET.out _ xs rfl V2 hbz
    go_wp2_with fail
    exact bodyPost_ret (v := .tuple #[.agg #[.int .i64 l, .int .i64 b, .slice p0 xs.length cap], .int .i64 0]) (by simp [results, Try.results25, go_sem, q0, q1, q2]) rfl ⟨_, rfl, rz, .inl rfl, hbz⟩
  · have eg : pGet l b xs id = cntA xs (lookI xs b id) := by unfold pGet; rw [er]; rfl
    have hi1 := right_pos er
    have h0 := V.tab.pos_len
    have hh := V.half
    obtain ⟨em, he, hce⟩ := has_empty (show occ xs < xs.length by omega)
    have hs := stopB_iff (xs := xs) (id := id) (i := em) |>.2 (.inl hce)
    have F := hid (fun W (y : RdN W (.slice p0 xs.length cap) xs) => h_find (l := l) id y V.tab hb1 hb he hs ⟨hi1, bi.2⟩)
    have hi := (look_spec V.tab id he hs).2.2.1
    have hcp := V.tab.pos (lookI xs b id)
    have hT : Hid (takeP b xs id = takeF b xs.length (xs.set (lookI xs b id) (0, 0)) (lookI xs b id) ((lookI xs b id + 1) % xs.length)) := rfl
    rw [er] at RT
    rw [eg]
    by_cases h1 : cntA xs (lookI xs b id) = 0
    · have e2 : pTake l b xs id = xs := by unfold pTake; rw [if_pos (eg.trans h1)]
      have H1 := hid h1
      rw [e2, h1]
      obtain ⟨gs, off, y, x, hp, ex, hgs, -, -⟩ := r1.at hi
      have hx : cntA xs (lookI xs b id) = x := by unfold cntA; rw [ex]
      have hx0 : x = 0 := by rw [← hx]; exact h1
      generalize lookI xs b id = q at *
      generalize lookD xs b id = dd at *
      clear e2 eg er V hs he hce hT h1 hx
      subst hx0
      subst hp
      go_enter Try.func25, Try.ntmps25
      go_wp2_with fail
      generalize ((w.alloc (.cells #[.int .i64 l, .int .i64 b, .slice (some ⟨gs, off, none⟩) xs.length cap] 31)).alloc (.cells #[.int .i64 0, .int .i64 0, .slice none 0 0] 31)) = w1 at *
      refine (RT.out _).mono ?_
      rintro e w' ⟨rfl, rfl⟩
      have x0 : w1.cell? ⟨w.heap.size, 0, none⟩ = some (.int .i64 l) := X1.cell 0
      have x1 : w1.cell? ⟨w.heap.size, 1, none⟩ = some (.int .i64 b) := X1.cell 1
      have x2 : w1.cell? ⟨w.heap.size, 2, none⟩ = some (.slice (some ⟨gs, off, none⟩) xs.length cap) := X1.cell 2
      go_wp2_with fail
      refine (F.out _ r1).mono ?_
      rintro e w2 ⟨rfl, hb2⟩
      have X2 := X1.below hb2 (Nat.le_refl _)
      have Z2 := Z1.below hb2 (Nat.le_refl _)
      have hbw := hba.trans (hb2.mono hba.size)
      obtain ⟨gs', off', y', x', hp', ex', hgs', k1, k2⟩ := (r1.below hb2 (Nat.le_refl _)).at hi
      simp only [Option.some.injEq, Addr.mk.injEq, and_true] at hp'
      obtain ⟨rfl, rfl⟩ := hp'
      rw [ex] at ex'
      simp only [Prod.mk.injEq] at ex'
      obtain ⟨rfl, rfl⟩ := ex'
      clear x0 x1 x2 X1 Z1 r1 F RT hba hb2 ex
      have x0 : w2.cell? ⟨w.heap.size, 0, none⟩ = some (.int .i64 l) := X2.cell 0
      have x1 : w2.cell? ⟨w.heap.size, 1, none⟩ = some (.int .i64 b) := X2.cell 1
      have x2 : w2.cell? ⟨w.heap.size, 2, none⟩ = some (.slice (some ⟨gs, off, none⟩) xs.length cap) := X2.cell 2
      have z0 : w2.cell? ⟨w.heap.size + 1, 0, none⟩ = some (.int .i64 0) := Z2.cell 0
      have z1 : w2.cell? ⟨w.heap.size + 1, 1, none⟩ = some (.int .i64 0) := Z2.cell 1
      have z2 : w2.cell? ⟨w.heap.size + 1, 2, none⟩ = some (.slice none 0 0) := Z2.cell 2
      have g0 := Z2.free 0
      have g1 := Z2.free 1
      have g2 := Z2.free 2
      have V2 := ((Z2.set 0 (.int .i64 l)).set 1 (.int .i64 b)).set 2 (.slice (some ⟨gs, off, none⟩) xs.length cap)
      have q0 : World.cell? _ ⟨w.heap.size + 1, 0, none⟩ = some (.int .i64 l) := V2.cell 0
      have q1 : World.cell? _ ⟨w.heap.size + 1, 1, none⟩ = some (.int .i64 b) := V2.cell 1
      have q2 : World.cell? _ ⟨w.heap.size + 1, 2, none⟩ = some (.slice (some ⟨gs, off, none⟩) xs.length cap) := V2.cell 2
      have hbz := ((hbw.setCell (p := ⟨w.heap.size + 1, 0, none⟩) (by show w.heap.size ≤ w.heap.size + 1; omega) (.int .i64 l)).setCell (p := ⟨w.heap.size + 1, 1, none⟩) (by show w.heap.size ≤ w.heap.size + 1; omega) (.int .i64 b)).setCell (p := ⟨w.heap.size + 1, 2, none⟩) (by show w.heap.size ≤ w.heap.size + 1; omega) (.slice (some ⟨gs, off, none⟩) xs.length cap)
      have rz := RET.out _ xs rfl V2 hbz
      have hlq : (q : Int) < (xs.length : Int) := by omega
      as_aux_lemma =>
        go_wp2_with fail
        exact bodyPost_ret (v := .tuple #[.agg #[.int .i64 l, .int .i64 b, .slice (some ⟨gs, off, none⟩) xs.length cap], .int .i64 0]) (by simp [results, Try.results25, go_sem, q0, q1, q2]) rfl ⟨_, rfl, rz, .inl rfl, hbz⟩
    · have e2 : pTake l b xs id = takeP b xs id := by unfold pTake; rw [if_neg (fun h => h1 (eg.symm.trans h))]
      have hne : em ≠ lookI xs b id := fun q => by have := V.tab.pos em; rw [← q] at h1; omega
      have t0 := TabH.start V.tab hi
      have hc0 : (cntA xs (lookI xs b id) == 0) = false := by simpa using h1
      have hcE : cntA (xs.set (lookI xs b id) (0, 0)) em ≤ 0 := by rw [cntA_set xs _ em _ hi, if_neg (Ne.symm hne)]; exact hce
      have hwy := way_lt ((lookI xs b id + 1) % xs.length) em h0
      have hmx : ∀ j, idA (xs.set (lookI xs b id) (0, 0)) j ≤ 9223372036854775807 := fun j => by
        rw [idA_set xs _ j _ hi]; split
        · decide
        · exact V.idmax j
      have hll : (xs.set (lookI xs b id) ((0 : Int), (0 : Int))).length = xs.length := by simp
      obtain ⟨gs, off, y0, x0', hp, ex, hgs, -, -⟩ := r1.at hi
      have hx : cntA xs (lookI xs b id) = x0' := by unfold cntA; rw [ex]
      rw [hx] at hc0 ⊢
      rw [e2]
      obtain ⟨R, eR⟩ : ∃ R, takeP b xs id = R := ⟨_, rfl⟩
      rw [eR] at hT ⊢
      have Hll := hid hll
      have Hmx := hid hmx
      have Hx := hid hx
      subst hp
      generalize ei : lookI xs b id = i at *
      generalize lookD xs b id = dd at *
      have hlN : xs.length ≤ 1099511627776 := by omega
      have HM0 : Hid (((i : Int) + 1) % (xs.length : Int) = (((i + 1) % xs.length : Nat) : Int)) := by show _ = _; simp
      clear er eg e2 hs hll hmx eR ei hce h1 V hx
      go_enter Try.func25, Try.ntmps25
      go_wp2_with fail
      generalize ((w.alloc (.cells #[.int .i64 l, .int .i64 b, .slice (some ⟨gs, off, none⟩) xs.length cap] 31)).alloc (.cells #[.int .i64 0, .int .i64 0, .slice none 0 0] 31)) = w1 at *
      refine (RT.out _).mono ?_
      rintro e w' ⟨rfl, rfl⟩
      have x0 : w1.cell? ⟨w.heap.size, 0, none⟩ = some (.int .i64 l) := X1.cell 0
      have x1 : w1.cell? ⟨w.heap.size, 1, none⟩ = some (.int .i64 b) := X1.cell 1
      have x2 : w1.cell? ⟨w.heap.size, 2, none⟩ = some (.slice (some ⟨gs, off, none⟩) xs.length cap) := X1.cell 2
      go_wp2_with fail
      refine (F.out _ r1).mono ?_
      rintro e w2 ⟨rfl, hb2⟩
      have X2 := X1.below hb2 (Nat.le_refl _)
      have Z2 := Z1.below hb2 (Nat.le_refl _)
      have hbw := hba.trans (hb2.mono hba.size)
      have r2 := r1.below hb2 (Nat.le_refl _)
      obtain ⟨gs', off', y', x', hp', ex', hgs', k1, k2⟩ := r2.at hi
      simp only [Option.some.injEq, Addr.mk.injEq, and_true] at hp'
      obtain ⟨rfl, rfl⟩ := hp'
      rw [ex] at ex'
      simp only [Prod.mk.injEq] at ex'
      obtain ⟨rfl, rfl⟩ := ex'
      have hz2 := Z2.lt
      clear x0 x1 x2 X1 Z1 r1 F RT hba hb2 ex
      have x0 : w2.cell? ⟨w.heap.size, 0, none⟩ = some (.int .i64 l) := X2.cell 0
      have x1 : w2.cell? ⟨w.heap.size, 1, none⟩ = some (.int .i64 b) := X2.cell 1
      have x2 : w2.cell? ⟨w.heap.size, 2, none⟩ = some (.slice (some ⟨gs, off, none⟩) xs.length cap) := X2.cell 2
      have hlq : (i : Int) < (xs.length : Int) := by omega
      as_aux_lemma =>
        go_upto_region 8 with fail
        go_upto_region 9 with (at_builtin; refine appendsN (B := w2.heap.size) (xs := []) _ _ (OwnN.nil _ _) r2 (by simp; omega) (Nat.le_refl _) rfl rfl rfl rfl ?_; intro v3 w3 ho3 hg3)
        have hb3 : Below w2.heap.size w2 w3 := (Below.refl w2.heap.size w2).grown hg3 (Nat.le_refl _) (OwnN.nil w2 w2.heap.size).lt
        rw [List.nil_append] at ho3
        rcases ho3.shape with ⟨-, hz⟩ | ⟨g3, cap3, rfl, hg3B, hg3l, hcap3, -⟩
        · exfalso; rw [hz] at h0; simp at h0
        have fa := World.ownsRow.frozenAt ho3 (i * 2)
        have fb := World.ownsRow.frozenAt ho3 (i * 2 + 1)
        obtain ⟨c0, c1⟩ := ho3.cells hi
        have o4 := (ho3.storeJ i 0).storeK i hi 0
        have hb4 := (hb3.setCell (p := ⟨g3, i * 2, none⟩) hg3B (.int .i64 0)).setCell (p := ⟨g3, i * 2 + 1, none⟩) hg3B (.int .i64 0)
        clear ho3 hg3 hb3 k1 k2
        as_aux_lemma =>
          go_upto_region 10 with fail
          generalize (w3.setCell ⟨g3, i * 2, none⟩ (.int .i64 0)).setCell ⟨g3, i * 2 + 1, none⟩ (.int .i64 0) = w4 at *
          have HM0' := HM0.out
          clear x0 x1 x2 fa fb c0 c1 hg3l
          go_wp2_with fail
          go_loopw [6, 10] (fun hole i wr => HTakeRel w2 g3 cap3 w2.heap.size b xs.length em R hole i wr) (fun _ i _ => way xs.length (intOf i).toNat em)
          case atStart => exact ⟨xs.length, 1, i, (i + 1) % xs.length, _, rfl, by first | rfl | rw [HM0.out], hT.out.symm, t0, rfl, hcE, hne, hwy, Hll.out, Hmx.out, o4, hb4⟩
          case round =>
            obtain ⟨f, m, p, q, ys, rfl, rfl, hR, hH, hqe, hce, hnp, hwy', hL, hM, oy, hbl⟩ := hrel
            obtain ⟨f, rfl⟩ : ∃ f', f = f' + 1 := ⟨f - 1, by omega⟩
            have hwr := hbl.size
            have hql : q < ys.length := by rw [hL.out, hqe]; exact Nat.mod_lt _ h0
            have hpl := hH.hl
            have hR2 : Hid ((if cntA ys q ≤ 0 then ys else if way ys.length (homeA b (idA ys q)) p ≤ way ys.length (homeA b (idA ys q)) q then takeF b f ((ys.set p (idA ys q, cntA ys q)).set q (0, 0)) q ((q + 1) % ys.length) else takeF b f ys p ((q + 1) % ys.length)) = R) := hR.out
            obtain ⟨k0, k1⟩ := oy.cells hql
            have hcq := hH.pos q
            have hkq := hH.one q
            have hmq := hM q
            have Hqe := hid hqe
            have Hce := hid hce
            have HL2 := hid hL.out
            have Hnp := hid hnp
            have HM := hid hM
            have Xr := X2.below hbl (Nat.le_refl _)
            have Zr := Z2.below hbl (Nat.le_refl _)
            have HM1 : Hid (((q : Int) + 1) % (xs.length : Int) = (((q + 1) % xs.length : Nat) : Int)) := by show _ = _; simp
            have hqx : (q : Int) < (xs.length : Int) := by rw [← hL.out]; omega
            have hpx : (p : Int) < (xs.length : Int) := by rw [← hL.out]; omega
            have FR : Hid (∀ k, wr.frozen? ⟨g3, k, none⟩ = false) := fun k => World.ownsRow.frozenAt (show OwnN wr w2.heap.size (.slice (some ⟨g3, 0, none⟩) ys.length cap3) ys by rw [hL.out]; exact oy) k
            have KP := hid (oy.cells hpl)
            clear hR hce hM hqe hnp
            have HV := hid (fun (k : 1 ≤ idA ys q) => homeV_nat (b := b) hb1 (by omega) k)
            have hhl := hH.home (idA ys q)
            have eqq : q = (p + m) % ys.length := by rw [HL2.out]; exact Hqe.out
            have Mv := hid (fun h2 h3 => hH.move (i := q) eqq h2 h3)
            have Sk : Hid (0 < cntA ys q → ¬ way ys.length (homeA b (idA ys q)) p ≤ way ys.length (homeA b (idA ys q)) q → TabH b ys p (m + 1)) := by
              rw [eqq]; exact fun h1 h2 => hH.skip h1 h2
            have hpq : Hid (0 < cntA ys q → p ≠ q) := fun h1 e => by have := hH.he; rw [e] at this; omega
            have hpX : p < xs.length := by rw [← hL.out]; exact hpl
            have hqX : q < xs.length := by rw [← hL.out]; exact hql
            have hhX : homeA b (idA ys q) < xs.length := by rw [← hL.out]; exact hhl
            clear eqq
            generalize eyy : idA ys q = y at *
            generalize exx : cntA ys q = z at *
            have Eyy := hid eyy
            have Exx := hid exx
            clear eyy exx
            have x0 : wr.cell? ⟨w.heap.size, 0, none⟩ = some (.int .i64 l) := Xr.cell 0
            have x1 : wr.cell? ⟨w.heap.size, 1, none⟩ = some (.int .i64 b) := Xr.cell 1
            have x2 : wr.cell? ⟨w.heap.size, 2, none⟩ = some (.slice (some ⟨gs, off, none⟩) xs.length cap) := Xr.cell 2
            by_cases hz : 0 < z
            · have hy1 := hkq hz
              have Hm := hid (fun W' : World => r_home (b : Int) y W' (by omega) (by omega) (by omega) hmq)
              rw [HV.out hy1] at Hm
              have Wp := hid (fun (W' : World) (q' : RdN W' (.slice (some ⟨gs, off, none⟩) xs.length cap) xs) => h_way (l := l) (b := b) (homeA b y) p q' hhX hpX hcl)
              have Wq := hid (fun (W' : World) (q' : RdN W' (.slice (some ⟨gs, off, none⟩) xs.length cap) xs) => h_way (l := l) (b := b) (homeA b y) q q' hhX hqX hcl)
              rw [← HL2.out] at Wp Wq
              rw [HL2.out] at Wp Wq
              have HR3 := hid (show (if way xs.length (homeA b y) p ≤ way xs.length (homeA b y) q then takeF b f ((ys.set p (y, z)).set q (0, 0)) q ((q + 1) % xs.length) else takeF b f ys p ((q + 1) % xs.length)) = R by
                have := hR2.out
                rw [if_neg (by omega), HL2.out] at this
                exact this)
              rw [HL2.out] at Mv Sk
              generalize homeA b y = H at *
              generalize way xs.length H p = A at *
              generalize way xs.length H q = B at *
              have hqn : Hid (em ≠ q) := fun e => by have := Hce.out; rw [e, Exx.out] at this; omega
              have hwn : Hid (way xs.length ((q + 1) % xs.length) em + 1 = way xs.length q em) := way_next hqX he (Ne.symm hqn.out)
              have hpq' : p ≠ q := hpq.out hz
              have rr := r2.below hbl (Nat.le_refl _)
              have hzi : decide ((0 : Int) < z) = true := decide_eq_true hz
              have HW := hid hwy'
              have HE := hid he
              have HB3 := hid hg3B
              have HZ2 := hid hz2
              clear hR2 HV hkq RET hH hhl t0 o4 hb4 hcE hwy hne hcp hc0 HM0' hlN hh hi hlq hwy' hcq hl1 hl2 hql hpl he hg3B hcap3
              as_aux_lemma =>
                go_wp2_with fail
                go_quiet ((go_at_call 51; exact Calls.quiet_of_same (cells_home (Hm.out _))))
                go_wp2_with fail
                have oq := oy.drewN nq
                have rq := rr.drewN nq
                have Xq := Xr.drewN nq
                have Zq := Zr.drewN nq
                have hbq := below_drewN hbl nq
                have k0' : (wr.drewN nq).cell? ⟨g3, q * 2, none⟩ = some (.int .i64 y) := k0
                have k1' : (wr.drewN nq).cell? ⟨g3, q * 2 + 1, none⟩ = some (.int .i64 z) := k1
                have kp0 : (wr.drewN nq).cell? ⟨g3, p * 2, none⟩ = some (.int .i64 (idA ys p)) := KP.out.1
                have kp1 : (wr.drewN nq).cell? ⟨g3, p * 2 + 1, none⟩ = some (.int .i64 (cntA ys p)) := KP.out.2
                have FRq : Hid (∀ k, (wr.drewN nq).frozen? ⟨g3, k, none⟩ = false) := FR.out
                have K0 := hid k0'
                have K1 := hid k1'
                have KPP := hid (And.intro kp0 kp1)
                have OQ := hid oq
                have ZQ := hid Zq
                clear k0 k1 x0 x1 x2 oy rr Xr Zr hbl KP FR Hm k0' k1' kp0 kp1 oq Zq
                generalize wr.drewN nq = wq at *
                have hwq := hbq.size
                have HLT3 := hid (show g3 < wq.heap.size from OQ.out.lt' g3 rfl)
                have FX := hid (fun W (hb : Below wq.heap.size wq W) => show W.cell? ⟨w.heap.size, 0, none⟩ = some (.int .i64 l) ∧ W.cell? ⟨w.heap.size, 1, none⟩ = some (.int .i64 b) ∧ W.cell? ⟨w.heap.size, 2, none⟩ = some (.slice (some ⟨gs, off, none⟩) xs.length cap) from ⟨(Xq.below hb (Nat.le_refl _)).cell 0, (Xq.below hb (Nat.le_refl _)).cell 1, (Xq.below hb (Nat.le_refl _)).cell 2⟩)
                have hB1 : Below wq.heap.size wq (wq.drewN 1) := below_drewN (Below.refl wq.heap.size wq) 1
                go_region_held3 (fun w' => w'.cell? ⟨w.heap.size, 0, none⟩ = some (.int .i64 l) ∧ w'.cell? ⟨w.heap.size, 1, none⟩ = some (.int .i64 b) ∧ w'.cell? ⟨w.heap.size, 2, none⟩ = some (.slice (some ⟨gs, off, none⟩) xs.length cap))
                  (first
                    | exact FX.out _ hB1
                    | exact FX.out _ hBn)
                  (first
                    | (go_at_call_of 52 (Value.int .i64 (p : Int)); have hBa := ‹Below wq.heap.size wq _›; refine (Wp.out _ (rq.below hBa (Nat.le_refl _))).mono ?_; rintro e w5 ⟨rfl, hb5⟩
                       have hBn := hBa.trans (hb5.mono hBa.size))
                    | (go_at_call_of 52 (Value.int .i64 (q : Int)); have hBa := ‹Below wq.heap.size wq _›; refine (Wq.out _ (rq.below hBa (Nat.le_refl _))).mono ?_; rintro e w5 ⟨rfl, hb5⟩
                       have hBn := hBa.trans (hb5.mono hBa.size)))
                all_goals
                  have hpY : p < ys.length := by rw [HL2.out]; exact hpX
                  have hqY : q < ys.length := by rw [HL2.out]; exact hqX
                  have o5 := OQ.out.below hBn (Nat.le_refl _)
                  have o5' : OwnN w5 w2.heap.size (.slice (some ⟨g3, 0, none⟩) ys.length cap3) ys := by rw [HL2.out]; exact o5
                  obtain ⟨k0, k1⟩ := o5.cells hqY
                  rw [Eyy.out] at k0
                  rw [Exx.out] at k1
                  obtain ⟨m0, m1⟩ := o5.cells hpY
                  have e0 := World.ownsRow.frozenAt o5' (q * 2)
                  have e1 := World.ownsRow.frozenAt o5' (q * 2 + 1)
                  have e2 := World.ownsRow.frozenAt o5' (p * 2)
                  have e3 := World.ownsRow.frozenAt o5' (p * 2 + 1)
                  have hb6 := hbq.trans (hBn.mono hwq)
                  have O5 := hid o5
                  have HY := hid (And.intro hpY hqY)
                  have hm1 := HM1.out
                  clear FX hB1 hBn hb5 OQ K0 K1 KPP FRq Xq ZQ HLT3 hbq hwq o5 o5' rq Wp Wq hpY hqY
                  by_cases hAB : A ≤ B
                  · have hABi : decide ((A : Int) ≤ (B : Int)) = true := decide_eq_true (by omega)
                    as_aux_lemma =>
                      go_wp2_with fail
                      obtain ⟨hpY, hqY⟩ := HY.out
                      have hqp1 : q < (ys.set p (y, z)).length := by simpa using hqY
                      have o9 := ((((O5.out.storeJ p y).storeK p hpY z).storeJ q 0).storeK q hqp1 0)
                      have hB3 := HB3.out
                      have hb9 := (((hb6.setCell (p := ⟨g3, p * 2, none⟩) hB3 (.int .i64 y)).setCell (p := ⟨g3, p * 2 + 1, none⟩) hB3 (.int .i64 z)).setCell (p := ⟨g3, q * 2, none⟩) hB3 (.int .i64 0)).setCell (p := ⟨g3, q * 2 + 1, none⟩) hB3 (.int .i64 0)
                      have hl6 : ((ys.set p (y, z)).set q ((0 : Int), (0 : Int))).length = xs.length := by simp; exact HL2.out
                      have hcm : cntA ((ys.set p (y, z)).set q (0, 0)) em ≤ 0 := by
                        rw [cntA_set _ q em _ hqp1, if_neg (Ne.symm hqn.out), cntA_set ys p em _ hpY, if_neg (Ne.symm Hnp.out)]; exact Hce.out
                      have him : ∀ j, idA ((ys.set p (y, z)).set q (0, 0)) j ≤ 9223372036854775807 := fun j => by
                        rw [idA_set _ q j _ hqp1]; split
                        · decide
                        · rw [idA_set ys p j _ hpY]; split
                          · exact hmq
                          · exact HM.out j
                      go_roundw
                      case rel =>
                        refine ⟨f, 1, q, (q + 1) % xs.length, _, rfl, by first | rfl | rw [HM1.out], ?_, Mv.out hz hAB, rfl, hcm, hqn.out, by have := hwn.out; have := HW.out; omega, hl6, him, o9, hb9⟩
                        have e := HR3.out
                        rw [if_pos hAB] at e
                        exact e
                      case measure => simp [intOf]; have := hwn.out; first | omega | (rw [toNat_next]; omega)
                  · have hABi : decide ((A : Int) ≤ (B : Int)) = false := decide_eq_false (by omega)
                    as_aux_lemma =>
                      go_wp2_with fail
                      go_roundw
                      case rel =>
                        refine ⟨f, m + 1, p, (q + 1) % xs.length, ys, rfl, by first | rfl | rw [HM1.out], ?_, Sk.out hz hAB, ?_, Hce.out, Hnp.out, by have := hwn.out; have := HW.out; omega, HL2.out, HM.out, O5.out, hb6⟩
                        · have e := HR3.out
                          rw [if_neg hAB] at e
                          exact e
                        · rw [Hqe.out]; exact add_mod_next
                      case measure => simp [intOf]; have := hwn.out; first | omega | (rw [toNat_next]; omega)
            · have eR := hR2.out
              rw [if_pos (by omega)] at eR
              have ER := hid eR
              have hzi : decide ((0 : Int) < z) = false := decide_eq_false hz
              have hb6 := hbw.trans (hbl.mono hbw.size)
              have HB3 := hid hg3B
              have OY := hid oy
              have y0 : wr.cell? ⟨w.heap.size + 1, 0, none⟩ = some (.int .i64 0) := Zr.cell 0
              have y1 : wr.cell? ⟨w.heap.size + 1, 1, none⟩ = some (.int .i64 0) := Zr.cell 1
              have y2 : wr.cell? ⟨w.heap.size + 1, 2, none⟩ = some (.slice none 0 0) := Zr.cell 2
              have fx := Xr.free 2
              have g0 := Zr.free 0
              have g1 := Zr.free 1
              have g2 := Zr.free 2
              have V2 := (((Zr.set_other 2 (.slice (some ⟨g3, 0, none⟩) xs.length cap3) (g' := w.heap.size) (by omega)).set 0 (.int .i64 l)).set 1 (.int .i64 b)).set 2 (.slice (some ⟨g3, 0, none⟩) xs.length cap3)
              have q0 : World.cell? _ ⟨w.heap.size + 1, 0, none⟩ = some (.int .i64 l) := V2.cell 0
              have q1 : World.cell? _ ⟨w.heap.size + 1, 1, none⟩ = some (.int .i64 b) := V2.cell 1
              have q2 : World.cell? _ ⟨w.heap.size + 1, 2, none⟩ = some (.slice (some ⟨g3, 0, none⟩) xs.length cap3) := V2.cell 2
              have hbz := (((hb6.setCell (p := ⟨w.heap.size, 2, none⟩) (Nat.le_refl _) (.slice (some ⟨g3, 0, none⟩) xs.length cap3)).setCell (p := ⟨w.heap.size + 1, 0, none⟩) (by show w.heap.size ≤ w.heap.size + 1; omega) (.int .i64 l)).setCell (p := ⟨w.heap.size + 1, 1, none⟩) (by show w.heap.size ≤ w.heap.size + 1; omega) (.int .i64 b)).setCell (p := ⟨w.heap.size + 1, 2, none⟩) (by show w.heap.size ≤ w.heap.size + 1; omega) (.slice (some ⟨g3, 0, none⟩) xs.length cap3)
              have hK : ∀ W : World, (∀ k, k ≠ w.heap.size → k ≠ w.heap.size + 1 → W.heap[k]? = wr.heap[k]?) → OwnN W w2.heap.size (.slice (some ⟨g3, 0, none⟩) xs.length cap3) ys := fun W h => OY.out.keep (fun k hk => by
                simp only [Value.ownBlock, Option.some.injEq] at hk
                exact h k (by omega) (by omega))
              have o9 := hK _ (fun k h1 h2 => (Below.heap_setCell _ ⟨w.heap.size + 1, 2, none⟩ (.slice (some ⟨g3, 0, none⟩) xs.length cap3) k h2).trans ((Below.heap_setCell _ ⟨w.heap.size + 1, 1, none⟩ (.int .i64 b) k h2).trans ((Below.heap_setCell _ ⟨w.heap.size + 1, 0, none⟩ (.int .i64 l) k h2).trans (Below.heap_setCell wr ⟨w.heap.size, 2, none⟩ (.slice (some ⟨g3, 0, none⟩) xs.length cap3) k h1))))
              rw [eR] at o9
              have rz := o9.rd
              have HG : Hid (∀ k, Value.ownBlock (.slice (some ⟨g3, 0, none⟩) xs.length cap3) = some k → w.heap.size ≤ k) := fun k hk => by
                simp only [Value.ownBlock, Option.some.injEq] at hk
                have := HB3.out
                omega
              clear hR2 HV hkq RET hH hhl t0 o4 hb4 hcE hwy hne hcp hc0 HM0' hlN hh hi hlq hwy' hcq hl1 hl2 hql hpl he hcap3 Mv Sk hpX hqX hhX hK o9 oy hbl V2 eR HM KP
              as_aux_lemma =>
                go_wp2_with fail
                exact bodyPost_ret (v := .tuple #[.agg #[.int .i64 l, .int .i64 b, .slice (some ⟨g3, 0, none⟩) xs.length cap3], .int .i64 x0']) (by simp [results, Try.results25, go_sem, q0, q1, q2]) rfl ⟨_, rfl, rz, .inr HG.out, hbz⟩
end Go.Proofs.Ytbbkfjbaocpknaa
