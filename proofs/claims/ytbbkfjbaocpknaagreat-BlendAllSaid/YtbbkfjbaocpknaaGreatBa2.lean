/- The walk of blend.All, whole. -/
import Derived.Test.YtbbkfjbaocpknaaGreatBa1
import Derived.Deep.LoopGhost
namespace Go.Proofs.YtbbkfjbaocpknaaGreat
open Go.RowKit Nl

theorem Nl.step_bd (st : Int × Option DgE) (d : Option DgE) (h : In64 st.1) : In64 (stepE st d).1 := by
  unfold stepE
  split
  · split
    · rename_i a _
      cases d with
      | none => exact ⟨by simp [mgE], by simp [mgE]⟩
      | some b =>
        have := code_bd a.l b.l (sumL a.F) (sumL b.F)
        simp only [mgE]
        split
        · exact ⟨by simp, by simp⟩
        · exact ⟨by simp only; omega, by simp only; omega⟩
    · exact ⟨by simp, by simp⟩
  · exact h
def AllRel (W : World) (x : DgE) (r : List (Option DgE)) (b4 b5 : Nat) (gn : Nat) (i : Value) (wr : World) : Prop :=
  ∃ (j : Nat) (st : Int × Option DgE), i = .int .i64 j ∧ j ≤ r.length ∧ r.length - j ≤ gn ∧ BoxE b4 b5 wr st ∧ Hid (foldE (0, some x) r = foldE st (r.drop j)) ∧ lenE st.2 ≤ 60 * (j + 1) ∧ Below W.heap.size W wr ∧ In64 st.1
/-- What comes of All. -/
def AllPost (st : Int × Option DgE) (W : World) (e : Ending) (W' : World) : Prop :=
  ∃ u, e = .returned (.tuple #[u, .int .i64 st.1]) ∧ PtrOk W' u st.2 ∧ (st.1 = 0 → st.2 ≠ none) ∧ (st.1 ≠ 0 → u = .pointer none) ∧ lenE st.2 ≤ 1999 ∧ Below W.heap.size W W'
set_option maxRecDepth 100000 in
set_option maxHeartbeats 2000000 in
theorem bl_all {W : World} {v : Value} {x : DgE} {r : List (Option DgE)} (h : RdP W v (some x :: r)) (hE : ∀ e ∈ some x :: r, lenE e ≤ 60) (hr : r.length ≤ 20) :
    Calls Tryz.prog 10 #[v] W (AllPost (allE x r) W) := by
  have HR := hid h
  obtain ⟨p, cap, rfl, hc0, hrd⟩ := h
  obtain ⟨g, off, u, rfl, hg, c0, ok0⟩ := hrd 0 (by simp)
  simp only [List.getD_cons_zero, Nat.add_zero] at c0 ok0
  have OK0 := hid ok0
  obtain ⟨dg, q, g2, hh, rfl, d0, -⟩ := ok0
  have hx := hE (some x) (by simp)
  have hx : x.F.length ≤ 60 := hx
  have hba : Below W.heap.size W (W.alloc (.cells #[.pointer (some ⟨dg, 0, none⟩)] 32)) := (Below.refl _ _).alloc (Nat.le_refl _) _
  have X := Blk.new W #[.pointer (some ⟨dg, 0, none⟩)] 32
  by_cases h0 : r = []
  · subst h0
    have ea : allE x [] = (0, some ⟨x.kind, x.l, x.k, lowL x.l x.k x.F⟩) := by simp [allE]
    rw [ea]
    have d1 := d0.below hba (Nat.le_refl _)
    have inv := d0.inv
    have CF := hid (fun W (y : DgV W dg q g2 hh x.kind x.l x.k 2000 x.F) => dg_conf y)
    have LW := hid (fun W (y : DgV W dg q g2 hh x.kind x.l x.k 2000 x.F) => bl_lower x.k y (by decide) (by omega) inv.k1 (Int.le_refl _))
    have LS := hid (low_spec inv inv.k1 (Int.le_refl _))
    have hone : (([some x] : List (Option DgE)).length : Int) = 1 := rfl
    clear d0 HR hE hrd OK0 inv
    go_enter Tryz.func10, Tryz.ntmps10
    go_wp2_with fail
    generalize (W.alloc (.cells #[.pointer (some ⟨dg, 0, none⟩)] 32)) = w1 at *
    have x0 : w1.cell? ⟨W.heap.size, 0, none⟩ = some (.pointer (some ⟨dg, 0, none⟩)) := X.cell 0
    have hl0 := X.lt
    have hB0 := Below.refl w1.heap.size w1
    have hfl := fun W : World => conf_k x.l x.k x.kind W
    go_region_held3 (fun w' => w'.cell? ⟨W.heap.size, 0, none⟩ = some (.pointer (some ⟨dg, 0, none⟩)) ∧ Below w1.heap.size w1 w')
      (first
        | exact ⟨x0, below_drewN hB0 1⟩
        | exact ⟨(X.below' hB5 hl0).cell 0, hB5⟩
        | exact ⟨(X.below' hB6 hl0).cell 0, hB6⟩)
      (first
        | (go_at_call 30; have hB4 := (‹_ ∧ Below w1.heap.size w1 _›).2; refine (CF.out _ (d1.below hB4 (Nat.le_refl _))).mono ?_; rintro e w5 ⟨rfl, hb5⟩
           have hB5 := hB4.trans (hb5.mono hB4.size))
        | (go_at_call 39; have hB4 := (‹_ ∧ Below w1.heap.size w1 _›).2; refine (LW.out _ (d1.below hB4 (Nat.le_refl _))).mono ?_; rintro e w6 ⟨dm, qm, gm, hm, rfl, m6, -, -, -, -, hb6⟩
           have hB6 := hB4.trans (hb6.mono hB4.size)))
    go_wp2_with fail
    go_ret2
    exact ⟨_, rfl, ⟨dm, qm, gm, hm, rfl, m6, fun _ _ => trivial⟩, fun _ h => (by cases h), fun h => absurd rfl h, by show (lowL x.l x.k x.F).length ≤ 1999; have := LS.out.2.2.1; omega, hba.trans (hB6.mono hba.size)⟩
  · have ea : allE x r = foldE (0, some x) r := by simp [allE, h0]
    rw [ea]
    have hr1 : 1 ≤ r.length := by
      rcases Nat.eq_zero_or_pos r.length with e | e
      · exact absurd (List.eq_nil_of_length_eq_zero e) h0
      · exact e
    have hz1 : ((r.length : Int) + 1 == 1) = false := by simp; omega
    have hz0 : ((r.length : Int) + 1 == 0) = false := by simp; omega
    obtain ⟨o', hsl, -⟩ := tailP HR.out
    have XX := X.alloc (.cells #[.int .i64 0] 40)
    have YY := Blk.new (W.alloc (.cells #[.pointer (some ⟨dg, 0, none⟩)] 32)) #[.int .i64 0] 40
    rw [World.size_alloc] at YY
    have hbb := hba.alloc hba.size (.cells #[.int .i64 0] 40)
    simp only [List.length_cons] at hsl
    have hn1 : r.length + 1 - 1 = r.length := by omega
    rw [hn1] at hsl
    have TL : ∃ c, RdP W (.slice (some ⟨g, o', none⟩) r.length c) r := by
      obtain ⟨o2, hs2, t2⟩ := tailP HR.out
      have e1 := hsl W
      have e2 := hs2 W
      simp only [List.length_cons, hn1] at e2 t2
      rw [e1] at e2
      have e3 : o' = o2 := by simpa using e2
      exact ⟨_, e3 ▸ t2⟩
    have R0 : Hid (AllRel W x r W.heap.size (W.heap.size + 1) r.length (.int .i64 (0 : Nat)) ((W.alloc (.cells #[.pointer (some ⟨dg, 0, none⟩)] 32)).alloc (.cells #[.int .i64 0] 40))) := by
      have ltd := d0.ltB
      refine ⟨0, (0, some x), rfl, Nat.zero_le _, Nat.le_refl _, ⟨_, XX, YY, ⟨dg, q, g2, hh, rfl, d0.below hbb (Nat.le_refl _), fun j hj => ?_⟩, fun _ h => (by cases h), fun h => absurd rfl h⟩, rfl, by show x.F.length ≤ _; omega, hbb, ⟨by show (-9223372036854775808 : Int) ≤ 0; decide, by show (0 : Int) ≤ 9223372036854775807; decide⟩⟩
      have := ltd j hj
      exact ⟨by omega, by omega⟩
    clear X XX YY hba hbb d0 OK0 hrd h0 HR
    obtain ⟨ct, TL⟩ := TL
    have TLh := hid TL
    generalize cap - 1 = cp at *
    go_enter Tryz.func10, Tryz.ntmps10
    go_wp2_with fail
    go_loopg [29] r.length (fun gn i wr => AllRel W x r W.heap.size (W.heap.size + 1) gn i wr)
    case atStart => exact R0.out
    case round =>
      clear R0
      obtain ⟨j, st, rfl, hj, hgn, hB, hF, hln, hbl, hbd⟩ := hrel
      by_cases hlt : j < r.length
      · obtain ⟨p', c', hv, -, hrd⟩ := TLh.out
        obtain ⟨g', off', u, hp, -, cu, oku⟩ := hrd j hlt
        simp only [Value.slice.injEq] at hv
        obtain ⟨rfl, -, -⟩ := hv
        simp only [Option.some.injEq, Addr.mk.injEq, and_true] at hp
        obtain ⟨rfl, rfl⟩ := hp
        have cw : wr.cell? ⟨g, o' + j, none⟩ = some u := by rw [World.cell?_of_block (w := W) (a := ⟨g, o' + j, none⟩) (hbl.block g hg)]; exact cu
        have okw := oku.below hbl
        obtain ⟨pu, rfl⟩ := oku.ptr
        have hed : lenE (r.getD j none) ≤ 60 := hE _ (List.mem_cons_of_mem _ (getD_mem (d := none) r j hlt))
        have MR := hid (all_more hB okw (by omega) (by omega) hbd)
        have hF2 : Hid (foldE (0, some x) r = foldE (stepE st (r.getD j none)) (r.drop (j + 1))) := by
          show _ = _
          rw [hF.out, drop_at (d := none) r j hlt]
          rfl
        have hbd2 := step_bd st (r.getD j none) hbd
        have zl : decide ((j : Int) < (r.length : Int)) = true := decide_eq_true (by omega)
        generalize r.getD j none = dj at *
        clear hrd cu oku okw hB hF hbd
        go_wp2_with fail
        refine MR.out.mono ?_
        rintro e w2 ⟨rfl, hB2, t2, hl2⟩
        have hbl2 := hbl.trans (t2.below (Nat.le_refl _) (Nat.le_succ _) hbl.size)
        clear MR t2 hbl
        go_wp2_with fail
        go_roundg (r.length - (j + 1))
        case rel => exact ⟨j + 1, _, by go_num, by omega, Nat.le_refl _, hB2, hF2, by omega, hbl2, hbd2⟩
        case measure => omega
      · obtain rfl : j = r.length := by omega
        have zl : decide ((r.length : Int) < (r.length : Int)) = false := decide_eq_false (by omega)
        rw [List.drop_length] at hF
        have hF2 : Hid (foldE (0, some x) r = st) := hF.out
        obtain ⟨u, X4, X5, hp, e0, e1⟩ := hB
        obtain ⟨s1, s2⟩ := st
        obtain ⟨pu, rfl⟩ := hp.ptr
        have c4 : wr.cell? ⟨W.heap.size, 0, none⟩ = some (.pointer pu) := X4.cell 0
        have c5 : wr.cell? ⟨W.heap.size + 1, 0, none⟩ = some (.int .i64 s1) := X5.cell 0
        have P : Hid (AllPost (foldE (0, some x) r) W (.returned (.tuple #[.pointer pu, .int .i64 s1])) wr.drew) := by
          rw [hF2.out]
          exact ⟨_, rfl, (hp.mono (fun _ _ _ => trivial)).ch (fun _ _ _ => rfl), e0, e1, by simp only at hln ⊢; omega, below_drewN hbl 1⟩
        clear hp e0 e1 X4 X5 hF hF2 TLh TL hE hbl hln
        go_wp2_with fail
        go_region
        all_goals
          go_wp2_with fail
          go_ret2
          exact P.out
end Go.Proofs.YtbbkfjbaocpknaaGreat
