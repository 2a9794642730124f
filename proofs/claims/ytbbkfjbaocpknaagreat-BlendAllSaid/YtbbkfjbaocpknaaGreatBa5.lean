/- The walk of BlendAll. -/
import Derived.Test.YtbbkfjbaocpknaaGreatBa4
import Derived.Test.YtbbkfjbaocpknaaGreatBl11
import Derived.Test.YtbbkfjbaocpknaaGreatOpenSides
import Derived.BigQuiet
namespace Go.Proofs.YtbbkfjbaocpknaaGreat
open Go.RowKit Nl

def rowsOf (v3 v4 : Value) (r : Nat) : Prop := v3.ownBlock = some r ∨ v4.ownBlock = some r
/-- The two slices, and all digests. -/
def Ba (B : Nat) (W : World) (As Gs Hs : List DgM) (v3 v4 : Value) : Prop :=
  W.ownsRow B 32 1 v3 Gs.length (pcells Gs) ∧ W.ownsRow B 37 3 v4 Hs.length (wcells Hs) ∧ (∀ r, v3.ownBlock = some r → v4.ownBlock ≠ some r) ∧ ∀ x ∈ As, x.ok (rowsOf v3 v4) W
theorem Ba.below {B : Nat} {W W' : World} {As Gs Hs : List DgM} {v3 v4 : Value} (h : Ba B W As Gs Hs v3 v4) (hb : Below W.heap.size W W') : Ba B W' As Gs Hs v3 v4 := by
  obtain ⟨o3, o4, hs, ha⟩ := h
  exact ⟨ownsRow_keep o3 (fun k hk => hb.block k (World.ownsRow.lt o3 k hk).2), ownsRow_keep o4 (fun k hk => hb.block k (World.ownsRow.lt o4 k hk).2), hs, fun x hx => (ha x hx).keep (fun j hj _ => hb.block j hj) hb.size⟩
theorem Ba.add {B : Nat} {W : World} {As Gs Hs : List DgM} {v3 v4 : Value} (h : Ba B W As Gs Hs v3 v4) {y : DgM} (hy : y.ok (rowsOf v3 v4) W) : Ba B W (As ++ [y]) Gs Hs v3 v4 := by
  refine ⟨h.1, h.2.1, h.2.2.1, fun x hx => ?_⟩
  rcases List.mem_append.1 hx with hx | hx
  · exact h.2.2.2 x hx
  · obtain rfl := by simpa using hx
    exact hy
theorem Ba.growP {B : Nat} {W W' : World} {As Gs Hs : List DgM} {v3 v4 : Value} (h : Ba B W As Gs Hs v3 v4) {g cap : Nat} {y : DgM}
    (ho : W'.ownsRow B 32 1 (.slice (some ⟨g, 0, none⟩) (Gs.length + 1) cap) (Gs.length + 1) (pcells Gs ++ [.pointer (some ⟨y.dg, 0, none⟩)])) (hg : W.grownBy W' v3.ownBlock) (hn : v3.ownBlock = some g ∨ g = W.heap.size + 1) :
    Ba B W' As (Gs ++ [y]) Hs (.slice (some ⟨g, 0, none⟩) (Gs.length + 1) cap) v4 := by
  obtain ⟨o3, o4, hs, ha⟩ := h
  have hown : ∀ r, (Value.slice (some ⟨g, 0, none⟩) (Gs.length + 1) cap).ownBlock = some r ↔ g = r := fun r => by simp [Value.ownBlock]
  refine ⟨by rw [List.length_append]; simpa [pcells] using ho, ownsRow_keep o4 (fun k hk => hg.block k (World.ownsRow.lt o4 k hk).2 (fun e => hs k e.symm hk)), fun r hr h4 => ?_, fun x hx => ?_⟩
  · obtain rfl := (hown r).1 hr
    rcases hn with h | h
    · exact hs _ h h4
    · have := (World.ownsRow.lt o4 _ h4).2
      omega
  · have h1 := (ha x hx).rows (R' := fun r => rowsOf v3 v4 r ∨ g = r) (fun j hj => by
      rcases hj with h | rfl
      · exact .inl h
      · rcases hn with h | h
        · exact .inl (.inl h)
        · exact .inr (by omega))
    have h2 := h1.keep (W' := W') (fun j hj hR => hg.block j hj (fun e => hR (.inl (.inl e.symm)))) hg.size
    refine h2.rows (fun j hj => ?_)
    rcases hj with h | h
    · exact .inl (.inr ((hown j).1 h))
    · exact .inl (.inl (.inr h))
theorem Ba.growW {B : Nat} {W W' : World} {As Gs Hs : List DgM} {v3 v4 : Value} (h : Ba B W As Gs Hs v3 v4) {g cap : Nat} {y : DgM}
    (ho : W'.ownsRow B 37 3 (.slice (some ⟨g, 0, none⟩) (Hs.length + 1) cap) (Hs.length + 1) (wcells Hs ++ [.int .i64 y.e.k, .int .i64 y.e.l, y.v])) (hg : W.grownBy W' v4.ownBlock) (hn : v4.ownBlock = some g ∨ g = W.heap.size + 1) :
    Ba B W' As Gs (Hs ++ [y]) v3 (.slice (some ⟨g, 0, none⟩) (Hs.length + 1) cap) := by
  obtain ⟨o3, o4, hs, ha⟩ := h
  have hown : ∀ r, (Value.slice (some ⟨g, 0, none⟩) (Hs.length + 1) cap).ownBlock = some r ↔ g = r := fun r => by simp [Value.ownBlock]
  refine ⟨ownsRow_keep o3 (fun k hk => hg.block k (World.ownsRow.lt o3 k hk).2 (fun e => hs k hk e.symm)), by rw [List.length_append]; simpa [wcells] using ho, fun r hr h4 => ?_, fun x hx => ?_⟩
  · obtain rfl := (hown r).1 h4
    rcases hn with h | h
    · exact hs _ hr h
    · have := (World.ownsRow.lt o3 _ hr).2
      omega
  · have h1 := (ha x hx).rows (R' := fun r => rowsOf v3 v4 r ∨ g = r) (fun j hj => by
      rcases hj with h | rfl
      · exact .inl h
      · rcases hn with h | h
        · exact .inl (.inr h)
        · exact .inr (by omega))
    have h2 := h1.keep (W' := W') (fun j hj hR => hg.block j hj (fun e => hR (.inl (.inr e.symm)))) hg.size
    refine h2.rows (fun j hj => ?_)
    rcases hj with h | h
    · exact .inl (.inl (.inl h))
    · exact .inl (.inr ((hown j).1 h))
/-- How they read. -/
theorem Ba.rdP {B : Nat} {W : World} {As Gs Hs : List DgM} {v3 v4 : Value} (h : Ba B W As Gs Hs v3 v4) (hA : ∀ x ∈ Gs, x ∈ As) : RdP W v3 (Gs.map (fun x => some x.e)) := by
  obtain ⟨o3, -, -, ha⟩ := h
  rcases rowC_shape o3 with ⟨rfl, h0⟩ | ⟨g, cap, rfl, -, hg, hc, hcell⟩
  · obtain rfl := List.eq_nil_of_length_eq_zero h0
    exact ⟨none, 0, rfl, Nat.le_refl _, fun k hk => by simp at hk⟩
  · refine ⟨some ⟨g, 0, none⟩, cap, by simp, by simpa using hc, fun k hk => ?_⟩
    have hk : k < Gs.length := by simpa using hk
    refine ⟨g, 0, .pointer (some ⟨Gs[k].dg, 0, none⟩), rfl, hg, ?_, ?_⟩
    · rw [Nat.zero_add, hcell k (by omega)]
      simp [pcells, hk]
    · have e : (Gs.map (fun x => some x.e)).getD k none = some Gs[k].e := by simp [List.getD, hk]
      rw [e]
      obtain ⟨d, -⟩ := ha Gs[k] (hA _ (List.getElem_mem hk))
      exact ⟨_, _, _, _, rfl, d, fun _ _ => trivial⟩
theorem Ba.rdW {B : Nat} {W : World} {As Gs Hs : List DgM} {v3 v4 : Value} (h : Ba B W As Gs Hs v3 v4) (hA : ∀ x ∈ Hs, x ∈ As) : RdW W v4 (Hs.map (fun x => x.e)) := by
  obtain ⟨-, o4, -, ha⟩ := h
  rcases rowC_shape o4 with ⟨rfl, h0⟩ | ⟨g, cap, rfl, -, hg, hc, hcell⟩
  · obtain rfl := List.eq_nil_of_length_eq_zero h0
    exact ⟨none, 0, rfl, fun k hk => by simp at hk⟩
  · refine ⟨some ⟨g, 0, none⟩, cap, by simp, fun k hk => ?_⟩
    have hk' : k < Hs.length := by simpa using hk
    obtain ⟨c0, c1, c2⟩ := wcells_get Hs k hk'
    obtain ⟨-, r, -⟩ := ha Hs[k] (hA _ (List.getElem_mem hk'))
    refine ⟨g, 0, Hs[k].v, rfl, hg, ?_, ?_, ?_, ?_⟩
    · rw [Nat.zero_add, hcell (k * 3) (by omega), c0]; simp
    · rw [Nat.zero_add, hcell (k * 3 + 1) (by omega), c1]; simp
    · rw [Nat.zero_add, hcell (k * 3 + 2) (by omega), c2]
    · simpa using r
theorem RdW.below {W W' : World} {v : Value} {es : List DgE} (h : RdW W v es) (hb : Below W.heap.size W W') : RdW W' v es := by
  obtain ⟨p, cap, rfl, hr⟩ := h
  refine ⟨p, cap, rfl, fun k hk => ?_⟩
  obtain ⟨g, off, u, hp, hg, c0, c1, c2, r⟩ := hr k hk
  exact ⟨g, off, u, hp, Nat.lt_of_lt_of_le hg hb.size, cell_below hb c0 hg, cell_below hb c1 hg, cell_below hb c2 hg, r.below hb (Nat.le_refl _)⟩
def BaRel (xs : List SideE) (w : World) (gn : Nat) (v3 v4 i : Value) (wr : World) : Prop :=
  ∃ (j : Nat) (Gs : List DgM), i = .int .i64 j ∧ j ≤ xs.length ∧ xs.length - j ≤ gn ∧ Gs.length = j ∧ Ba w.heap.size wr Gs Gs Gs v3 v4 ∧ Below w.heap.size w wr ∧ (∀ k (h : k < Gs.length), Gs[k].e.kind = (xs.getD k (0, 0, 0, .slice none 0 0, [])).2.2.1) ∧ (Gs = [] → v3 = .slice none 0 0 ∧ v4 = .slice none 0 0)
theorem Nl.allE_kind (x : DgE) (r : List (Option DgE)) (d : DgE) (h : (allE x r).2 = some d) : d.kind = x.kind := by
  have key : ∀ (es : List (Option DgE)) (st : Int × Option DgE), (∀ d, st.2 = some d → d.kind = x.kind) → ∀ d, (foldE st es).2 = some d → d.kind = x.kind := by
    intro es
    induction es with
    | nil => intro st hs d hd; exact hs d hd
    | cons e t ih =>
      intro st hs d hd
      refine ih (stepE st e) ?_ d hd
      intro d' hd'
      unfold stepE at hd'
      split at hd'
      · split at hd'
        · rename_i a ha
          cases e with
          | none => cases hd'
          | some b =>
            simp only [mgE] at hd'
            split at hd'
            · obtain rfl := Option.some.inj hd'
              exact hs a ha
            · cases hd'
        · cases hd'
      · exact hs d' hd'
  unfold allE at h
  split at h
  · obtain rfl := Option.some.inj h
    rfl
  · exact key r (0, some x) (fun d hd => by obtain rfl := Option.some.inj hd; rfl) d h
theorem Nl.allE_nil (x : DgE) (r : List (Option DgE)) : (allE x (r ++ [none])).1 ≠ 0 := by
  have e : allE x (r ++ [none]) = stepE (foldE (0, some x) r) none := by
    unfold allE foldE
    rw [if_neg (by simp), List.foldl_append]
    rfl
  rw [e]
  unfold stepE
  split
  · split
    · simp [mgE]
    · simp
  · assumption
/-- With nil behind them. -/
theorem rdP_nil {B : Nat} {W : World} {Gs : List DgM} {v : Value} (o3 : W.ownsRow B 32 1 v (Gs.length + 1) (pcells Gs ++ [.pointer none])) (ha : ∀ x ∈ Gs, DgV W x.dg x.q x.g x.h x.e.kind x.e.l x.e.k 2000 x.e.F) : RdP W v (Gs.map (fun x => some x.e) ++ [none]) := by
  rcases rowC_shape o3 with ⟨rfl, h0⟩ | ⟨g, cap, rfl, -, hg, hc, hcell⟩
  · simp at h0
  · refine ⟨some ⟨g, 0, none⟩, cap, by simp, by simpa using hc, fun k hk => ?_⟩
    have hk : k < Gs.length + 1 := by simpa using hk
    by_cases hk2 : k < Gs.length
    · refine ⟨g, 0, .pointer (some ⟨Gs[k].dg, 0, none⟩), rfl, hg, ?_, ?_⟩
      · rw [Nat.zero_add, hcell k (by omega), List.getElem?_append_left (by simpa [pcells] using hk2)]
        simp [pcells, hk2]
      · have e : (Gs.map (fun x : DgM => some x.e) ++ [none]).getD k none = some Gs[k].e := by
          rw [List.getD, List.getElem?_append_left (by simpa using hk2)]
          simp [hk2]
        rw [e]
        exact ⟨_, _, _, _, rfl, ha Gs[k] (List.getElem_mem hk2), fun _ _ => trivial⟩
    · have hke : k = Gs.length := by omega
      subst hke
      refine ⟨g, 0, .pointer none, rfl, hg, ?_, ?_⟩
      · rw [Nat.zero_add, hcell _ (by omega)]
        have e : (pcells Gs).length = Gs.length := by simp [pcells]
        rw [List.getElem?_append_right (by omega), e]
        simp
      · have e : (Gs.map (fun x : DgM => some x.e) ++ [none]).getD Gs.length none = none := by simp [List.getD]
        rw [e]
        rfl
set_option maxRecDepth 100000 in
set_option maxHeartbeats 1000000 in
theorem bl_all_nil {W : World} {v : Value} (h : RdP W v [none]) : Calls Tryz.prog 10 #[v] W fun e w' => e = .returned (.tuple #[.pointer none, .int .i64 1]) ∧ Below W.heap.size W w' := by
  obtain ⟨p, cap, rfl, hc0, hrd⟩ := h
  obtain ⟨g, off, u, rfl, hg, c0, ok0⟩ := hrd 0 (by simp)
  simp only [List.getD_cons_zero, Nat.add_zero] at c0 ok0
  obtain rfl : u = .pointer none := ok0
  have hone : (([none] : List (Option DgE)).length) = 1 := rfl
  rw [hone] at hc0 ⊢
  have CF := hid (fun W : World => nd_conf W)
  have LW := hid (fun W : World => bl_lower_nil 0 W)
  have hba : Below W.heap.size W (W.alloc (.cells #[.pointer none] 32)) := (Below.refl _ _).alloc (Nat.le_refl _) _
  have X := Blk.new W #[.pointer none] 32
  clear hrd hone
  go_enter Tryz.func10, Tryz.ntmps10
  go_wp2_with fail
  generalize (W.alloc (.cells #[.pointer none] 32)) = w1 at *
  have x0 : w1.cell? ⟨W.heap.size, 0, none⟩ = some (.pointer none) := X.cell 0
  have hl0 := X.lt
  have hB0 := Below.refl w1.heap.size w1
  have hfl := fun W : World => conf_k 0 0 0 W
  go_region_held3 (fun w' => w'.cell? ⟨W.heap.size, 0, none⟩ = some (.pointer none) ∧ Below w1.heap.size w1 w')
    (first
      | exact ⟨x0, below_drewN hB0 1⟩
      | exact ⟨(X.below' hB5 hl0).cell 0, hB5⟩
      | exact ⟨(X.below' hB6 hl0).cell 0, hB6⟩)
    (first
      | (go_at_call 30; have hB4 := (‹_ ∧ Below w1.heap.size w1 _›).2; refine (CF.out _).mono ?_; rintro e w5 ⟨rfl, hb5⟩
         have hB5 := hB4.trans (hb5.mono hB4.size))
      | (go_at_call 39; have hB4 := (‹_ ∧ Below w1.heap.size w1 _›).2; refine (LW.out _).mono ?_; rintro e w6 ⟨rfl, hb6⟩
         have hB6 := hB4.trans (hb6.mono hB4.size)))
  go_wp2_with fail
  go_ret2
  exact ⟨rfl, hba.trans (hB6.mono hba.size)⟩
set_option maxRecDepth 100000 in
set_option maxHeartbeats 1000000 in
theorem r_all0 (W : World) : Calls Tryz.prog 11 #[.slice none 0 0] W fun e w' => e = .returned (.tuple #[.agg #[.int .i64 0, .int .i64 0, .slice none 0 0], .int .i64 7]) ∧ Below W.heap.size W w' := by
  have hb : Below W.heap.size W (W.alloc (.cells #[.int .i64 0, .int .i64 0, .slice none 0 0] 37)) := (Below.refl _ _).alloc (Nat.le_refl _) _
  have X := Blk.new W #[.int .i64 0, .int .i64 0, .slice none 0 0] 37
  go_enter Tryz.func11, Tryz.ntmps11
  go_wp2_with fail
  refine ret_dig X ?_ ?_ ?_ ⟨rfl, hb⟩
  · rfl
  · rfl
  · rfl
set_option maxRecDepth 100000 in
set_option maxHeartbeats 8000000 in
theorem ba_walk (v : Value) (xs : List SideE) (w : World) (hS : RdSides w v xs) :
    Calls Tryz.prog 3 #[v] w fun e w' => e = .returned (.bool true) ∧ Below w.heap.size w w' := by
  have A := hid (fun W : World => al14 W)
  obtain ⟨p, cap, rfl, hlen, hat⟩ := hS
  have HS := hid hat
  clear hat
  by_cases h6 : 6 < xs.length
  · have z : decide (6 < (xs.length : Int)) = true := decide_eq_true (by omega)
    go_enter Tryz.func3, Tryz.ntmps3
    go_wp2_with fail
    refine (A.out _).mono ?_
    rintro e w2 ⟨rfl, hb2⟩
    go_wp2_with fail
    go_ret
    exact ⟨rfl, hb2⟩
  · have z : decide (6 < (xs.length : Int)) = false := decide_eq_false (by omega)
    have hx6 : xs.length ≤ 6 := by omega
    have MD := hid s_madeF
    have FW := hid s_few_any
    have R0 : Hid (BaRel xs w xs.length (.slice none 0 0) (.slice none 0 0) (.int .i64 (0 : Nat)) w) :=
      ⟨0, [], rfl, Nat.zero_le _, Nat.le_refl _, rfl, ⟨World.ownsRow_nil w _ _ _, World.ownsRow_nil w _ _ _, fun r hr => by simp [Value.ownBlock] at hr, fun x hx => by cases hx⟩, Below.refl _ _, (fun k hk => by simp at hk), fun _ => ⟨rfl, rfl⟩⟩
    clear h6
    go_enter Tryz.func3, Tryz.ntmps3
    go_wp2_with fail
    go_loopg [3, 4, 21] xs.length (fun gn v3 v4 i wr => BaRel xs w gn v3 v4 i wr)
    case atStart => exact R0.out
    case round =>
      clear R0
      obtain ⟨j, Gs, rfl, hj, hgn, rfl, hBa, hbl, hkd, hnil⟩ := hrel
      by_cases hlt : Gs.length < xs.length
      · obtain ⟨g, off, hp, hg, c0, c1, c2, c3, ⟨b0, b1, b2⟩, ro⟩ := (HS.out _ hlt).below hbl (Nat.le_refl _)
        subst hp
        obtain ⟨x, hx⟩ : ∃ x, xs.getD Gs.length (0, 0, 0, .slice none 0 0, []) = x := ⟨_, rfl⟩
        rw [hx] at c0 c1 c2 c3 b0 b1 b2 ro
        have HX := hid hx
        clear hx
        obtain ⟨l, k, kind, vo, os⟩ := x
        simp only at c0 c1 c2 c3 ro b0 b1 b2
        obtain ⟨po, co, rfl, -⟩ := id ro
        have zl : decide ((Gs.length : Int) < (xs.length : Int)) = true := decide_eq_true (by omega)
        have hba : Below wr.heap.size wr (wr.alloc (.cells #[.int .i64 l, .int .i64 k, .int .i64 kind, .slice po os.length co] 30)) := (Below.refl _ _).alloc (Nat.le_refl _) _
        have X1 := Blk.new wr #[.int .i64 l, .int .i64 k, .int .i64 kind, .slice po os.length co] 30
        have ro1 := ro.below hba (Nat.le_refl _)
        have Ba1 := hid (hBa.below hba)
        have hb1 := hbl.trans (hba.mono hbl.size)
        have FW1 := hid (FW.out l k kind _ os _ ro1)
        clear hBa ro hba hbl
        go_upto_region 8 with fail
        generalize (wr.alloc (.cells #[.int .i64 l, .int .i64 k, .int .i64 kind, .slice po os.length co] 30)) = w1 at *
        have x0 : w1.cell? ⟨wr.heap.size, 0, none⟩ = some (.int .i64 l) := X1.cell 0
        have x1 : w1.cell? ⟨wr.heap.size, 1, none⟩ = some (.int .i64 k) := X1.cell 1
        have x2 : w1.cell? ⟨wr.heap.size, 2, none⟩ = some (.int .i64 kind) := X1.cell 2
        have x3 : w1.cell? ⟨wr.heap.size, 3, none⟩ = some (.slice po os.length co) := X1.cell 3
        go_wp2_with fail
        refine FW1.out.mono ?_
        rintro e w2 ⟨b, rfl, hF, hb2⟩
        have hb3 := hb1.trans (hb2.mono hb1.size)
        clear x0 x1 x2 x3 FW1
        cases b
        · go_wp2_with fail
          refine (A.out _).mono ?_
          rintro e w4 ⟨rfl, hb4⟩
          go_wp2_with fail
          go_ret
          exact ⟨rfl, hb3.trans (hb4.mono hb3.size)⟩
        · obtain ⟨hP1, hP2, h60⟩ := hF rfl
          have X2 := X1.below hb2 (Nat.le_refl _)
          have ro2 := ro1.below hb2 (Nat.le_refl _)
          have Ba2 := hid (Ba1.out.below hb2)
          have MD2 := hid (MD.out l k kind _ os _ ro2 (by omega) hP1 hP2)
          have x0 : w2.cell? ⟨wr.heap.size, 0, none⟩ = some (.int .i64 l) := X2.cell 0
          have x1 : w2.cell? ⟨wr.heap.size, 1, none⟩ = some (.int .i64 k) := X2.cell 1
          have x2 : w2.cell? ⟨wr.heap.size, 2, none⟩ = some (.int .i64 kind) := X2.cell 2
          have x3 : w2.cell? ⟨wr.heap.size, 3, none⟩ = some (.slice po os.length co) := X2.cell 3
          clear hF X1 ro1 Ba1 hP1 hP2 hb1 hb2
          go_wp2_with fail
          refine MD2.out.mono ?_
          rintro e w4 ⟨dg, q, gg, hh, vF, rfl, d4, rF, hFl, hdb, nF, hb4⟩
          obtain ⟨F, hFe⟩ : ∃ F, dgAll l k os = F := ⟨_, rfl⟩
          rw [hFe] at d4 rF hFl nF
          have hFl2 : F.length ≤ 60 := Nat.le_trans hFl h60
          obtain ⟨pF, cF, rfl⟩ := rF.val
          have hb5 := hb3.trans (hb4.mono hb3.size)
          have OK4 : DgM.ok (rowsOf u3 u4) w4 ⟨⟨kind, l, k, F⟩, dg, q, gg, hh, .slice pF F.length cF⟩ := by
            obtain ⟨o3, o4, -, -⟩ := Ba2.out
            have hlt2 : ∀ r, rowsOf u3 u4 r → r < w2.heap.size := fun r hr => by
              rcases hr with h | h
              · exact (World.ownsRow.lt o3 r h).2
              · exact (World.ownsRow.lt o4 r h).2
            refine ⟨d4, rF, hFl2, fun j hj hr => by have h1 := hdb j hj; have h2 := hlt2 j hr; omega, fun j hr => ?_⟩
            rcases nF with h | h
            · exact .inl h
            · exact .inr (fun i hi e => h i hi (by show i < w2.heap.size; rw [e]; exact hlt2 j hr))
          have hbD : Below w4.heap.size w4 (w4.alloc (.cells #[.int .i64 k, .int .i64 l, .slice pF F.length cF] 37)) := (Below.refl _ _).alloc (Nat.le_refl _) _
          have Ba5 := hid (((Ba2.out.below hb4).add OK4).below hbD)
          have hrow : ∀ r, u3.ownBlock = some r → r < w4.heap.size := fun r hr => (World.ownsRow.lt (Ba2.out.below hb4).1 r hr).2
          have D5 := Blk.new w4 #[.int .i64 k, .int .i64 l, .slice pF F.length cF] 37
          have hb6 := hb5.trans (hbD.mono hb5.size)
          have hs6 := hb6.size
          clear OK4 d4 rF nF hdb hFe hFl Ba2 X2 ro2 x0 x1 x2 x3 hb4 hb5 hb3 MD2
          go_upto_region 13 with fail
          generalize (w4.alloc (.cells #[.int .i64 k, .int .i64 l, .slice pF F.length cF] 37)) = w5 at *
          go_upto_region 14 with (at_builtin; refine appendP (wr := w5) (pa := some ⟨dg, 0, none⟩) _ _ Ba5.out.1 (by omega) hs6 rfl rfl rfl rfl rfl ?_; intro g3 cap3 w6 o3 hg3 hn3 hl3; have Ba6 := hid (Ba5.out.growP (y := ⟨⟨kind, l, k, F⟩, dg, q, gg, hh, .slice pF F.length cF⟩) o3 hg3 hn3); have D6 := D5.keep (hg3.block _ D5.lt (fun e => by have := hrow _ e.symm; omega)); have hb7 := hb6.trans (below_grown hg3 hs6 (fun k hk => (World.ownsRow.lt Ba5.out.1 k hk).1)); have hs7 := hb7.size; have q0 : w6.cell? ⟨w4.heap.size, 0, none⟩ = some (.int .i64 k) := D6.cell 0; have q1 : w6.cell? ⟨w4.heap.size, 1, none⟩ = some (.int .i64 l) := D6.cell 1; have q2 : w6.cell? ⟨w4.heap.size, 2, none⟩ = some (.slice pF F.length cF) := D6.cell 2; have dl := D6.lt; clear o3 hg3 D6)
          clear Ba5 D5 hrow hb6 hs6
          go_wp2_with (at_builtin; refine appendW (wr := w6) (b := k) (c := l) (p := pF) (m := F.length) (q := cF) _ _ Ba6.out.2.1 (by omega) hs7 rfl rfl rfl rfl rfl ?_; intro g4 cap4 w7 o4 hg4 hn4 hl4; have Ba7 := hid (Ba6.out.growW (y := ⟨⟨kind, l, k, F⟩, dg, q, gg, hh, .slice pF F.length cF⟩) o4 hg4 hn4); have hb8 := hb7.trans (below_grown hg4 hs7 (fun k hk => (World.ownsRow.lt Ba6.out.2.1 k hk).1)); clear o4 hg4)
          go_roundg (xs.length - (Gs.length + 1))
          case rel =>
            refine ⟨Gs.length + 1, Gs ++ [⟨⟨kind, l, k, F⟩, dg, q, gg, hh, .slice pF F.length cF⟩], by go_num, by omega, Nat.le_refl _, by simp, Ba7.out, hb8, fun k' hk' => ?_, fun h => by simp at h⟩
            by_cases hkl : k' < Gs.length
            · rw [List.getElem_append_left hkl]
              exact hkd k' hkl
            · have hk2 : k' = Gs.length := by simp at hk'; omega
              subst hk2
              rw [HX.out]
              simp
          case measure => omega
      · have hlen2 : Gs.length = xs.length := by omega
        have zl : decide ((Gs.length : Int) < (xs.length : Int)) = false := decide_eq_false (by omega)
        cases Gs with
        | nil =>
          obtain ⟨rfl, rfl⟩ := hnil rfl
          have A0 := hid (fun W => nb_all0 W)
          have R0 := hid (fun W => r_all0 W)
          have AN := hid (fun W v (h : RdP W v [none]) => bl_all_nil h)
          obtain ⟨o3, -, -, -⟩ := hBa
          have hbz := hbl.size
          have hxl : xs.length = 0 := hlen2.symm
          simp only [List.length_nil] at zl
          clear hlen2
          clear hkd hlt hnil HS
          go_wp2_with fail
          refine (A0.out _).mono ?_
          rintro e w' ⟨rfl, rfl⟩
          go_wp2_with fail
          refine (R0.out _).mono ?_
          rintro e w2 ⟨rfl, hb2⟩
          have hbw2 := hbl.trans (hb2.mono hbz)
          have hbb : Below w2.heap.size w2 (w2.alloc (.cells #[.int .i64 0, .int .i64 0, .slice none 0 0] 37)) := (Below.refl _ _).alloc (Nat.le_refl _) _
          have X := Blk.new w2 #[.int .i64 0, .int .i64 0, .slice none 0 0] 37
          have hbw3 := hbw2.trans (hbb.mono hbw2.size)
          have o33 : (w2.alloc (.cells #[.int .i64 0, .int .i64 0, .slice none 0 0] 37)).ownsRow w.heap.size 32 1 (.slice none 0 0) 0 [] := World.ownsRow_nil _ _ _ _
          have hs3 := hbw3.size
          clear A0 R0 o3 hbl hb2 hbw2 hbb
          go_upto_region 18 with fail
          generalize (w2.alloc (.cells #[.int .i64 0, .int .i64 0, .slice none 0 0] 37)) = w3 at *
          go_quiet (fail)
          have hb4 : Below w.heap.size w (w3.drewN nq) := below_drewN hbw3 nq
          have hs4 : w.heap.size ≤ (w3.drewN nq).heap.size := hb4.size
          have o4 : (w3.drewN nq).ownsRow w.heap.size 32 1 (.slice none 0 0) 0 [] := World.ownsRow_nil _ _ _ _
          generalize w3.drewN nq = w4 at *
          clear o33 hs3 hbw3 X
          go_wp2_with (at_builtin; refine appendP (wr := w4) (pa := none) _ _ o4 (by decide) hs4 rfl rfl rfl rfl rfl ?_; intro g3 cap3 w6 o3 hg3 hn3 hl3; have R6 := hid (rdP_nil (Gs := []) o3 (fun x hx => by cases hx)); have hb7 := hb4.trans (below_grown hg3 hs4 (fun k hk => by simp [Value.ownBlock] at hk)); clear o3 hg3)
          refine (AN.out _ _ R6.out).mono ?_
          rintro e w7 ⟨rfl, hb8⟩
          have hb9 := hb7.trans (hb8.mono hb7.size)
          clear R6 hb8 hb7 AN
          go_wp2_with fail
          refine (A.out _).mono ?_
          rintro e w8 ⟨rfl, hb10⟩
          go_wp2_with fail
          go_ret
          exact ⟨rfl, hb9.trans (hb10.mono hb9.size)⟩
        | cons x r =>
          have hPd := hBa.rdP (fun y hy => hy)
          have hWd := hBa.rdW (fun y hy => hy)
          have hok := hBa.2.2.2
          simp only [List.map_cons] at hPd hWd
          have hrl : r.length ≤ 5 := by simp only [List.length_cons] at hlen2; omega
          have hE1 : ∀ e ∈ some x.e :: r.map (fun y => some y.e), lenE e ≤ 60 := fun e he => by
            rcases List.mem_cons.1 he with rfl | he
            · exact (hok x (by simp)).2.2.1
            · obtain ⟨y, hy, rfl⟩ := List.mem_map.1 he
              exact (hok y (by simp [hy])).2.2.1
          have HE2 : Hid (∀ e ∈ some x.e :: (r.map (fun y => some y.e) ++ [none]), lenE e ≤ 60) := hid (fun e he => by
            rcases List.mem_cons.1 he with h | h
            · exact hE1 e (by rw [h]; simp)
            · rcases List.mem_append.1 h with h | h
              · exact hE1 e (List.mem_cons_of_mem _ h)
              · obtain rfl := by simpa using h
                exact Nat.zero_le _)
          have hI : ∀ e ∈ x.e :: r.map (fun y => y.e), Dg e.l e.k e.F ∧ e.F.length ≤ 60 := fun e he => by
            have key : ∀ y ∈ x :: r, Dg y.e.l y.e.k y.e.F ∧ y.e.F.length ≤ 60 := fun y hy => ⟨(hok y hy).1.inv, (hok y hy).2.2.1⟩
            rcases List.mem_cons.1 he with rfl | he
            · exact key x (by simp)
            · obtain ⟨y, hy, rfl⟩ := List.mem_map.1 he
              exact key y (by simp [hy])
          have BA := hid (bl_all hPd hE1 (by simp; omega))
          have RA0 := fun W (hb : Below wr.heap.size wr W) => r_all (hWd.below hb) hI (by simp; omega)
          rw [List.map_map, show (some ∘ fun y : DgM => y.e) = (fun y : DgM => some y.e) from rfl] at RA0
          have RA := hid RA0
          have hkind := hid (allE_kind x.e (r.map (fun y => some y.e)))
          have hBaH := hid hBa
          have hkx : x.e.kind = (xs.getD 0 (0, 0, 0, .slice none 0 0, [])).2.2.1 := hkd 0 (by simp)
          obtain ⟨g, off, hp, hg, c0, c1, c2, c3, -, -⟩ := (HS.out 0 (by simp only [List.length_cons] at hlen2; omega)).below hbl (Nat.le_refl _)
          subst hp
          rw [← hkx] at c2
          simp only [Nat.zero_mul, Nat.add_zero] at c2
          have zl2 : decide ((r.length : Int) + 1 < (xs.length : Int)) = false := decide_eq_false (by simp only [List.length_cons] at hlen2; omega)
          have hx1 : 0 < xs.length := by simp only [List.length_cons] at hlen2; omega
          generalize allE x.e (r.map (fun y => some y.e)) = st at *
          clear RA0 hPd hWd hok hE1 hI hBa hkd hnil HS hlt c0 c1 c3 hkx hlen2
          go_wp2_with fail
          refine BA.out.mono ?_
          rintro e w2 ⟨u, rfl, pu, h0, h1, hlu, hb2⟩
          obtain ⟨pa, rfl⟩ := pu.ptr
          have hbw2 := hbl.trans (hb2.mono hbl.size)
          go_wp2_with fail
          refine (RA.out w2 hb2).mono ?_
          rintro e w3 ⟨hb3, (⟨hne, rfl⟩ | ⟨d, vz, hst, rfl, rz, dz⟩)⟩
          · have hpa := h1 hne
            simp only [Value.pointer.injEq] at hpa
            subst hpa
            have hbr3 := hb2.trans (hb3.mono hb2.size)
            have hbb : Below w3.heap.size w3 (w3.alloc (.cells #[.int .i64 0, .int .i64 0, .slice none 0 0] 37)) := (Below.refl _ _).alloc (Nat.le_refl _) _
            have hbr4 := hbr3.trans (hbb.mono hbr3.size)
            have hq : (st.1 != 0) = true := by simpa using hne
            have hwn : Below wr.heap.size wr wr := Below.refl _ _
            clear BA RA pu h0 h1 hlu hb2 hb3 hbb hbr3 hne hkind c2 hbw2
            go_upto_region 18 with fail
            generalize (w3.alloc (.cells #[.int .i64 0, .int .i64 0, .slice none 0 0] 37)) = w4 at *
            go_quiet (fail)
            have hbr5 := below_drewN hbr4 nq
            generalize w4.drewN nq = w5 at *
            have hbw5 := hbl.trans (hbr5.mono hbl.size)
            clear hbr4
            have Ba5 := hid (hBaH.out.below hbr5)
            have hs5 := hbw5.size
            go_wp2_with (at_builtin; refine appendP (wr := w5) (pa := none) _ _ Ba5.out.1 (by omega) hs5 rfl rfl rfl rfl rfl ?_; intro g3 cap3 w6 o3 hg3 hn3 hl3; have R6 := hid (rdP_nil (Gs := x :: r) o3 (fun y hy => ((Ba5.out.2.2.2 y hy).keep (fun j hj hR => hg3.block j hj (fun e => hR (.inl e.symm))) hg3.size).1)); have hb7 := hbw5.trans (below_grown hg3 hs5 (fun k hk => (World.ownsRow.lt Ba5.out.1 k hk).1)); clear o3 hg3)
            have AN := hid (bl_all R6.out HE2.out (by simp; omega))
            have hz := allE_nil x.e (r.map (fun y => some y.e))
            generalize allE x.e (r.map (fun y => some y.e) ++ [none]) = st2 at *
            refine AN.out.mono ?_
            rintro e w7 ⟨u2, rfl, pu2, -, -, -, hb8⟩
            obtain ⟨pa2, rfl⟩ := pu2.ptr
            have hb9 := hb7.trans (hb8.mono hb7.size)
            have hzz : (st2.1 != 0) = true := by simpa using hz
            clear R6 hb8 hb7 AN pu2 hz
            go_wp2_with fail
            refine (A.out _).mono ?_
            rintro e w8 ⟨rfl, hb10⟩
            go_wp2_with fail
            go_ret
            exact ⟨rfl, hb9.trans (hb10.mono hb9.size)⟩
          · subst hst
            obtain ⟨dg, q, gg, hh, hpe, dd, -⟩ := pu
            simp only [Value.pointer.injEq] at hpe
            subst hpe
            simp only at hlu
            have hlu : d.F.length ≤ 1999 := hlu
            have hkk := hkind.out d rfl
            rw [← hkk] at c2
            obtain ⟨pz, cz, rfl⟩ := rz.val
            have d3 := dd.below hb3 (Nat.le_refl _)
            have hbr3 := hb2.trans (hb3.mono hb2.size)
            have hbb : Below w3.heap.size w3 (w3.alloc (.cells #[.int .i64 d.k, .int .i64 d.l, .slice pz d.F.length cz] 37)) := (Below.refl _ _).alloc (Nat.le_refl _) _
            have d4 := d3.below hbb (Nat.le_refl _)
            have rz4 := rz.below hbb (Nat.le_refl _)
            have Z4 := Blk.new w3 #[.int .i64 d.k, .int .i64 d.l, .slice pz d.F.length cz] 37
            have hbr4 := hbr3.trans (hbb.mono hbr3.size)
            have LK := hid (fun W (y : DgV W dg q gg hh d.kind d.l d.k 2000 d.F) v (z : RdN W v d.F) => d_like14 y (by decide) z (by omega))
            clear BA RA h0 h1 hb2 hb3 hbb hbr3 hkind hbw2 dd d3 rz dz hkk
            go_upto_region 18 with fail
            generalize (w3.alloc (.cells #[.int .i64 d.k, .int .i64 d.l, .slice pz d.F.length cz] 37)) = w4 at *
            have cK : w4.cell? ⟨g, off + 2, none⟩ = some (.int .i64 d.kind) := cell_below hbr4 c2 hg
            have z0 : w4.cell? ⟨w3.heap.size, 0, none⟩ = some (.int .i64 d.k) := Z4.cell 0
            have z1 : w4.cell? ⟨w3.heap.size, 1, none⟩ = some (.int .i64 d.l) := Z4.cell 1
            have z2 : w4.cell? ⟨w3.heap.size, 2, none⟩ = some (.slice pz d.F.length cz) := Z4.cell 2
            go_cut [79] (fun s wx => s = .bool false ∧ Below wr.heap.size wr wx)
            case first =>
              have hg4 : g < w4.heap.size := Nat.lt_of_lt_of_le hg hbr4.size
              have FX := hid (fun W' (hb : Below w4.heap.size w4 W') => show W'.cell? ⟨g, off + 2, none⟩ = some (.int .i64 d.kind) ∧ W'.cell? ⟨w3.heap.size, 0, none⟩ = some (.int .i64 d.k) ∧ W'.cell? ⟨w3.heap.size, 1, none⟩ = some (.int .i64 d.l) ∧ W'.cell? ⟨w3.heap.size, 2, none⟩ = some (.slice pz d.F.length cz) ∧ Below w4.heap.size w4 W' from
                ⟨cell_below hb cK hg4, (Z4.below hb (Nat.le_refl _)).cell 0, (Z4.below hb (Nat.le_refl _)).cell 1, (Z4.below hb (Nat.le_refl _)).cell 2, hb⟩)
              have hB0 := Below.refl w4.heap.size w4
              go_region_held3 (fun w' => w'.cell? ⟨g, off + 2, none⟩ = some (.int .i64 d.kind) ∧ w'.cell? ⟨w3.heap.size, 0, none⟩ = some (.int .i64 d.k) ∧ w'.cell? ⟨w3.heap.size, 1, none⟩ = some (.int .i64 d.l) ∧ w'.cell? ⟨w3.heap.size, 2, none⟩ = some (.slice pz d.F.length cz) ∧ Below w4.heap.size w4 w')
                (first
                  | exact FX.out _ (below_drewN hB0 1)
                  | exact FX.out _ hBn)
                (first
                  | (go_at_call 12; have hBa2 := (‹_ ∧ _ ∧ _ ∧ _ ∧ Below w4.heap.size w4 _›).2.2.2.2; refine (LK.out _ (d4.below hBa2 (Nat.le_refl _)) _ (rz4.below hBa2 (Nat.le_refl _))).mono ?_; rintro e w5 ⟨rfl, hb5⟩
                     have hBn := hBa2.trans (hb5.mono hBa2.size)))
              all_goals
                go_wp2_with fail
                go_meet
                exact ⟨rfl, hbr4.trans (hBn.mono hbr4.size)⟩
            case rest =>
              clear cK z0 z1 z2 d4 rz4 Z4 LK hbr4 c2
              obtain ⟨rfl, hbr5⟩ := hcut
              obtain ⟨w5, rfl⟩ : ∃ x, x = wc := ⟨_, rfl⟩
              have hbw5 := hbl.trans (hbr5.mono hbl.size)
              have Ba5 := hid (hBaH.out.below hbr5)
              have hs5 := hbw5.size
              go_wp2_with (at_builtin; refine appendP (wr := w5) (pa := none) _ _ Ba5.out.1 (by omega) hs5 rfl rfl rfl rfl rfl ?_; intro g3 cap3 w6 o3 hg3 hn3 hl3; have R6 := hid (rdP_nil (Gs := x :: r) o3 (fun y hy => ((Ba5.out.2.2.2 y hy).keep (fun j hj hR => hg3.block j hj (fun e => hR (.inl e.symm))) hg3.size).1)); have hb7 := hbw5.trans (below_grown hg3 hs5 (fun k hk => (World.ownsRow.lt Ba5.out.1 k hk).1)); clear o3 hg3)
              have AN := hid (bl_all R6.out HE2.out (by simp; omega))
              have hz := allE_nil x.e (r.map (fun y => some y.e))
              generalize allE x.e (r.map (fun y => some y.e) ++ [none]) = st2 at *
              refine AN.out.mono ?_
              rintro e w7 ⟨u2, rfl, pu2, -, -, -, hb8⟩
              obtain ⟨pa2, rfl⟩ := pu2.ptr
              have hb9 := hb7.trans (hb8.mono hb7.size)
              have hzz : (st2.1 != 0) = true := by simpa using hz
              clear R6 hb8 hb7 AN pu2 hz
              go_wp2_with fail
              refine (A.out _).mono ?_
              rintro e w8 ⟨rfl, hb10⟩
              go_wp2_with fail
              go_ret
              exact ⟨rfl, hb9.trans (hb10.mono hb9.size)⟩
theorem BlendAll_walk (v : Value) (xs : List SideE) (w : World) (hS : RdSides w v xs) :
    Calls Tryz.prog 3 #[v] w fun e w' => e = .returned (.bool true) ∧ Below w.heap.size w w' := ba_walk v xs w hS
end Go.Proofs.YtbbkfjbaocpknaaGreat
