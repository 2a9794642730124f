/- The walk of the reference's All. -/
import Derived.Test.YtbbkfjbaocpknaaGreatBa2
import Derived.Deep.RegionWith
import Derived.Laws.ResultCell
import Derived.Laws.Rows
namespace Go.Proofs.YtbbkfjbaocpknaaGreat
open Go.RowKit Nl

theorem rd_off_zero {W : World} {v : Value} {F : List Nd} {g : Nat} {T : TypeId} (h : RdN W v F) (X : Blk W g #[.int .i64 0, .int .i64 0, .slice none 0 0] T) (hp : ∀ x ∈ F, x.1 ≠ 0) : NotIn v F g := by
  cases F with
  | nil => exact .inl rfl
  | cons x r =>
    refine .inr (fun i hi e => ?_)
    subst e
    rcases h with ⟨_, h2⟩ | ⟨_, _, _, h2⟩ | ⟨g', off, cap, rfl, hg, hc, hr⟩
    · cases h2
    · cases h2
    · have hgi : g' = i := by simpa [Value.ownBlock] using hi
      subst hgi
      obtain ⟨c0, c1⟩ := hr 0 (by simp)
      simp only [Nat.zero_mul, Nat.add_zero] at c0 c1
      have hx := hp x (by simp)
      rw [X.cell] at c0 c1
      match off, c0, c1 with
      | 0, c0, _ => simp at c0; exact hx c0.symm
      | 1, _, c1 => simp at c1
      | 2, c0, _ => simp at c0
      | n + 3, c0, _ => simp at c0
theorem blkA3 {X w9 : World} {arr : Array Value} {T : TypeId} (hb : Below (X.alloc (.cells arr T)).heap.size (X.alloc (.cells arr T)) w9) : Blk w9 X.heap.size arr T := (Blk.new X arr T).below hb (Nat.le_refl _)
theorem blkD3 {X w9 : World} {arr : Array Value} {T : TypeId} (hb : Below (X.alloc (.cells arr T)).drew.heap.size (X.alloc (.cells arr T)).drew w9) : Blk w9 X.heap.size arr T := ((Blk.new X arr T).drewN 1).below hb (Nat.le_refl _)
/-- Behind the first region: the box of what is merged so far. -/
def R3End (w1 : World) (k l : Int) (F : List Nd) (s4 s5 : Value) (wx : World) : Prop :=
  ∃ b4 v, s4 = .pointer (some ⟨b4, 0, none⟩) ∧ s5 = .int .i64 0 ∧ w1.heap.size ≤ b4 ∧ Blk wx b4 #[.int .i64 k, .int .i64 l, v] 37 ∧ RdN wx v F ∧ NotIn v F b4 ∧ Below w1.heap.size w1 wx
/-- The box of what is merged so far. -/
def BoxR (_x : DgE) (_r : List DgE) (b4 : Nat) (W : World) (st : Int × Option DgE) (n : Nat) : Prop :=
  ∃ (k' l' : Int) (v : Value), Blk W b4 #[.int .i64 k', .int .i64 l', v] 37 ∧ (∃ p m c, v = .slice p m c) ∧ (st.1 = 0 → ∃ d, st.2 = some d ∧ k' = d.k ∧ l' = d.l ∧ RdN W v d.F ∧ NotIn v d.F b4 ∧ Dg d.l d.k d.F ∧ d.F.length ≤ n)
def RAllRel (x x0 : DgE) (r : List DgE) (b4 : Nat) (w1 : World) (gn : Nat) (e i : Value) (wr : World) : Prop :=
  ∃ (j : Nat) (st : Int × Option DgE), e = .int .i64 st.1 ∧ i = .int .i64 ((j : Int) + 1) ∧ j ≤ r.length ∧ r.length - j ≤ gn ∧ BoxR x r b4 wr st (60 * (j + 1)) ∧ Hid (foldE (0, some x0) (r.map some) = foldE st ((r.drop j).map some)) ∧ Below w1.heap.size w1 wr ∧ In64 st.1
/-- What comes of the reference's Merge, in one form. -/
def RMgAny (st : Int × Option DgE) (n : Nat) (W : World) (e : Ending) (W' : World) : Prop :=
  ∃ (k' l' : Int) (p : Option Addr) (m c : Nat), e = .returned (.tuple #[.agg #[.int .i64 k', .int .i64 l', .slice p m c], .int .i64 st.1]) ∧ Below W.heap.size W W' ∧ (st.1 = 0 → ∃ d, st.2 = some d ∧ k' = d.k ∧ l' = d.l ∧ RdN W' (.slice p m c) d.F ∧ (∀ j, (Value.slice p m c).ownBlock = some j → W.heap.size ≤ j) ∧ Dg d.l d.k d.F ∧ d.F.length ≤ n)
theorem r_mg_any {W : World} {a b : DgE} {va vb : Value} (ha : RdN W va a.F) (hb : RdN W vb b.F) (da : Dg a.l a.k a.F) (db : Dg b.l b.k b.F) (hl : a.F.length + b.F.length ≤ 1999) :
    Calls Tryz.prog 42 #[.agg #[.int .i64 a.k, .int .i64 a.l, va], .agg #[.int .i64 b.k, .int .i64 b.l, vb]] W (RMgAny (mgE a (some b)) (a.F.length + b.F.length) W) := by
  by_cases hc : bl_code a.l b.l (sumL a.F) (sumL b.F) = 0
  · obtain ⟨hl2, hs⟩ := code0 hc
    have em : mgE a (some b) = (0, some ⟨a.kind, a.l, min a.k b.k, mergeL a.l (min a.k b.k) a.F b.F⟩) := by simp only [mgE]; rw [if_pos hc]
    rw [em]
    have db2 : Dg a.l b.k b.F := by rw [hl2]; exact db
    have sp := merge_spec da db2 (k := min a.k b.k) (by have := da.k1; have := db2.k1; omega) (by omega) (by omega) hs
    have H := r_bmergeF ha hb da db2 hl hs
    rw [← hl2]
    refine H.mono ?_
    rintro e w' ⟨v, rfl, hv, hf, hB⟩
    obtain ⟨p, c, rfl⟩ := hv.val
    exact ⟨_, _, _, _, _, rfl, hB, fun _ => ⟨_, rfl, rfl, rfl, hv, hf, sp.1, sp.2.2.2.1⟩⟩
  · have em : mgE a (some b) = (bl_code a.l b.l (sumL a.F) (sumL b.F), none) := by simp only [mgE]; rw [if_neg hc]
    rw [em]
    refine (r_bmerge_no ha hb (by omega) (by omega) da.roll db.roll hc).mono ?_
    rintro e w' ⟨rfl, hB⟩
    exact ⟨_, _, _, _, _, rfl, hB, fun h => absurd h hc⟩
theorem Nl.foldE_err (st : Int × Option DgE) (es : List (Option DgE)) (h : st.1 ≠ 0) : foldE st es = st := by
  induction es with
  | nil => rfl
  | cons e r ih =>
    show foldE (stepE st e) r = st
    have : stepE st e = st := by unfold stepE; rw [if_neg h]
    rw [this, ih]
theorem ret_dig {R : Ending → World → Prop} {tmps : Array Value} {W : World} {g : Nat} {cs : Array Value} {u : Value} (Y : Blk W g cs 37) (hc : cs.size = 3) (h2 : tmps.getD 2 undef = .pointer (some ⟨g, 0, none⟩)) (h3 : tmps.getD 3 undef = u) (hR : R (.returned (.tuple #[.agg cs, u])) W) :
    bodyPost Tryz.prog Tryz.f11 R .ret ⟨tmps, []⟩ W := by
  refine bodyPost_ret (v := .tuple #[.agg cs, u]) ?_ rfl hR
  rw [results_cell_tmp rfl, h2, h3]
  have hrow := run_loadVar_row (P := Tryz.prog) W g 37 37 cs (0, 0) _ Y Tryz.underlying37 rfl (by rw [hc]; kernel_rfl)
  simp [asAddr, Result.andThen, hrow]
/-- A slice of the document's digests. -/
def RdW (W : World) (v : Value) (es : List DgE) : Prop :=
  ∃ p cap, v = .slice p es.length cap ∧ ∀ k, (h : k < es.length) → ∃ g off u, p = some ⟨g, off, none⟩ ∧ g < W.heap.size ∧ W.cell? ⟨g, off + k * 3, none⟩ = some (.int .i64 es[k].k) ∧ W.cell? ⟨g, off + k * 3 + 1, none⟩ = some (.int .i64 es[k].l) ∧ W.cell? ⟨g, off + k * 3 + 2, none⟩ = some u ∧ RdN W u es[k].F
/-- What comes of the reference's All. -/
def RAllPost (st : Int × Option DgE) (W : World) (e : Ending) (W' : World) : Prop :=
  Below W.heap.size W W' ∧ ((st.1 ≠ 0 ∧ e = .returned (.tuple #[.agg #[.int .i64 0, .int .i64 0, .slice none 0 0], .int .i64 st.1])) ∨ ∃ d v, st = (0, some d) ∧ e = .returned (.tuple #[.agg #[.int .i64 d.k, .int .i64 d.l, v], .int .i64 0]) ∧ RdN W' v d.F ∧ Dg d.l d.k d.F)
set_option maxRecDepth 100000 in
set_option maxHeartbeats 4000000 in
theorem r_all {W : World} {v : Value} {x : DgE} {r : List DgE} (h : RdW W v (x :: r)) (hI : ∀ e ∈ x :: r, Dg e.l e.k e.F ∧ e.F.length ≤ 60) (hr : r.length ≤ 20) :
    Calls Tryz.prog 11 #[v] W (RAllPost (allE x (r.map some)) W) := by
  have HR := hid h
  obtain ⟨p, cap, rfl, hrd⟩ := h
  obtain ⟨g, off, u, rfl, hg, c0, c1, c2, hu⟩ := hrd 0 (by simp)
  simp only [List.getElem_cons_zero, Nat.zero_mul, Nat.add_zero] at c0 c1 c2 hu
  obtain ⟨dx, hx⟩ := hI x (by simp)
  obtain ⟨pu, cu, rfl⟩ := hu.val
  have hba : Below W.heap.size W (W.alloc (.cells #[.int .i64 0, .int .i64 0, .slice none 0 0] 37)) := (Below.refl _ _).alloc (Nat.le_refl _) _
  have X := Blk.new W #[.int .i64 0, .int .i64 0, .slice none 0 0] 37
  have r1 := hu.below hba (Nat.le_refl _)
  have RL := hid (fun W (z : RdN W (.slice pu x.F.length cu) x.F) => r_blower x.k z (by omega) dx.roll dx.k1 (Int.le_refl _) ⟨by have := dx.k1; omega, by have := dx.k2; omega⟩)
  have q0 : (W.alloc (.cells #[.int .i64 0, .int .i64 0, .slice none 0 0] 37)).cell? ⟨g, off, none⟩ = some (.int .i64 x.k) := by rw [World.cell?_of_block (w := W) (a := ⟨g, off, none⟩) (hba.block g hg)]; exact c0
  have q1 : (W.alloc (.cells #[.int .i64 0, .int .i64 0, .slice none 0 0] 37)).cell? ⟨g, off + 1, none⟩ = some (.int .i64 x.l) := by rw [World.cell?_of_block (w := W) (a := ⟨g, off + 1, none⟩) (hba.block g hg)]; exact c1
  have q2 : (W.alloc (.cells #[.int .i64 0, .int .i64 0, .slice none 0 0] 37)).cell? ⟨g, off + 2, none⟩ = some (.slice pu x.F.length cu) := by rw [World.cell?_of_block (w := W) (a := ⟨g, off + 2, none⟩) (hba.block g hg)]; exact c2
  have hz0 : ((r.length : Int) + 1 == 0) = false := by simp; omega
  have LS := hid (low_spec dx dx.k1 (Int.le_refl _))
  have hDX := hid dx
  clear hrd hu c0 c1 c2 dx
  go_enter Tryz.func11, Tryz.ntmps11
  go_upto_region 3 with fail
  generalize (W.alloc (.cells #[.int .i64 0, .int .i64 0, .slice none 0 0] 37)) = w1 at *
  go_cut [4, 5] (fun s4 s5 wx => R3End w1 x.k x.l (lowL x.l x.k x.F) s4 s5 wx)
  case first =>
    have hg1 := hba.size
    have FX := hid (fun W' (hb : Below w1.heap.size w1 W') => show W'.cell? ⟨g, off, none⟩ = some (.int .i64 x.k) ∧ W'.cell? ⟨g, off + 1, none⟩ = some (.int .i64 x.l) ∧ W'.cell? ⟨g, off + 2, none⟩ = some (.slice pu x.F.length cu) ∧ Below w1.heap.size w1 W' from
      ⟨by rw [World.cell?_of_block (w := w1) (a := ⟨g, off, none⟩) (hb.block g (by omega))]; exact q0, by rw [World.cell?_of_block (w := w1) (a := ⟨g, off + 1, none⟩) (hb.block g (by omega))]; exact q1, by rw [World.cell?_of_block (w := w1) (a := ⟨g, off + 2, none⟩) (hb.block g (by omega))]; exact q2, hb⟩)
    have hB1 : Below w1.heap.size w1 (w1.drewN 1) := below_drewN (Below.refl w1.heap.size w1) 1
    have hpos : ∀ y ∈ lowL x.l x.k x.F, y.1 ≠ 0 := fun y hy => by have := (LS.out.1.roll.strict.2 y hy).1; omega
    have hposh := hid hpos
    clear hpos
    generalize lowL x.l x.k x.F = LF at *
    go_region_held3 (fun w' => w'.cell? ⟨g, off, none⟩ = some (.int .i64 x.k) ∧ w'.cell? ⟨g, off + 1, none⟩ = some (.int .i64 x.l) ∧ w'.cell? ⟨g, off + 2, none⟩ = some (.slice pu x.F.length cu) ∧ Below w1.heap.size w1 w')
      (first
        | exact FX.out _ hB1
        | exact FX.out _ hBn
        | exact FX.out _ (hB1.alloc (Nat.le_refl _) _)
        | exact FX.out _ (hBn.alloc hBn.size _)
        | exact FX.out _ (((hBn.setCell (p := ⟨w1.heap.size, 0, none⟩) (Nat.le_refl _) _).setCell (p := ⟨w1.heap.size, 1, none⟩) (Nat.le_refl _) _).setCell (p := ⟨w1.heap.size, 2, none⟩) (Nat.le_refl _) _)
        | exact FX.out _ (((hBn.setCell (p := ⟨w5.heap.size, 0, none⟩) hw5s _).setCell (p := ⟨w5.heap.size, 1, none⟩) hw5s _).setCell (p := ⟨w5.heap.size, 2, none⟩) hw5s _))
      (first
        | (go_at_call 41; have hBa := (‹_ ∧ _ ∧ _ ∧ Below w1.heap.size w1 _›).2.2.2; refine (RL.out _ (r1.below hBa (Nat.le_refl _))).mono ?_; rintro e w5 ⟨v5, rfl, o5, hb5⟩
           have hBn := hBa.trans (hb5.mono hBa.size)
           have hw5s : w1.heap.size ≤ w5.heap.size := hBn.size
           obtain ⟨p5, c5, rfl⟩ := o5.val
           try have KB := blkA3 hb5
           try have KB := blkD3 hb5
           try have kc0 : World.cell? w5 ⟨_, 0, none⟩ = some (.int .i64 0) := KB.cell 0
           try have kc1 : World.cell? w5 ⟨_, 1, none⟩ = some (.int .i64 0) := KB.cell 1
           try have kc2 : World.cell? w5 ⟨_, 2, none⟩ = some (.slice none 0 0) := KB.cell 2
           try have kf0 := KB.free 0
           try have kf1 := KB.free 1
           try have kf2 := KB.free 2
           try have kl := KB.lt))
    all_goals
      clear FX
      go_wp2_with fail
      go_meet
      first
        | exact ⟨w5.heap.size, _, rfl, rfl, hw5s, Blk.new _ _ _, o5.alloc _, NotIn.of_lt o5 (Nat.le_refl _), hBn.alloc hBn.size _⟩
        | exact ⟨w1.heap.size, _, rfl, rfl, Nat.le_refl _, ((KB.set 0 _).set 1 _).set 2 _, ((o5.set_off (rd_off_zero o5 KB hposh.out) _ _).set_off (rd_off_zero o5 KB hposh.out) _ _).set_off (rd_off_zero o5 KB hposh.out) _ _, rd_off_zero o5 KB hposh.out, ((hBn.setCell (p := ⟨w1.heap.size, 0, none⟩) (Nat.le_refl _) _).setCell (p := ⟨w1.heap.size, 1, none⟩) (Nat.le_refl _) _).setCell (p := ⟨w1.heap.size, 2, none⟩) (Nat.le_refl _) _⟩
  case rest =>
    obtain ⟨b4, v4, rfl, rfl, hb4, B4, o4, n4, hb2⟩ := hcut
    obtain ⟨w2, rfl⟩ : ∃ x, x = wc := ⟨_, rfl⟩
    have hxl := X.lt
    obtain ⟨p4, c4, rfl⟩ := o4.val
    have r2 := r1.below hb2 (Nat.le_refl _)
    have nu : NotIn (.slice pu x.F.length cu) x.F b4 := NotIn.of_lt r1 hb4
    have e0 : w2.cell? ⟨g, off, none⟩ = some (.int .i64 x.k) := by rw [World.cell?_of_block (w := w1) (a := ⟨g, off, none⟩) (hb2.block g (by omega))]; exact q0
    have e1 : w2.cell? ⟨g, off + 1, none⟩ = some (.int .i64 x.l) := by rw [World.cell?_of_block (w := w1) (a := ⟨g, off + 1, none⟩) (hb2.block g (by omega))]; exact q1
    have e2 : w2.cell? ⟨g, off + 2, none⟩ = some (.slice pu x.F.length cu) := by rw [World.cell?_of_block (w := w1) (a := ⟨g, off + 2, none⟩) (hb2.block g (by omega))]; exact q2
    have k0 : w2.cell? ⟨b4, 0, none⟩ = some (.int .i64 x.k) := B4.cell 0
    have k1 : w2.cell? ⟨b4, 1, none⟩ = some (.int .i64 x.l) := B4.cell 1
    have k2 : w2.cell? ⟨b4, 2, none⟩ = some (.slice p4 (lowL x.l x.k x.F).length c4) := B4.cell 2
    have f0 := B4.free 0
    have f1 := B4.free 1
    have f2 := B4.free 2
    have gne : g ≠ b4 := by omega
    clear q0 q1 q2 r1 RL
    go_upto_if 24 with fail
    go_cut [24] (fun _ wx => BoxR x r b4 wx (0, some (if r = [] then ⟨x.kind, x.l, x.k, lowL x.l x.k x.F⟩ else x)) 60 ∧ Below w1.heap.size w1 wx)
    case first =>
      by_cases h0 : r = []
      · have P : Hid (BoxR x r b4 w2 (0, some (if r = [] then ⟨x.kind, x.l, x.k, lowL x.l x.k x.F⟩ else x)) 60 ∧ Below w1.heap.size w1 w2) := by
          rw [if_pos h0]
          exact ⟨⟨_, _, _, B4, ⟨_, _, _, rfl⟩, fun _ => ⟨_, rfl, rfl, rfl, o4, n4, LS.out.1, by have := LS.out.2.2.1; show (lowL x.l x.k x.F).length ≤ 60; omega⟩⟩, hb2⟩
        have hl0 : r.length = 0 := by rw [h0]; rfl
        generalize lowL x.l x.k x.F = LF at *
        clear B4 o4 n4 h0
        go_wp2_with fail
        go_meet
        exact P.out
      · have hr1 : 1 ≤ r.length := by
          rcases Nat.eq_zero_or_pos r.length with e | e
          · exact absurd (List.eq_nil_of_length_eq_zero e) h0
          · exact e
        have z1 : decide ((1 : Int) < (r.length : Int) + 1) = true := decide_eq_true (by omega)
        have P : Hid (BoxR x r b4 (((w2.setCell ⟨b4, 0, none⟩ (.int .i64 x.k)).setCell ⟨b4, 1, none⟩ (.int .i64 x.l)).setCell ⟨b4, 2, none⟩ (.slice pu x.F.length cu)) (0, some (if r = [] then ⟨x.kind, x.l, x.k, lowL x.l x.k x.F⟩ else x)) 60 ∧ Below w1.heap.size w1 (((w2.setCell ⟨b4, 0, none⟩ (.int .i64 x.k)).setCell ⟨b4, 1, none⟩ (.int .i64 x.l)).setCell ⟨b4, 2, none⟩ (.slice pu x.F.length cu))) := by
          rw [if_neg h0]
          exact ⟨⟨_, _, _, ((B4.set 0 _).set 1 _).set 2 _, ⟨_, _, _, rfl⟩, fun _ => ⟨_, rfl, rfl, rfl, ((r2.set_off nu _ _).set_off nu _ _).set_off nu _ _, nu, hDX.out, hx⟩⟩, ((hb2.setCell (p := ⟨b4, 0, none⟩) hb4 _).setCell (p := ⟨b4, 1, none⟩) hb4 _).setCell (p := ⟨b4, 2, none⟩) hb4 _⟩
        generalize lowL x.l x.k x.F = LF at *
        clear B4 o4 n4 h0
        go_wp2_with fail
        go_meet
        exact P.out
    case rest =>
      clear e0 e1 e2 k0 k1 k2 f0 f1 f2 B4 o4 n4 r2 nu hb2
      obtain ⟨BX, hb2⟩ := hcut
      obtain ⟨w3, rfl⟩ : ∃ x, x = wc := ⟨_, rfl⟩
      have HA : Hid (allE x (r.map some) = foldE (0, some (if r = [] then ⟨x.kind, x.l, x.k, lowL x.l x.k x.F⟩ else x)) (r.map some)) := by
        show _ = _
        by_cases h0 : r = []
        · rw [if_pos h0, h0]; simp [allE, foldE]
        · rw [if_neg h0]; simp [allE, h0]
      generalize (if r = [] then (⟨x.kind, x.l, x.k, lowL x.l x.k x.F⟩ : DgE) else x) = x0 at *
      clear LS hDX
      have R0 : Hid (RAllRel x x0 r b4 w1 r.length (.int .i64 0) (.int .i64 1) w3) := ⟨0, (0, some x0), rfl, rfl, Nat.zero_le _, Nat.le_refl _, BX, rfl, hb2, ⟨by show (-9223372036854775808 : Int) ≤ 0; decide, by show (0 : Int) ≤ 9223372036854775807; decide⟩⟩
      clear BX hb2
      go_wp2_with fail
      go_loopg [5, 6] r.length (fun gn e i wr => RAllRel x x0 r b4 w1 gn e i wr)
      case atStart => exact R0.out
      case round =>
        clear R0
        obtain ⟨j, st, rfl, rfl, hj, hgn, BX, hF, hbl, hbd⟩ := hrel
        have hbw := hba.trans (hbl.mono hba.size)
        obtain ⟨k', l', v', B4, ⟨p', m', c', rfl⟩, hst⟩ := BX
        have hxl2 := X.lt
        have XR := X.below hbl (Nat.le_refl _)
        have hb4l := B4.lt
        obtain ⟨s1, s2⟩ := st
        simp only at hst hbd
        have k0 : wr.cell? ⟨b4, 0, none⟩ = some (.int .i64 k') := B4.cell 0
        have k1 : wr.cell? ⟨b4, 1, none⟩ = some (.int .i64 l') := B4.cell 1
        have k2 : wr.cell? ⟨b4, 2, none⟩ = some (.slice p' m' c') := B4.cell 2
        by_cases hgo : j < r.length ∧ s1 = 0
        · obtain ⟨hlt, rfl⟩ := hgo
          obtain ⟨d, rfl, rfl, rfl, hrd, hnt, hdg, hdl⟩ := hst rfl
          obtain ⟨p9, cap9, hv9, hr9⟩ := HR.out
          obtain ⟨g9, off9, u9', hp9, -, c0, c1, c2, hu9⟩ := hr9 (j + 1) (by simp; omega)
          simp only [Value.slice.injEq] at hv9
          obtain ⟨rfl, -, -⟩ := hv9
          simp only [Option.some.injEq, Addr.mk.injEq, and_true] at hp9
          obtain ⟨rfl, rfl⟩ := hp9
          simp only [List.getElem_cons_succ] at c0 c1 c2 hu9
          obtain ⟨hdy, hyl⟩ := hI r[j] (by simp)
          have es : stepE (0, some d) (some r[j]) = mgE d (some r[j]) := by simp [stepE]
          have hF2 : Hid (foldE (0, some x0) (r.map some) = foldE (mgE d (some r[j])) ((r.drop (j + 1)).map some)) := by
            show _ = _
            rw [hF.out, List.drop_eq_getElem_cons hlt, List.map_cons, ← es]
            rfl
          have hbd2 := step_bd (0, some d) (some r[j]) hbd
          rw [es] at hbd2
          obtain ⟨pu9, cu9, hu9v⟩ := hu9.val
          subst hu9v
          have ru := hu9.below (hba.trans (hbl.mono hba.size)) (Nat.le_refl _)
          have MG := hid (fun W' (q : Below wr.heap.size wr W') => r_mg_any (hrd.below q (Nat.le_refl _)) (ru.below q (Nat.le_refl _)) hdg hdy (by omega))
          have y0 : wr.cell? ⟨g, off + (j + 1) * 3, none⟩ = some (.int .i64 r[j].k) := by rw [World.cell?_of_block (w := W) (a := ⟨g, off + (j + 1) * 3, none⟩) (hbw.block g hg)]; exact c0
          have y1 : wr.cell? ⟨g, off + (j + 1) * 3 + 1, none⟩ = some (.int .i64 r[j].l) := by rw [World.cell?_of_block (w := W) (a := ⟨g, off + (j + 1) * 3 + 1, none⟩) (hbw.block g hg)]; exact c1
          have y2 : wr.cell? ⟨g, off + (j + 1) * 3 + 2, none⟩ = some (.slice pu9 r[j].F.length cu9) := by rw [World.cell?_of_block (w := W) (a := ⟨g, off + (j + 1) * 3 + 2, none⟩) (hbw.block g hg)]; exact c2
          have hgl : g < wr.heap.size := Nat.lt_of_lt_of_le hg hbw.size
          have zl : decide ((j : Int) + 1 < (r.length : Int) + 1) = true := decide_eq_true (by omega)
          generalize mgE d (some r[j]) = st' at *
          generalize r[j] = y at *
          have hlen2 : d.F.length + y.F.length ≤ 60 * (j + 1 + 1) := by omega
          clear es hu9 c0 c1 c2 hr9 hF hrd ru hst hI
          go_upto_region 9 with fail
          have hix : ¬ ((j : Int) + 1 < 0) := by omega
          have hix2 : (j : Int) + 1 < (r.length : Int) + 1 := by omega
          have hto : ((j : Int) + 1).toNat = j + 1 := by omega
          go_region_with
            (first
              | (go_at_call 42; refine (MG.out _ (below_drewN (Below.refl _ _) 1)).mono ?_; rintro e w5 ⟨k5, l5, p5, m5, c5, rfl, hb5, hm5⟩
                 have hBa : Below wr.heap.size wr w5 := (below_drewN (Below.refl wr.heap.size wr) 1).trans hb5
                 have hBn := hbl.trans (hBa.mono hbl.size)
                 have B5 := B4.below hBa (Nat.le_refl _)
                 have kf0 := B5.free 0
                 have kf1 := B5.free 1
                 have kf2 := B5.free 2
                 have kc0 : World.cell? w5 ⟨b4, 0, none⟩ = some (.int .i64 d.k) := B5.cell 0
                 have kc1 : World.cell? w5 ⟨b4, 1, none⟩ = some (.int .i64 d.l) := B5.cell 1
                 have kc2 : World.cell? w5 ⟨b4, 2, none⟩ = some (.slice p' m' c') := B5.cell 2))
          all_goals
            clear MG
            go_wp2_with fail
            go_roundg (r.length - (j + 1))
            case rel => exact ⟨j + 1, st', rfl, by go_num, by omega, Nat.le_refl _, ⟨_, _, _, ((B5.set 0 _).set 1 _).set 2 _, ⟨_, _, _, rfl⟩, fun hz => by
              obtain ⟨d', q1, q2, q3, q4, q5, q6, q7⟩ := hm5 hz
              have nn : NotIn (.slice p5 m5 c5) d'.F b4 := .inr (fun i hi e => by have := q5 i hi; have h5 : (wr.drewN 1).heap.size = wr.heap.size := rfl; have h6 : wr.drew.heap.size = wr.heap.size := rfl; omega)
              exact ⟨d', q1, q2, q3, ((q4.set_off nn _ _).set_off nn _ _).set_off nn _ _, nn, q6, by omega⟩⟩, hF2, ((hBn.setCell (p := ⟨b4, 0, none⟩) hb4 _).setCell (p := ⟨b4, 1, none⟩) hb4 _).setCell (p := ⟨b4, 2, none⟩) hb4 _, hbd2⟩
            case measure => omega
        · have hend : Hid (foldE (0, some x0) (r.map some) = (s1, s2)) := by
            show _ = _
            rw [hF.out]
            by_cases hj2 : j < r.length
            · exact foldE_err _ _ (fun h => hgo ⟨hj2, h⟩)
            · rw [List.drop_of_length_le (by omega)]; rfl
          have z0 : wr.cell? ⟨W.heap.size, 0, none⟩ = some (.int .i64 0) := XR.cell 0
          have z1 : wr.cell? ⟨W.heap.size, 1, none⟩ = some (.int .i64 0) := XR.cell 1
          have z2 : wr.cell? ⟨W.heap.size, 2, none⟩ = some (.slice none 0 0) := XR.cell 2
          have g0 := XR.free 0
          have g1 := XR.free 1
          have g2 := XR.free 2
          have wne : W.heap.size ≠ b4 := by omega
          by_cases hs : s1 = 0
          · subst hs
            obtain ⟨d, hd2, rfl, rfl, hrd, -, hdg, -⟩ := hst rfl
            have hjl : ¬ j < r.length := fun h => hgo ⟨h, rfl⟩
            obtain rfl : j = r.length := by omega
            have nn := rd_off_zero hrd XR (fun y hy => by have := (hdg.roll.strict.2 y hy).1; omega)
            have P : Hid (Blk (((wr.setCell ⟨W.heap.size, 0, none⟩ (.int .i64 d.k)).setCell ⟨W.heap.size, 1, none⟩ (.int .i64 d.l)).setCell ⟨W.heap.size, 2, none⟩ (.slice p' m' c')) W.heap.size #[.int .i64 d.k, .int .i64 d.l, .slice p' m' c'] 37 ∧ RAllPost (allE x (r.map some)) W (.returned (.tuple #[.agg #[.int .i64 d.k, .int .i64 d.l, .slice p' m' c'], .int .i64 0])) (((wr.setCell ⟨W.heap.size, 0, none⟩ (.int .i64 d.k)).setCell ⟨W.heap.size, 1, none⟩ (.int .i64 d.l)).setCell ⟨W.heap.size, 2, none⟩ (.slice p' m' c'))) :=
              ⟨((XR.set 0 _).set 1 _).set 2 _, ((hbw.setCell (p := ⟨W.heap.size, 0, none⟩) (Nat.le_refl _) _).setCell (p := ⟨W.heap.size, 1, none⟩) (Nat.le_refl _) _).setCell (p := ⟨W.heap.size, 2, none⟩) (Nat.le_refl _) _, .inr ⟨d, _, by rw [HA.out, hend.out, hd2], rfl, ((hrd.set_off nn _ _).set_off nn _ _).set_off nn _ _, hdg⟩⟩
            clear hst hrd nn hgo hF hjl B4 XR X hend
            go_wp2_with fail
            refine ret_dig P.out.1 ?_ ?_ ?_ P.out.2
            · rfl
            · rfl
            · rfl
          · have hs1 : (s1 == 0) = false := by simpa using hs
            have hs2 : (s1 != 0) = true := by simpa using hs
            have P : Hid (Blk (((wr.setCell ⟨W.heap.size, 0, none⟩ (.int .i64 0)).setCell ⟨W.heap.size, 1, none⟩ (.int .i64 0)).setCell ⟨W.heap.size, 2, none⟩ (.slice none 0 0)) W.heap.size #[.int .i64 0, .int .i64 0, .slice none 0 0] 37 ∧ RAllPost (allE x (r.map some)) W (.returned (.tuple #[.agg #[.int .i64 0, .int .i64 0, .slice none 0 0], .int .i64 s1])) (((wr.setCell ⟨W.heap.size, 0, none⟩ (.int .i64 0)).setCell ⟨W.heap.size, 1, none⟩ (.int .i64 0)).setCell ⟨W.heap.size, 2, none⟩ (.slice none 0 0))) :=
              ⟨((XR.set 0 _).set 1 _).set 2 _, ((hbw.setCell (p := ⟨W.heap.size, 0, none⟩) (Nat.le_refl _) _).setCell (p := ⟨W.heap.size, 1, none⟩) (Nat.le_refl _) _).setCell (p := ⟨W.heap.size, 2, none⟩) (Nat.le_refl _) _, .inl ⟨by rw [HA.out, hend.out]; exact hs, by rw [HA.out, hend.out]⟩⟩
            have P2 := P
            rcases (show j = r.length ∨ j < r.length by omega) with rfl | hjl
            all_goals
              clear hst hgo hF B4 XR X hend P2
              go_wp2_with fail
              refine ret_dig P.out.1 ?_ ?_ ?_ P.out.2
              · rfl
              · rfl
              · rfl
end Go.Proofs.YtbbkfjbaocpknaaGreat
