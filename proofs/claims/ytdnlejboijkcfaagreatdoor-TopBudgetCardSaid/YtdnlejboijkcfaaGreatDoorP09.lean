/- Texts laid together. -/
import Derived.Test.YtdnlejboijkcfaaGreatDoorP08
import Derived.Test.YtdnlejboijkcfaaGreatDoorP07
/- The walk of fold.Parents. -/
namespace Go.Proofs.YtdnlejboijkcfaaGreatDoor
set_option maxHeartbeats 8000000
set_option maxRecDepth 100000
open Go.RowKit Go.Maps Nl
attribute [local go_sem] Oper.semAt_some
namespace Nl
theorem parents_agenda {zs : List (Int × Int)} (h : ∀ x ∈ zs, 1 ≤ x.1) : agendaL (zs.map (fun x => x.1 / 2)) = parentsL zs := by
  unfold agendaL parentsL
  rw [List.foldl_map]
  have aux : ∀ (zs : List (Int × Int)) (a : List Int), (∀ x ∈ zs, 1 ≤ x.1) → zs.foldl (fun a x => putL a (x.1 / 2)) a = zs.foldl (fun a x => if 1 < x.1 then withL a (x.1 / 2) else a) a := by
    intro zs
    induction zs with
    | nil => intro a _; rfl
    | cons x r ih =>
      intro a h
      have hx := h x (List.mem_cons_self ..)
      rw [List.foldl_cons, List.foldl_cons, ih _ (fun y hy => h y (List.mem_cons_of_mem _ hy))]
      congr 1
      unfold putL
      by_cases h1 : 1 < x.1
      · rw [if_pos h1, if_pos (by omega)]
      · rw [if_neg h1, if_neg (by omega)]
  exact aux zs [] h
end Nl
theorem appendI_in {F : Fence} {n : Nat} {ops : Array Oper} {rest : List Oper} {o : Oper} {a : Act} {Q : Exit → Act → World → Prop} {w wr : World} {v : Value} {xs : List Int} {B T : Nat} {c : Int} (s x : Operand)
    (hown : OwnI wr B v xs) (hlen : xs.length < 16777216) (hBr : B ≤ wr.heap.size)
    (hw : w = wr.alloc (.cells #[.int .i64 c] T))
    (hgd : o.guard = none) (ho : o.op = .call { callee := .builtin .append, args := #[s, x], argTypes := #[22, 22] })
    (hv : a.eval s = v) (hx : a.eval x = .slice (some ⟨wr.heap.size, 0, none⟩) 1 1)
    (h : ∀ v' w', OwnI w' B v' (xs ++ [c]) → wr.grownBy w' v.ownBlock → wpListIn F n Tryz.prog ops Q rest (a.put o.dst v') w') :
    wpListIn F n Tryz.prog ops Q (o :: rest) a w := by
  obtain ⟨i0, hi, hz0, hz1, hz2⟩ := info_parts Tryz.infoI64
  subst hw
  refine wpListIn_append_own _ hgd s x 22 ho B 3 i0 (.int .i64 0) 1 8 Tryz.underlying22 hi hz0 hz1 hz2 rfl (by decide) v xs.length (jcells xs) hv (World.ownsRow.alloc hown _) ⟨wr.heap.size, 0, none⟩ 1 1 (jcells [c]) hx rfl ?_ (jcells_one _) ?_ ?_ ?_ ?_
  · intro j u hj
    cases j with
    | zero => simp [jcells] at hj; subst hj; simp [Addr.add]
    | succ j => simp [jcells] at hj
  · unfold maxLen; omega
  · omega
  · simp; omega
  · intro v' w' h1 h2 _
    refine h v' w' ?_ (grownBy_of_alloc h2)
    unfold OwnI
    simpa [jcells] using h1
theorem agl_length {w : World} {a b : Nat} {v : Value} {l : List Int} (d : AgL w a b v l) :
    Calls Tryz.prog 191 #[.pointer (some ⟨a, 0, none⟩)] w fun e w' => e = .returned (.int .i64 l.length) ∧ w = w' := by
  obtain ⟨hs, d, _, hp, _⟩ := d
  rw [← hp.length_eq]
  exact ag_len d
def SafeA (a : Nat) (W : World) (k : Nat) : Prop := k ≠ a ∧ ∃ v, W.cell? ⟨a, 0, none⟩ = some v ∧ v.ownBlock ≠ some k
theorem SafeA.steady (a : Nat) : Steady (SafeA a) := fun _ _ _ hg hr _ _ ⟨h1, v, h3, h4⟩ => ⟨h1, v, cell_kept h3 hg hr, h4⟩
theorem AgL.c0 {w : World} {a b : Nat} {v : Value} {l : List Int} (d : AgL w a b v l) : w.cell? ⟨a, 0, none⟩ = some v := by obtain ⟨hs, d, _⟩ := d; exact d.c0
theorem AgL.cellsA {w : World} {a b : Nat} {v : Value} {l : List Int} (d : AgL w a b v l) : (∃ o : Obj, w.heap[a]? = some o ∧ o.isCells = true) ∧ (∀ k, v.ownBlock = some k → ∃ o : Obj, w.heap[k]? = some o ∧ o.isCells = true) ∧ ∃ o : Obj, w.heap[b]? = some o ∧ o.isCells = false := by
  obtain ⟨hs, d, _⟩ := d
  refine ⟨⟨_, d.blk, rfl⟩, fun k hk => ?_, ?_⟩
  · rcases d.own.2 with ⟨h1, _⟩ | ⟨g, cap, cur, hv, _, hh, _⟩
    · rw [h1] at hk; cases hk
    · rw [hv] at hk
      simp only [Value.ownBlock, Option.some.injEq] at hk
      subst hk; exact ⟨_, hh, rfl⟩
  · obtain ⟨es, clock, h⟩ := d.set.obj
    exact ⟨_, h, rfl⟩
theorem AgL.kpS {w w' : World} {a b : Nat} {v v' : Value} {l l' : List Int} (d : AgL w a b v l) (t : Tch3 a b v w w') (d' : AgL w' a b v' l') (f : Fr w v v') : KpS (SafeA a) w w' :=
  ⟨t.size, fun k o ho hc ⟨h1, u, h2, h3⟩ => by
    rw [d.c0] at h2; cases h2
    have hk := (Array.getElem?_eq_some_iff.1 ho).1
    have hkb : k ≠ b := fun e => by
      obtain ⟨_, _, o', h4, h5⟩ := d.cellsA
      rw [e, h4] at ho; cases ho; rw [h5] at hc; cases hc
    exact ⟨(t.block k hk h1 hkb h3).trans ho, h1, v', d'.c0, f.ne hk h3⟩⟩
theorem AgL.from {w w' : World} {a b B : Nat} {v : Value} {l : List Int} (d : AgL w a b v l) (t : Tch3 a b v w w') (hB : b < B) : KeepsFrom B w w' :=
  ⟨t.size, fun k o hk ho hc => by
    obtain ⟨⟨o1, h1, h2⟩, h3, _⟩ := d.cellsA
    refine (t.block k (Array.getElem?_eq_some_iff.1 ho).1 (fun e => ?_) (by omega) (fun e => ?_)).trans ho
    · subst e; rw [h1] at ho; cases ho; rw [h2] at hc; cases hc
    · obtain ⟨o2, h4, h5⟩ := h3 k e
      rw [h4] at ho; cases ho; rw [h5] at hc; cases hc⟩
theorem AgL.grown {w w' : World} {a b : Nat} {v : Value} {l : List Int} {row : Option Nat} (d : AgL w a b v l) (hg : w.grownBy w' row) (hr : ∀ r, row = some r → r ≠ b ∧ ∃ o : Obj, w.heap[r]? = some o ∧ o.isCells = false) : AgL w' a b v l := by
  obtain ⟨⟨o1, h1, h2⟩, h3, _⟩ := d.cellsA
  refine d.keep fun k hk hc => hg.block k hk fun e => ?_
  obtain ⟨hb, o, h4, h5⟩ := hr k e.symm
  rcases hc with h | h | h
  · subst h; rw [h1] at h4; cases h4; rw [h2] at h5; cases h5
  · exact hb h
  · obtain ⟨o2, h6, h7⟩ := h3 k h
    rw [h6] at h4; cases h4; rw [h7] at h5; cases h5
theorem AgL.neBlk {w : World} {a b g T : Nat} {v : Value} {l : List Int} {arr : Array Value} (d : AgL w a b v l) (hb : Blk w g arr T) (hT : T ≠ 3) : v.ownBlock ≠ some g := fun e => by
  obtain ⟨hs, d, _⟩ := d
  rcases d.own.2 with ⟨h1, _⟩ | ⟨g', cap, cur, hv, _, hh, _⟩
  · rw [h1] at e; cases e
  · rw [hv] at e
    simp only [Value.ownBlock, Option.some.injEq] at e
    subst e
    have h2 : w.heap[g']? = some (.cells arr T (0, 0)) := hb
    rw [hh] at h2
    simp only [Option.some.injEq, Obj.cells.injEq] at h2
    exact hT h2.2.1.symm
def PopRel (all : List Int) (a b bx B1 D : Nat) (w : World) (o : Value) (wr : World) : Prop :=
  ∃ (done rest : List Int) (v : Value), all = done ++ rest ∧ AgL wr a b v rest ∧ (∀ k, v.ownBlock = some k → w.heap.size ≤ k ∧ k < B1) ∧ OwnI wr B1 o done ∧ Blk wr bx #[.pointer (some ⟨a, 0, none⟩)] 244 ∧ wr.heap[D]? = some (.deferred (some [])) ∧ B1 ≤ wr.heap.size ∧ Below w.heap.size w wr
def sliceLen : Value → Nat
  | .slice _ n _ => n
  | _ => 0
def ParI (a b bx lo : Nat) (pre : List N64) (W : World) : Prop :=
  (∃ v, AgL W a b v (agendaL (pre.map (fun x => x.1.1 / 2))) ∧ ∀ k, v.ownBlock = some k → lo ≤ k) ∧ Blk W bx #[.pointer (some ⟨a, 0, none⟩)] 244
theorem ParI.own {a b bx lo B : Nat} (hb : b < B) : OwnFrom B (ParI a b bx lo) := fun _ _ _ _ ⟨⟨v, d, h⟩, h2⟩ hg hr =>
  ⟨⟨v, d.grown hg (fun r e => ⟨by have := (hr r e).1; omega, (hr r e).2⟩), h⟩, (grownBy_keeps_cells hg (fun r e => (hr r e).2) h2 rfl).trans h2⟩
theorem f_parents {w : World} {q g h m : Nat} {kind l : Int} {zs : List Nd} (d : PoolV w q g h kind l m zs) (hm : m ≤ 100000) (hz : zs.length ≤ 90000) :
    Calls Tryz.prog 190 #[.pointer (some ⟨q, 0, none⟩)] w (IsInts (parentsL zs) w) := by
  have hroll := d.roll
  have N := hid (f_new (ids := []) w (RdI.nil w) (by decide) (by simp))
  refine (callsIn_wide (n := 5)).1 ?_
  refine callsIn_of_wp_marks Tryz.func190 rfl trivial ?_ rfl
  simp only [Tryz.ntmps190, List.size_toArray, List.length_cons, List.length_nil, Nat.reduceAdd, Nat.reduceSub, Array.replicate_succ, Array.replicate_zero, List.push_toArray, List.append_toArray, List.nil_append, List.cons_append]
  gi_wp2_with (first
    | (refine ⟨trivial, ?_⟩; gi_at_call 189; refine (callsIn_wide.2 N.out).mono ?_; rintro e W1 ⟨a, b, v, rfl, da, ha, hb, hv, hb1⟩)
    | (refine ⟨trivial, ?_⟩; gi_at_call 215; refine (callsIn_wide.2 (pl_each _ _)).mono ?_; rintro e W2 ⟨rfl, rfl⟩))
  have hs1 := hb1.size
  have hsz0 : ((W1.alloc (.cells #[.pointer (some ⟨a, 0, none⟩)] 244)).alloc (.cells #[.pointer (some ⟨q, 0, none⟩)] 95)).heap.size = W1.heap.size + 2 := by simp
  have N0 := (Blk.new W1 #[.pointer (some ⟨a, 0, none⟩)] 244).alloc (.cells #[.pointer (some ⟨q, 0, none⟩)] 95)
  have P0 := Blk.new (W1.alloc (.cells #[.pointer (some ⟨a, 0, none⟩)] 244)) #[.pointer (some ⟨q, 0, none⟩)] 95
  rw [World.size_alloc] at P0
  have hb2 : Below W1.heap.size W1 ((W1.alloc (.cells #[.pointer (some ⟨a, 0, none⟩)] 244)).alloc (.cells #[.pointer (some ⟨q, 0, none⟩)] 95)) := ((Below.refl _ _).alloc nlr _).alloc (by simp) _
  have hbw2 : Below w.heap.size w ((W1.alloc (.cells #[.pointer (some ⟨a, 0, none⟩)] 244)).alloc (.cells #[.pointer (some ⟨q, 0, none⟩)] 95)) := hb1.trans (hb2.mono hs1)
  have d2 := (d.below hb1 nlr).below hb2 nlr
  have e2 := da.below hb2 nlr
  obtain ⟨la, lb, lv⟩ := da.lt
  clear N d da
  generalize ((W1.alloc (.cells #[.pointer (some ⟨a, 0, none⟩)] 244)).alloc (.cells #[.pointer (some ⟨q, 0, none⟩)] 95)) = w0 at *
  have p0 : w0.cell? ⟨W1.heap.size + 1, 0, none⟩ = some (.pointer (some ⟨q, 0, none⟩)) := P0.cell 0
  refine wpIn_rangeFunc_ownG (F := Fence.wide) rfl (by decide) (gf := 231) (lb := #[.pointer (some ⟨W1.heap.size + 1, 0, none⟩)]) rfl trivial (enters_of Tryz.func231 (by kernel_rfl) rfl)
    (each_stops (Safe := SafeA a) 4 (by decide) (W1.heap.size + 1) (by omega) p0 d2 hm (SafeA.steady a) (fun W hW k hk _ => ⟨by omega, v, (e2.below hW nlr).c0, fun e => by have := lv k e; omega⟩)) (fun h k => h.trans k) (fun W l o o' _ h hc _ => KpS.putObj (SafeA.steady a) W l o o' h hc) (Below.refl _ _) (fun _ => rfl)
    (fun pre W => ParI a b W1.heap.size w.heap.size pre W ∧ Below w.heap.size w W)
    (fun _ _ _ => False)
    (OwnFrom.and (ParI.own (by omega)) (ownFrom_below nlr (by omega)))
    (fun _ _ _ _ _ hs _ _ => hs)
    ⟨⟨⟨v, e2, hv⟩, N0⟩, hbw2⟩
    (fun x : N64 => { tmps := #[.pointer (some ⟨q, 0, none⟩), undef, .slice none 0 0, .pointer (some ⟨W1.heap.size, 0, none⟩), .int .i64 x.1.1, undef, undef, undef, .pointer (some ⟨a, 0, none⟩), .pointer (some ⟨q, 0, none⟩), .func (.func 231) #[] #[.pointer (some ⟨W1.heap.size + 1, 0, none⟩)], .int .i64 x.1.1, .int .i64 x.1.2, undef, undef, undef, undef, undef, undef, undef, undef, undef, undef, undef, undef, undef, undef, undef, undef, undef], defers := [] }) ?assign ?body ?done ?stop
  case assign =>
    intro l x W K hK
    gi_wp2
    exact hK
  case body =>
    rintro l0 pre ⟨⟨i, c⟩, hx⟩ W ⟨⟨⟨v1, d1, h1⟩, bb⟩, hB⟩ hpl
    have b0 : W.cell? ⟨W1.heap.size, 0, none⟩ = some (.pointer (some ⟨a, 0, none⟩)) := bb.cell 0
    have hall : ∀ y ∈ pre.map (fun x : N64 => x.1.1 / 2), In64 y := fun y hy => by
      obtain ⟨z, _, rfl⟩ := List.mem_map.1 hy
      have := z.2.1
      exact ⟨by have := this.1; omega, by have := this.2; omega⟩
    have hbi : In64 (i / 2) := ⟨by have := hx.1.1; simp only at this; omega, by have := hx.1.2; simp only at this; omega⟩
    have hlen := (agendaL_ok hall).2.2
    rw [List.length_map] at hlen
    have Pt := hid (ag_put (i / 2) d1 hbi (by omega))
    have hsn : Hid (agendaL ((pre ++ [(⟨(i, c), hx⟩ : N64)]).map (fun x : N64 => x.1.1 / 2)) = putL (agendaL (pre.map (fun x : N64 => x.1.1 / 2))) (i / 2)) := by
      show _ = _
      rw [List.map_append]; exact agendaL_snoc _ _
    have hsB := hB.size
    dsimp only
    gi_wp2_with (refine ⟨trivial, ?_⟩; gi_at_call 195; refine (CallsIn.inRound l0 (callsIn_wide.2 Pt.out)).mono ?_; rintro e W3 ⟨rfl, v3, d3, f3, t3⟩)
    have hne := d1.neBlk bb (by decide)
    refine ⟨d1.from t3 (by omega), d1.kpS t3 d3 f3, ⟨⟨v3, by rw [hsn.out]; exact d3, fun k hk => ?_⟩, bb.keep (t3.block _ bb.lt (by omega) (by omega) hne)⟩, hB.trans (t3.below (by omega) (by omega) h1 hsB)⟩
    rcases f3 with e | ⟨j, e, hj⟩
    · exact h1 k (by rw [← e]; exact hk)
    · rw [e] at hk; cases hk; omega
  case done =>
    rintro D ys W hD hys ⟨⟨⟨v1, d1, h1⟩, bb⟩, hB⟩ hK
    have ey : agendaL (ys.map (fun x => x.1.1 / 2)) = parentsL zs := by
      have e : ys.map (·.1) = zs := hys
      rw [← parents_agenda (zs := zs) (fun x hx => (hroll.strict.2 x hx).1), ← e, List.map_map]; rfl
    rw [ey] at d1
    have hpl := parents_len zs
    have hDl := (Array.getElem?_eq_some_iff.1 hK).1
    have hbl := bb.lt
    have hal := d1.lt
    have HV1 : Hid (∀ k, v1.ownBlock = some k → w.heap.size ≤ k ∧ k < W.heap.size) := fun k hk => ⟨h1 k hk, hal.2.2 k hk⟩
    obtain ⟨all, eall⟩ : ∃ all, parentsL zs = all := ⟨_, rfl⟩
    rw [eall] at d1 hpl ⊢
    obtain ⟨B1, eB1⟩ : ∃ B, W.heap.size = B := ⟨_, rfl⟩
    rw [eB1] at HV1 hDl hbl hal
    have hBs := hB.size
    have EB1 := hid eB1
    have HH := hid hK
    have EA := hid eall
    have hB1w : w.heap.size ≤ B1 := by omega
    have hab : a < B1 ∧ b < B1 := ⟨hal.1, hal.2.1⟩
    clear ey hys eall h1 hal hK eB1
    gi_wp2_with fail
    gi_loopw [5] (fun o wr => PopRel all a b W1.heap.size B1 D w o wr) (fun o _ => all.length + 1 - sliceLen o)
    case atStart => exact ⟨[], all, v1, rfl, d1, HV1.out, OwnI.nil _ _, bb, HH.out, by rw [EB1.out]; exact nlr, hB⟩
    case round =>
      obtain ⟨done, rest, v, eAll, dr, hv, own, bb, hD2, hsz, hBr⟩ := hrel
      obtain ⟨pd, cd, rfl⟩ := own.val
      have b0 : wr.cell? ⟨W1.heap.size, 0, none⟩ = some (.pointer (some ⟨a, 0, none⟩)) := bb.cell 0
      have Ln := hid (agl_length dr)
      have hBs := hBr.size
      cases rest with
      | nil =>
        have hl0 : ([] : List Int).length = 0 := rfl
        rw [hl0] at Ln
        have EAll : Hid (parentsL zs = done) := by show _ = _; rw [EA.out, eAll]; simp
        clear eAll hl0
        gi_wp2_with (refine ⟨trivial, ?_⟩; gi_at_call 191; refine (callsIn_wide.2 Ln.out).mono ?_; rintro e W4 ⟨rfl, rfl⟩)
        refine ⟨by simp, .inl ⟨_, _, rfl, run_takeDeferred hD2, ?_⟩⟩
        refine ⟨.slice pd done.length cd, by simp [results, Tryz.f190, go_sem], _, rfl, ?_, hBr.trans (belowK_b (w := w) nlr wr D _ _ (by omega) hD2 rfl rfl)⟩
        have hg := grownBy_putObj' wr D (.deferred none)
        have own' := own.grown hg (fun k hk e => by
          cases e
          have h1 := own.2
          rcases h1 with ⟨h2, _⟩ | ⟨g, cap, cur, hv', _, hh, _⟩
          · rw [h2] at hk; cases hk
          · rw [hv'] at hk
            simp only [Value.ownBlock, Option.some.injEq] at hk
            subst hk
            rw [hD2] at hh; cases hh)
        rw [EAll.out]
        exact ⟨own'.rd, fun k hk => by have := own.lt k hk; omega⟩
      | cons y t =>
        have hyl : (y :: t).length = t.length + 1 := rfl
        have hla : all.length = done.length + (t.length + 1) := by rw [eAll]; simp
        rw [hyl] at Ln
        have Pp := hid (ag_pop dr (by omega))
        have EAll : Hid (all = (done ++ [y]) ++ t) := by show _ = _; rw [eAll]; simp
        have HVV := hid hv
        have hne := dr.neBlk bb (by decide)
        have OWN := hid own
        have hdl := hid hD2
        have hb0 := dr.cellsA
        clear eAll hyl hv own hD2
        gi_wp2_with (first
          | (refine ⟨trivial, ?_⟩; gi_at_call 191; refine (callsIn_wide.2 Ln.out).mono ?_; rintro e W4 ⟨rfl, rfl⟩)
          | (refine ⟨trivial, ?_⟩; gi_at_call 192; refine (callsIn_wide.2 Pp.out).mono ?_; rintro e W5 ⟨rfl, v5, d5, e5, t5⟩
             have own5 := OWN.out.keep (w' := W5) (fun k hk => t5.block k (OWN.out.lt' k hk) (by have := OWN.out.lt k hk; omega) (by have := OWN.out.lt k hk; omega) (fun e => by have := (HVV.out k e).2; have := OWN.out.lt k hk; omega))
             have hs5 := t5.size)
          | (gi_at_builtin; refine appendI_in _ _ own5 (by omega) (by omega) rfl rfl rfl rfl rfl ?_; intro v6 W6 o6 g6))
        obtain ⟨p6, c6, rfl⟩ := o6.val
        have row5 : ∀ k, Value.ownBlock (.slice pd done.length cd) = some k → B1 ≤ k := own5.lt
        have hDne : v.ownBlock ≠ some D := fun e => by
          obtain ⟨o, h1, h2⟩ := hb0.2.1 D e
          have h3 := hdl.out
          rw [h1] at h3; cases h3; cases h2
        have hD5 := (t5.block D (by omega) (by omega) (by omega) hDne).trans hdl.out
        have bb5 := bb.keep (t5.block _ (by omega) (by omega) (by omega) hne)
        have hv5 : ∀ k, v5.ownBlock = some k → w.heap.size ≤ k ∧ k < B1 := fun k hk => HVV.out k (by rw [← e5]; exact hk)
        have hBw := (hBr.trans (t5.below ha hb (fun k hk => (HVV.out k hk).1) hBs)).trans (below_grown (B := w.heap.size) g6 (by omega) (fun k hk => by have := row5 k hk; omega))
        have hs6 := g6.size
        have hd6 : W6.heap[D]? = some (.deferred (some [])) := (g6.block D (by omega) (fun e => by have := row5 D e.symm; omega)).trans hD5
        have bb6 := bb5.keep (g6.block _ (by omega) (fun e => by have := row5 _ e.symm; omega))
        have d6 : AgL W6 a b v5 t := d5.keep fun k hk hc => g6.block k hk fun e => by
          have := row5 k e.symm
          rcases hc with h | h | h
          · omega
          · omega
          · have := (hv5 k h).2; omega
        have R : Hid (PopRel all a b W1.heap.size B1 D w (.slice p6 (done ++ [y]).length c6) W6) := ⟨done ++ [y], t, v5, EAll.out, d6, hv5, o6, bb6, hd6, by omega, hBw⟩
        have hl6 : (done ++ [y]).length = done.length + 1 := by simp
        rw [hl6] at R ⊢
        clear hv5 d5 hd6 hD5 hl6
        gi_wp2_with fail
        go_roundw
        case rel => exact R.out
        case measure => simp [sliceLen]; omega
  case stop => exact fun _ _ _ _ _ _ h => h.elim
end Go.Proofs.YtdnlejboijkcfaaGreatDoor

/- The walks of fold.First, the reference's Parents, First, Do, and the reference's Same of ints. -/
namespace Go.Proofs.YtdnlejboijkcfaaGreatDoor
open Go.RowKit Nl
namespace Nl
theorem parents_in {l : Int} {zs : List (Int × Int)} (r : Roll l zs) : ∀ p ∈ parentsL zs, In64 p := fun p hp => by
  obtain ⟨x, hx, h1, h2⟩ := parents_mem.1 hp
  have h3 := r.ids x hx
  simp only [rightB, decide_eq_true_eq] at h3
  obtain ⟨n, rfl⟩ := Int.eq_ofNat_of_zero_le (show 0 ≤ l by omega)
  have := (pow48 (n := n) (by omega)).2
  simp only [Int.toNat_natCast] at h3
  exact ⟨by omega, by omega⟩
end Nl
end Go.Proofs.YtdnlejboijkcfaaGreatDoor
