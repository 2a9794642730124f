/- An argument that is a slice of sides. -/
import Derived.Test.YtbbkfjbaocpknaaGreatBA
import Derived.Test.YtbbkfjbaocpknaaGreatGO
namespace Go.Proofs.YtbbkfjbaocpknaaGreat
open Go.ChangeShapes Go.WideShapes Go.ChangeAt Go.RowKit

section
variable {H : Type} {enc : TypeId × Value → H} {P : Program} {w : World} {base b0 : Nat} {spare : Nat → Bool} {held : Bool} {r : Reach} {t e I : TypeId} {v : Value} {d : DataW H} {ps : List MemPlace}
/-- A slice of structs of n ints: its cells. -/
theorem open_recs_t {n : Nat} {fs : Array Field} (ht : P.underlying t = some (.slice e)) (he : P.underlying e = some (.struct fs)) (hI : P.underlying I = some (.int .i64)) (hn : fs.size = n) (hone : Deep.oneCellFields P fs = true) (hC : P.cellsOf e = n)
    (hfs : ∀ j, j < n → ∃ f, fs[j]? = some f ∧ f.type = I)
    {fuel : Nat} {x : DataW H × List MemPlace} (hf : DataW.trod enc P w base spare held fuel t [v] = some x) :
    ∃ p len cap, ∃ F : Nat → Nat → Int, v = .slice p len cap ∧ len ≤ maxLen ∧
      ∀ k, k < len → ∀ j, j < n → ∃ g off, p = some ⟨g, off, none⟩ ∧ w.cell? ⟨g, off + (k * n + j), none⟩ = some (.int .i64 (F k j)) ∧ (Lit.int .i64 (F k j)).wf = true := by
  rcases Deep.open_slice ht hf with ⟨h0, _⟩ | ⟨a, len', cap', m, n', D, Pl, hcs, _, hl, hm, hmm, _, hi⟩
  · obtain rfl : v = .slice none 0 0 := by simpa using h0
    exact ⟨none, 0, 0, fun _ _ => 0, rfl, Nat.zero_le _, fun k hk => by omega⟩
  · obtain rfl : v = .slice (some a) len' cap' := by simpa using hcs
    have hl := hl
    have hlm : len' ≤ m := by rw [hmm]; split <;> omega
    refine ⟨some a, len', cap', fun k j => intAt w (a.add (k * n + j)), rfl, by omega, fun k hk j hj => ?_⟩
    have key : ∀ k, k < len' → ∀ j, j < n → w.cell? (a.add (k * n + j)) = some (.int .i64 (intAt w (a.add (k * n + j)))) ∧ (Lit.int .i64 (intAt w (a.add (k * n + j)))).wf = true := by
      intro k hk j hj
      obtain ⟨cs', hc, ht'⟩ := hi k (by omega)
      rw [hC] at hc
      obtain ⟨ys, n2, _, _, hcl, hyl, hff⟩ := DataW.trod_struct he ht'
      obtain ⟨_, hcl2, hat⟩ := World.cells?_some hc
      obtain ⟨f, hfj, hfI⟩ := hfs j hj
      obtain ⟨ho, hk1⟩ := Deep.hone_of hone j f hfj
      have h1 := hff j f hfj
      rw [ho, hk1, hfI] at h1
      have hd : (cs'.drop j).take 1 = [cs'[j]'(by omega)] := by rw [List.drop_eq_getElem_cons (by omega)]; rfl
      rw [hd, List.getElem?_eq_getElem (show j < ys.length by omega)] at h1
      obtain ⟨z, hz, _, hw⟩ := DataW.trod_int hI h1
      simp only [List.cons.injEq, and_true] at hz
      have h2 := hat j hj
      rw [Deep.add_add, List.getElem?_eq_getElem (show j < cs'.length by omega), hz] at h2
      have h3 : intAt w (a.add (k * n + j)) = z := by unfold intAt; rw [h2]
      rw [h3]
      exact ⟨h2, hw⟩
    have h0 := (key 0 (by omega) 0 (by omega)).1
    have hs := spot_none h0
    obtain ⟨g, off, s⟩ := a
    have hs' : s = none := by simpa [Addr.add] using hs
    subst hs'
    have hadd : (⟨g, off, none⟩ : Addr).add (k * n + j) = ⟨g, off + (k * n + j), none⟩ := by unfold Addr.add; split <;> simp_all
    have q := key k hk j hj
    refine ⟨g, off, rfl, ?_, q.2⟩
    rw [← hadd]; exact q.1
end
set_option maxRecDepth 100000 in
theorem open_dops_t {H : Type} {enc : TypeId × Value → H} {w : World} {base : Nat} {spare : Nat → Bool} {held : Bool} {v : Value} {fuel : Nat} {x : DataW H × List MemPlace}
    (h : DataW.trod enc Tryz.prog w base spare held fuel 28 [v] = some x) : ∃ os, RdO w v os := by
  obtain ⟨p, len, cap, F, rfl, hl, hF⟩ := open_recs_t (n := 3) (I := 3) Tryz.underlying28 Tryz.underlying94 Tryz.underlying3 (by decide) (by kernel_rfl) (by kernel_rfl)
    (fun j hj => match j, hj with | 0, _ => ⟨_, rfl, rfl⟩ | 1, _ => ⟨_, rfl, rfl⟩ | 2, _ => ⟨_, rfl, rfl⟩) h
  have hlen : ((List.range len).map fun k => (F k 0, F k 1, F k 2)).length = len := by simp
  refine ⟨(List.range len).map fun k => (F k 0, F k 1, F k 2), p, cap, by rw [hlen], by rw [hlen]; unfold maxLen at hl; omega, fun k hk => ?_⟩
  rw [hlen] at hk
  have e : ((List.range len).map fun k => (F k 0, F k 1, F k 2)).getD k (0, 0, 0) = (F k 0, F k 1, F k 2) := by
    simp [List.getD, hk]
  rw [e]
  obtain ⟨g, off, hp, c0, w0⟩ := hF k hk 0 (by omega)
  obtain ⟨g1, off1, hp1, c1, w1⟩ := hF k hk 1 (by omega)
  obtain ⟨g2, off2, hp2, c2, w2⟩ := hF k hk 2 (by omega)
  rw [hp] at hp1 hp2
  simp only [Option.some.injEq, Addr.mk.injEq, and_true] at hp1 hp2
  obtain ⟨rfl, rfl⟩ := hp1
  obtain ⟨rfl, rfl⟩ := hp2
  exact ⟨g, off, hp, World.block_lt_of_cell? w _ c0, c0, by rwa [← Nat.add_assoc] at c1, by rwa [← Nat.add_assoc] at c2, bd_i64 _ w0, bd_i64 _ w1, bd_i64 _ w2⟩

/-- A side: a conf, and calls. -/
abbrev SideE := Int × Int × Int × Value × List Op3
def SideAt (w : World) (p : Option Addr) (k : Nat) (x : SideE) : Prop :=
  ∃ g off, p = some ⟨g, off, none⟩ ∧ g < w.heap.size ∧ w.cell? ⟨g, off + k * 4, none⟩ = some (.int .i64 x.1) ∧ w.cell? ⟨g, off + k * 4 + 1, none⟩ = some (.int .i64 x.2.1) ∧ w.cell? ⟨g, off + k * 4 + 2, none⟩ = some (.int .i64 x.2.2.1) ∧ w.cell? ⟨g, off + k * 4 + 3, none⟩ = some x.2.2.2.1 ∧
    (In64 x.1 ∧ In64 x.2.1 ∧ In64 x.2.2.1) ∧ RdO w x.2.2.2.1 x.2.2.2.2
/-- A slice that reads as sides. -/
def RdSides (w : World) (v : Value) (xs : List SideE) : Prop :=
  ∃ p cap, v = .slice p xs.length cap ∧ xs.length ≤ 9223372036854775807 ∧ ∀ k, k < xs.length → SideAt w p k (xs.getD k (0, 0, 0, .slice none 0 0, []))
theorem SideAt.below {w w' : World} {p : Option Addr} {k : Nat} {x : SideE} {B : Nat} (h : SideAt w p k x) (hb : Below B w w') (hB : w.heap.size ≤ B) : SideAt w' p k x := by
  obtain ⟨g, off, hp, hg, c0, c1, c2, c3, bd, ro⟩ := h
  have e := hb.block g (by omega)
  exact ⟨g, off, hp, Nat.lt_of_lt_of_le hg hb.size, by rw [World.cell?_of_block (w := w) (a := ⟨g, off + k * 4, none⟩) e]; exact c0, by rw [World.cell?_of_block (w := w) (a := ⟨g, off + k * 4 + 1, none⟩) e]; exact c1,
    by rw [World.cell?_of_block (w := w) (a := ⟨g, off + k * 4 + 2, none⟩) e]; exact c2, by rw [World.cell?_of_block (w := w) (a := ⟨g, off + k * 4 + 3, none⟩) e]; exact c3, bd, ro.below hb hB⟩
theorem RdSides.below {w w' : World} {v : Value} {xs : List SideE} {B : Nat} (h : RdSides w v xs) (hb : Below B w w') (hB : w.heap.size ≤ B) : RdSides w' v xs := by
  obtain ⟨p, cap, rfl, hl, hr⟩ := h
  exact ⟨p, cap, rfl, hl, fun k hk => (hr k hk).below hb hB⟩
set_option maxRecDepth 100000 in
theorem open_sides {H : Type} {enc : TypeId × Value → H} {w : World} {base b0 : Nat} {spare : Nat → Bool} {held : Bool} {r : Reach} {v : Value} {d : DataW H} {ps : List MemPlace}
    (hv : Value.okWide Tryz.prog w r b0 22 v) (h : DataW.Trod enc Tryz.prog w base spare held 22 v d ps) : ∃ xs, RdSides w v xs := by
  obtain ⟨p, len, cap, rfl⟩ := okWide_slice Tryz.underlying22 hv
  obtain ⟨fuel, hf⟩ := h
  rcases Deep.open_slice Tryz.underlying22 hf with ⟨h0, _⟩ | ⟨a, len', cap', m, n', D, Pl, hcs, _, hl, hm, hmm, _, hi⟩
  · simp [Value.cells] at h0
    obtain ⟨rfl, rfl, rfl⟩ := h0
    exact ⟨[], none, 0, rfl, Nat.zero_le _, fun k hk => by simp at hk⟩
  · simp [Value.cells] at hcs
    obtain ⟨rfl, rfl, rfl⟩ := hcs
    have hlm : len ≤ m := by rw [hmm]; split <;> omega
    have hC : Tryz.prog.cellsOf 30 = 4 := by kernel_rfl
    have key : ∀ k, ∃ x : SideE, k < len → (w.cell? (a.add (k * 4 + 0)) = some (.int .i64 x.1) ∧ w.cell? (a.add (k * 4 + 1)) = some (.int .i64 x.2.1) ∧ w.cell? (a.add (k * 4 + 2)) = some (.int .i64 x.2.2.1) ∧ w.cell? (a.add (k * 4 + 3)) = some x.2.2.2.1 ∧ (In64 x.1 ∧ In64 x.2.1 ∧ In64 x.2.2.1) ∧ RdO w x.2.2.2.1 x.2.2.2.2) := by
      intro k
      by_cases hk : k < len
      · obtain ⟨cs', hc, ht'⟩ := hi k (by omega)
        rw [hC] at hc
        obtain ⟨_, hcl2, hat⟩ := World.cells?_some hc
        obtain ⟨ys, n2, _, _, hcl, hyl, hff⟩ := DataW.trod_struct Tryz.underlying30 ht'
        match cs', hcl2 with
        | [u0, u1, u2, u3], _ =>
          have h0 := hff 0 _ rfl
          have h1 := hff 1 _ rfl
          have hyl : ys.length = 2 := hyl
          match ys, hyl with
          | [y0, y1], _ =>
            have h0 : DataW.trod enc Tryz.prog w base spare held n2 27 [u0, u1, u2] = some y0 := h0
            have h1 : DataW.trod enc Tryz.prog w base spare held n2 28 [u3] = some y1 := h1
            obtain ⟨os, hos⟩ := open_dops_t h1
            obtain ⟨zs, n3, _, _, hcl3, hzl, hgg⟩ := DataW.trod_struct Tryz.underlying27 h0
            have hzl : zs.length = 3 := hzl
            match zs, hzl with
            | [z0, z1, z2], _ =>
              have g0 : DataW.trod enc Tryz.prog w base spare held n3 3 [u0] = some z0 := hgg 0 _ rfl
              have g1 : DataW.trod enc Tryz.prog w base spare held n3 3 [u1] = some z1 := hgg 1 _ rfl
              have g2 : DataW.trod enc Tryz.prog w base spare held n3 3 [u2] = some z2 := hgg 2 _ rfl
              obtain ⟨i0, e0, -, w0⟩ := DataW.trod_int Tryz.underlying3 g0
              obtain ⟨i1, e1, -, w1⟩ := DataW.trod_int Tryz.underlying3 g1
              obtain ⟨i2, e2, -, w2⟩ := DataW.trod_int Tryz.underlying3 g2
              obtain rfl : u0 = .int .i64 i0 := by simpa using e0
              obtain rfl : u1 = .int .i64 i1 := by simpa using e1
              obtain rfl : u2 = .int .i64 i2 := by simpa using e2
              have c0 := hat 0 (by omega)
              have c1 := hat 1 (by omega)
              have c2 := hat 2 (by omega)
              have c3 := hat 3 (by omega)
              rw [Deep.add_add] at c0 c1 c2 c3
              simp only [List.getElem?_cons_zero, List.getElem?_cons_succ] at c0 c1 c2 c3
              exact ⟨(i0, i1, i2, u3, os), fun _ => ⟨c0, c1, c2, c3, ⟨bd_i64 _ w0, bd_i64 _ w1, bd_i64 _ w2⟩, hos⟩⟩
      · exact ⟨(0, 0, 0, .slice none 0 0, []), fun h => absurd h hk⟩
    obtain ⟨F, hF⟩ := Classical.axiomOfChoice key
    have hlen : ((List.range len).map F).length = len := by simp
    refine ⟨(List.range len).map F, some a, cap, by rw [hlen], by rw [hlen]; unfold maxLen at hm; omega, fun k hk => ?_⟩
    rw [hlen] at hk
    have e : ((List.range len).map F).getD k (0, 0, 0, .slice none 0 0, []) = F k := by simp [List.getD, hk]
    rw [e]
    have hs := spot_none (hF 0 (by omega)).1
    obtain ⟨g, off, s⟩ := a
    have hs' : s = none := by simpa [Addr.add] using hs
    subst hs'
    have hadd : ∀ j, (⟨g, off, none⟩ : Addr).add j = ⟨g, off + j, none⟩ := fun j => by unfold Addr.add; split <;> simp_all
    obtain ⟨c0, c1, c2, c3, bd, ro⟩ := hF k hk
    rw [hadd] at c0 c1 c2 c3
    exact ⟨g, off, rfl, World.block_lt_of_cell? w _ c0, c0, by rw [← Nat.add_assoc] at c1; exact c1, by rw [← Nat.add_assoc] at c2; exact c2, by rw [← Nat.add_assoc] at c3; exact c3, bd, ro⟩
end Go.Proofs.YtbbkfjbaocpknaaGreat
