/- An argument that is a struct of a slice of nodes and an array of three ints. -/
import Derived.Test.YtejoecoenehooaaOpenNodes
namespace Go.Proofs.Ytejoecoenehooaa
open Go.RowKit Go.ChangeShapes Go.WideShapes Go.ChangeAt

section
variable {H : Type} {enc : TypeId × Value → H} {P : Program} {w : World} {base b0 : Nat} {spare : Nat → Bool} {held : Bool} {r : Reach} {t e I : TypeId} {v c : Value} {d : DataW H} {ps : List MemPlace} {x : DataW H × List MemPlace} {fuel : Nat}
/-- A slice of structs of n ints, from its reading alone: its cells. -/
theorem open_recs_at {n : Nat} {fs : Array Field} (ht : P.underlying t = some (.slice e)) (he : P.underlying e = some (.struct fs)) (hI : P.underlying I = some (.int .i64)) (hn : fs.size = n) (hone : Deep.oneCellFields P fs = true) (hC : P.cellsOf e = n) (hn0 : 0 < n)
    (hfs : ∀ j, j < n → ∃ f, fs[j]? = some f ∧ f.type = I)
    (hf : DataW.trod enc P w base spare held fuel t [c] = some x) :
    c = .slice none 0 0 ∨ ∃ a len cap, ∃ F : Nat → Nat → Int, c = .slice (some a) len cap ∧ len ≤ maxLen ∧ len ≤ cap ∧
      ∀ k, k < len → ∀ j, j < n → ∃ g off, a = ⟨g, off, none⟩ ∧ w.cell? ⟨g, off + (k * n + j), none⟩ = some (.int .i64 (F k j)) ∧ (Lit.int .i64 (F k j)).wf = true := by
  rcases Deep.open_slice ht hf with ⟨h0, _⟩ | ⟨a, len, cap, m, n', D, Pl, hcs, _, hl, hm, hmm, _, hi⟩
  · left; simpa using h0
  · right
    simp only [List.cons.injEq, and_true] at hcs
    subst hcs
    have hlm : len ≤ m := by rw [hmm]; split <;> omega
    refine ⟨a, len, cap, fun k j => intAt w (a.add (k * n + j)), rfl, by omega, hl, fun k hk j hj => ?_⟩
    have key : ∀ k, k < len → ∀ j, j < n → w.cell? (a.add (k * n + j)) = some (.int .i64 (intAt w (a.add (k * n + j)))) ∧ (Lit.int .i64 (intAt w (a.add (k * n + j)))).wf = true := by
      intro k hk j hj
      obtain ⟨cs', hc, ht'⟩ := hi k (by omega)
      rw [hC] at hc
      obtain ⟨ys, n2, _, _, hcl, hyl, hff⟩ := DataW.trod_struct he ht'
      obtain ⟨_, hcl2, hat⟩ := World.cells?_some hc
      obtain ⟨f, hfj, hfI⟩ := hfs j hj
      obtain ⟨ho, hk1⟩ := Deep.hone_of hone j f hfj
      have h1 := hff j f hfj
      rw [ho, hk1, hfI] at h1
      have hd : (cs'.drop j).take 1 = [cs'[j]'(by omega)] := by rw [List.drop_eq_getElem_cons (by omega)]; rfl
      rw [hd, List.getElem?_eq_getElem (show j < ys.length by omega)] at h1
      obtain ⟨z, hz, _, hw⟩ := DataW.trod_int hI h1
      simp only [List.cons.injEq, and_true] at hz
      have h2 := hat j hj
      rw [Deep.add_add, List.getElem?_eq_getElem (show j < cs'.length by omega), hz] at h2
      have h3 : intAt w (a.add (k * n + j)) = z := by unfold intAt; rw [h2]
      rw [h3]
      exact ⟨h2, hw⟩
    have h0 := (key 0 (by omega) 0 (by omega)).1
    have hs := spot_none h0
    obtain ⟨g, off, s⟩ := a
    have hs' : s = none := by simpa [Addr.add] using hs
    subst hs'
    have hadd : (⟨g, off, none⟩ : Addr).add (k * n + j) = ⟨g, off + (k * n + j), none⟩ := by unfold Addr.add; split <;> simp_all
    have q := key k hk j hj
    refine ⟨g, off, rfl, ?_, q.2⟩
    rw [← hadd]; exact q.1
end

set_option maxRecDepth 100000 in
theorem open_nodes_at {H : Type} {enc : TypeId × Value → H} {w : World} {base : Nat} {spare : Nat → Bool} {held : Bool} {c : Value} {x : DataW H × List MemPlace} {fuel : Nat}
    (h : DataW.trod enc Try.prog w base spare held fuel 33 [c] = some x) : ∃ xs, RdA w c xs := by
  rcases open_recs_at (n := 2) (I := 3) Try.underlying33 Try.underlying100 Try.underlying3 rfl (by kernel_rfl) (by kernel_rfl) (by decide)
    (fun j hj => match j, hj with | 0, _ => ⟨_, rfl, rfl⟩ | 1, _ => ⟨_, rfl, rfl⟩) h with rfl | ⟨a, len0, cap0, F, rfl, hl, hle, hF⟩
  · exact ⟨[], .inl ⟨rfl, rfl⟩, fun x hx => by simp at hx, by simp⟩
  have hlen : ((List.range len0).map fun k => (F k 0, F k 1)).length = len0 := by simp
  have hat : ∀ k, k < len0 → ((List.range len0).map fun k => (F k 0, F k 1)).getD k (0, 0) = (F k 0, F k 1) := fun k hk => by simp [List.getD, hk]
  refine ⟨(List.range len0).map fun k => (F k 0, F k 1), ?_, ?_, by rw [hlen]; unfold maxLen at hl; omega⟩
  · by_cases h0 : len0 = 0
    · subst h0; exact .inr (.inl ⟨a, cap0, rfl, rfl⟩)
    · obtain ⟨g, off, rfl, c0, _⟩ := hF 0 (by omega) 0 (by omega)
      refine .inr (.inr ⟨g, off, cap0, by rw [hlen], World.block_lt_of_cell? w _ c0, by rw [hlen]; exact hle, fun k hk => ?_⟩)
      rw [hlen] at hk
      rw [hat k hk]
      obtain ⟨g1, off1, hp1, c1, _⟩ := hF k hk 0 (by omega)
      obtain ⟨g2, off2, hp2, c2, _⟩ := hF k hk 1 (by omega)
      simp only [Addr.mk.injEq, and_true] at hp1 hp2
      obtain ⟨rfl, rfl⟩ := hp1
      obtain ⟨rfl, rfl⟩ := hp2
      exact ⟨by rwa [Nat.add_zero] at c1, by rwa [← Nat.add_assoc] at c2⟩
  · intro x hx
    obtain ⟨k, hk, rfl⟩ := List.mem_map.1 hx
    have hk' : k < len0 := List.mem_range.1 hk
    obtain ⟨_, _, _, _, w0⟩ := hF k hk' 0 (by omega)
    obtain ⟨_, _, _, _, w1⟩ := hF k hk' 1 (by omega)
    exact ⟨bd_i64 _ w0, bd_i64 _ w1⟩

/-- What was asked: nodes and three numbers. -/
def RdAsk (w : World) (v : Value) (xs : List Nd) : Prop :=
  ∃ v0 a b c, v = .agg #[v0, .int .i64 a, .int .i64 b, .int .i64 c] ∧ RdA w v0 xs ∧ In64 a ∧ In64 b ∧ In64 c
set_option maxRecDepth 100000 in
theorem open_asked {H : Type} {enc : TypeId × Value → H} {w : World} {base b0 : Nat} {spare : Nat → Bool} {held : Bool} {r : Reach} {v : Value} {d : DataW H} {ps : List MemPlace}
    (hv : Value.okWide Try.prog w r b0 36 v) (h : DataW.Trod enc Try.prog w base spare held 36 v d ps) : ∃ xs, RdAsk w v xs := by
  simp only [Value.okWide, Try.underlying36] at hv
  obtain ⟨cs, rfl, hsz, _⟩ := hv
  obtain ⟨fuel, hf⟩ := h
  simp only [Value.cells] at hf
  obtain ⟨ys, n, _, _, hcl, hyl, hff⟩ := DataW.trod_struct Try.underlying36 hf
  have h4 : Try.prog.cellsOf 36 = 4 := by kernel_rfl
  rw [h4] at hcl
  obtain ⟨c0, c1, c2, c3, hc⟩ : ∃ c0 c1 c2 c3, cs = #[c0, c1, c2, c3] := by
    match hcs : cs.toList, hcl with
    | [c0, c1, c2, c3], _ => exact ⟨c0, c1, c2, c3, by rw [← hcs]⟩
  subst hc
  have hy : ys.length = 2 := hyl
  have f0 : DataW.trod enc Try.prog w base spare held n 33 ([c0, c1, c2, c3].take (Try.prog.cellsOf 33)) = ys[0]? := hff 0 _ rfl
  have f1 : DataW.trod enc Try.prog w base spare held n 34 ([c1, c2, c3].take (Try.prog.cellsOf 34)) = ys[1]? := hff 1 _ rfl
  have k0 : Try.prog.cellsOf 33 = 1 := by kernel_rfl
  have k1 : Try.prog.cellsOf 34 = 3 := by kernel_rfl
  have ki : Try.prog.cellsOf 3 = 1 := by kernel_rfl
  rw [k0] at f0
  rw [k1] at f1
  simp only [List.take_succ_cons, List.take_zero] at f0 f1
  rw [List.getElem?_eq_getElem (by omega)] at f0 f1
  obtain ⟨xs, hx⟩ := open_nodes_at f0
  obtain ⟨zs, m, _, _, hcl1, hzl, hel⟩ := DataW.trod_array Try.underlying34 f1
  have key : ∀ i, i < 3 → ∃ z, [c1, c2, c3][i]? = some (.int .i64 z) ∧ (Lit.int .i64 z).wf = true := by
    intro i hi
    have h1 := hel i hi
    rw [ki, Nat.mul_one] at h1
    have h2 : ([c1, c2, c3].drop i).take 1 = [[c1, c2, c3][i]'(by simpa using hi)] := by
      rw [List.drop_eq_getElem_cons (by simpa using hi)]; simp
    have h3 : zs[i]? = some (zs[i]'(by omega)) := List.getElem?_eq_getElem (by omega)
    rw [h3] at h1
    rw [show ([c1, c2, c3].drop i).take 1 = _ from h2] at h1
    obtain ⟨z, hz, _, hw⟩ := DataW.trod_int Try.underlying3 h1
    simp only [List.cons.injEq, and_true] at hz
    exact ⟨z, by rw [List.getElem?_eq_getElem (by simpa using hi), hz], hw⟩
  obtain ⟨a, ha, wa⟩ := key 0 (by decide)
  obtain ⟨b, hb, wb⟩ := key 1 (by decide)
  obtain ⟨c, hc, wc⟩ := key 2 (by decide)
  simp only [List.getElem?_cons_zero, List.getElem?_cons_succ, Option.some.injEq] at ha hb hc
  subst ha hb hc
  exact ⟨xs, c0, a, b, c, rfl, hx, bd_i64 _ wa, bd_i64 _ wb, bd_i64 _ wc⟩
end Go.Proofs.Ytejoecoenehooaa
