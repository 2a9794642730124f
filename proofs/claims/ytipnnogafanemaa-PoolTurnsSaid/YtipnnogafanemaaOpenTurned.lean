/- An argument that is a struct of a slice of nodes and a call. -/
import Derived.Test.YtipnnogafanemaaOpenAsked
namespace Go.Proofs.Ytipnnogafanemaa
open Go.RowKit Go.ChangeShapes Go.WideShapes Go.ChangeAt

/-- Nodes and a call. -/
def RdTurn (w : World) (v : Value) (xs : List Nd) : Prop :=
  ∃ v0 a b c, v = .agg #[v0, .int .i64 a, .int .i64 b, .int .i64 c] ∧ RdA w v0 xs ∧ In64 a ∧ In64 b ∧ In64 c
set_option maxRecDepth 100000 in
theorem open_turned {H : Type} {enc : TypeId × Value → H} {w : World} {base b0 : Nat} {spare : Nat → Bool} {held : Bool} {r : Reach} {v : Value} {d : DataW H} {ps : List MemPlace}
    (hv : Value.okWide Try.prog w r b0 83 v) (h : DataW.Trod enc Try.prog w base spare held 83 v d ps) : ∃ xs, RdTurn w v xs := by
  simp only [Value.okWide, Try.underlying83] at hv
  obtain ⟨cs, rfl, hsz, _⟩ := hv
  obtain ⟨fuel, hf⟩ := h
  simp only [Value.cells] at hf
  obtain ⟨ys, n, _, _, hcl, hyl, hff⟩ := DataW.trod_struct Try.underlying83 hf
  have h4 : Try.prog.cellsOf 83 = 4 := by kernel_rfl
  rw [h4] at hcl
  obtain ⟨c0, c1, c2, c3, hc⟩ : ∃ c0 c1 c2 c3, cs = #[c0, c1, c2, c3] := by
    match hcs : cs.toList, hcl with
    | [c0, c1, c2, c3], _ => exact ⟨c0, c1, c2, c3, by rw [← hcs]⟩
  subst hc
  have hy : ys.length = 2 := hyl
  have f0 : DataW.trod enc Try.prog w base spare held n 22 ([c0, c1, c2, c3].take (Try.prog.cellsOf 22)) = ys[0]? := hff 0 _ rfl
  have f1 : DataW.trod enc Try.prog w base spare held n 52 ([c1, c2, c3].take (Try.prog.cellsOf 52)) = ys[1]? := hff 1 _ rfl
  have k0 : Try.prog.cellsOf 22 = 1 := by kernel_rfl
  have k1 : Try.prog.cellsOf 52 = 3 := by kernel_rfl
  have ki : Try.prog.cellsOf 3 = 1 := by kernel_rfl
  rw [k0] at f0
  rw [k1] at f1
  simp only [List.take_succ_cons, List.take_zero] at f0 f1
  rw [List.getElem?_eq_getElem (by omega)] at f0 f1
  obtain ⟨xs, hx⟩ := open_nodes_at f0
  obtain ⟨zs, m, _, _, hcl1, hzl, hel⟩ := DataW.trod_struct Try.underlying52 f1
  have hz : zs.length = 3 := hzl
  have g0 : DataW.trod enc Try.prog w base spare held m 3 ([c1, c2, c3].take (Try.prog.cellsOf 3)) = zs[0]? := hel 0 _ rfl
  have g1 : DataW.trod enc Try.prog w base spare held m 3 ([c2, c3].take (Try.prog.cellsOf 3)) = zs[1]? := hel 1 _ rfl
  have g2 : DataW.trod enc Try.prog w base spare held m 3 ([c3].take (Try.prog.cellsOf 3)) = zs[2]? := hel 2 _ rfl
  rw [ki] at g0 g1 g2
  simp only [List.take_succ_cons, List.take_zero] at g0 g1 g2
  rw [List.getElem?_eq_getElem (by omega)] at g0 g1 g2
  obtain ⟨a, ea, _, wa⟩ := DataW.trod_int Try.underlying3 g0
  obtain ⟨b, eb, _, wb⟩ := DataW.trod_int Try.underlying3 g1
  obtain ⟨c, ec, _, wc⟩ := DataW.trod_int Try.underlying3 g2
  simp only [List.cons.injEq, and_true] at ea eb ec
  subst ea eb ec
  exact ⟨xs, c0, a, b, c, rfl, hx, bd_i64 _ wa, bd_i64 _ wb, bd_i64 _ wc⟩
end Go.Proofs.Ytipnnogafanemaa
