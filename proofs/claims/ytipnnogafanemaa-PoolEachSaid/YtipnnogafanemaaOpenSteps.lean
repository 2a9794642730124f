/- An argument that is a struct of a slice of nodes and an int. -/
import Derived.Test.YtipnnogafanemaaOpenAsked
namespace Go.Proofs.Ytipnnogafanemaa
open Go.RowKit Go.ChangeShapes Go.WideShapes Go.ChangeAt

/-- Nodes and a number. -/
def RdStep (w : World) (v : Value) (xs : List Nd) : Prop :=
  ∃ v0 a, v = .agg #[v0, .int .i64 a] ∧ RdA w v0 xs ∧ In64 a
set_option maxRecDepth 100000 in
theorem open_steps {H : Type} {enc : TypeId × Value → H} {w : World} {base b0 : Nat} {spare : Nat → Bool} {held : Bool} {r : Reach} {v : Value} {d : DataW H} {ps : List MemPlace}
    (hv : Value.okWide Try.prog w r b0 42 v) (h : DataW.Trod enc Try.prog w base spare held 42 v d ps) : ∃ xs, RdStep w v xs := by
  simp only [Value.okWide, Try.underlying42] at hv
  obtain ⟨cs, rfl, hsz, _⟩ := hv
  obtain ⟨fuel, hf⟩ := h
  simp only [Value.cells] at hf
  obtain ⟨ys, n, _, _, hcl, hyl, hff⟩ := DataW.trod_struct Try.underlying42 hf
  have h4 : Try.prog.cellsOf 42 = 2 := by kernel_rfl
  rw [h4] at hcl
  obtain ⟨c0, c1, hc⟩ : ∃ c0 c1, cs = #[c0, c1] := by
    match hcs : cs.toList, hcl with
    | [c0, c1], _ => exact ⟨c0, c1, by rw [← hcs]⟩
  subst hc
  have hy : ys.length = 2 := hyl
  have f0 : DataW.trod enc Try.prog w base spare held n 22 ([c0, c1].take (Try.prog.cellsOf 22)) = ys[0]? := hff 0 _ rfl
  have f1 : DataW.trod enc Try.prog w base spare held n 3 ([c1].take (Try.prog.cellsOf 3)) = ys[1]? := hff 1 _ rfl
  have k0 : Try.prog.cellsOf 22 = 1 := by kernel_rfl
  have ki : Try.prog.cellsOf 3 = 1 := by kernel_rfl
  rw [k0] at f0
  rw [ki] at f1
  simp only [List.take_succ_cons, List.take_zero] at f0 f1
  rw [List.getElem?_eq_getElem (by omega)] at f0 f1
  obtain ⟨xs, hx⟩ := open_nodes_at f0
  obtain ⟨z, hz, _, hw⟩ := DataW.trod_int Try.underlying3 f1
  simp only [List.cons.injEq, and_true] at hz
  subst hz
  exact ⟨xs, c0, z, rfl, hx, bd_i64 _ hw⟩
end Go.Proofs.Ytipnnogafanemaa
