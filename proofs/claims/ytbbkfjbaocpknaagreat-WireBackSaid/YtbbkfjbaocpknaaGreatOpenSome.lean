/- An argument that is bytes of a digest, and whether they are sealed: a text and a truth value. -/
import Derived.Test.YtbbkfjbaocpknaaGreatBA
import Derived.ChangeMaps5
import Derived.SizedLaws
namespace Go.Proofs.YtbbkfjbaocpknaaGreat
open Go.RowKit Go.ChangeShapes Go.WideShapes Go.ChangeAt

section
variable {H : Type} {enc : TypeId × Value → H} {P : Program} {w : World} {base b0 : Nat} {spare : Nat → Bool} {held : Bool} {r : Reach} {t S B : TypeId} {v : Value} {d : DataW H} {ps : List MemPlace} {f0 f1 : Field}
theorem open_text2 (ht : P.underlying t = some (.struct #[f0, f1])) (e0 : f0.type = S) (e1 : f1.type = B) (o0 : f0.offset = 0) (o1 : f1.offset = 1) (hS : P.underlying S = some .string) (hB : P.underlying B = some .bool) (c0 : P.cellsOf S = 1) (c1 : P.cellsOf B = 1) (hC : P.cellsOf t = 2)
    (hv : Value.okWide P w r b0 t v) (h : DataW.Trod enc P w base spare held t v d ps) (hw : ∀ n ∈ d.weights P t, n ≤ reachBytes) :
    ∃ (s : ByteArray) (b : Bool), v = .agg #[.string s, .bool b] ∧ s.size ≤ reachBytes := by
  subst e0 e1
  unfold Value.okWide at hv
  rw [ht] at hv
  obtain ⟨cs, rfl, _, _⟩ := hv
  obtain ⟨fuel, hf⟩ := h
  simp only [Value.cells] at hf
  obtain ⟨xs, n, _, hx, hcl, hyl, hff⟩ := DataW.trod_struct ht hf
  have h0 := hff 0 f0 rfl
  have h1 := hff 1 f1 rfl
  rw [o0, c0] at h0
  rw [o1, c1] at h1
  rw [hC] at hcl
  have hyl : xs.length = 2 := hyl
  match hxs : xs, hyl with
  | [x0, x1], _ =>
    obtain ⟨l⟩ := cs
    match l, hcl with
    | [u0, u1], _ =>
      simp only [List.drop_zero, List.take_succ_cons, List.take_zero, List.getElem?_cons_zero, List.drop_succ_cons, List.getElem?_cons_succ] at h0 h1
      obtain ⟨s, es, ex, -⟩ := DataW.trod_string hS h0
      obtain ⟨b, eb, -⟩ := DataW.trod_bool hB h1
      obtain rfl : u0 = .string s := by simpa using es
      obtain rfl : u1 = .bool b := by simpa using eb
      refine ⟨s, b, rfl, ?_⟩
      obtain ⟨rfl, -⟩ : d = .agg ([x0, x1].map (·.1)) ∧ _ := by simpa using hx
      have := hw s.data.toList.length (by simp [DataW.weights, ht, DataW.weightsEach, ex])
      simpa using this
end
end Go.Proofs.YtbbkfjbaocpknaaGreat
