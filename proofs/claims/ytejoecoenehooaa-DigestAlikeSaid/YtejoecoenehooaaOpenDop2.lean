/- An argument that is two slices of calls of a digest. -/
import Derived.Test.YtejoecoenehooaaOpenDop
namespace Go.Proofs.Ytejoecoenehooaa
open Go.ChangeShapes Go.WideShapes Go.ChangeAt Go.RowKit

theorem open_two {H : Type} {enc : TypeId × Value → H} {P : Program} {w : World} {base b0 : Nat} {spare : Nat → Bool} {held : Bool} {r : Reach} {t e e' : TypeId} {v : Value} {d : DataW H} {ps : List MemPlace}
    (ht : P.underlying t = some (.array 2 e)) (he : P.underlying e = some (.slice e')) (hce : P.cellsOf e = 1) (hct : P.cellsOf t = 2) (hts : P.cellTypes P.depth t = some [e, e])
    (hv : Value.okWide P w r b0 t v) (h : DataW.Trod enc P w base spare held t v d ps) :
    ∃ v0 v1, v = .agg #[v0, v1] ∧ (Value.okWide P w r b0 e v0 ∧ ∃ d ps, DataW.Trod enc P w base spare held e v0 d ps) ∧ (Value.okWide P w r b0 e v1 ∧ ∃ d ps, DataW.Trod enc P w base spare held e v1 d ps) := by
  simp only [Value.okWide, ht] at hv
  obtain ⟨cs, rfl, hsz, ts, hts', _, hrow⟩ := hv
  obtain rfl : [e, e] = ts := by rw [hts] at hts'; exact Option.some.inj hts'
  obtain ⟨fuel, hf⟩ := h
  simp only [Value.cells] at hf
  obtain ⟨xs, m, _, _, hcl, hxl, hel⟩ := DataW.trod_array ht hf
  rw [hct] at hsz hcl
  have key : ∀ i (hi : i < 2), ∃ v0, cs[i]? = some v0 ∧ Value.okWide P w r b0 e v0 ∧ ∃ d ps, DataW.Trod enc P w base spare held e v0 d ps := by
    intro i hi
    have h1 := hel i hi
    rw [hce, Nat.mul_one] at h1
    have h2 : (cs.toList.drop i).take 1 = [cs[i]'(by omega)] := by
      rw [List.drop_eq_getElem_cons (by simpa using by omega)]; simp
    rw [h2, List.getElem?_eq_getElem (by omega)] at h1
    have hc : cs[i]? = some (cs[i]'(by omega)) := Array.getElem?_eq_getElem (by omega)
    obtain ⟨u, hu, hok⟩ := hrow i _ hc
    have hue : u = e := by
      have hi' : i = 0 ∨ i = 1 := by omega
      rcases hi' with rfl | rfl <;> simpa using hu.symm
    subst hue
    have hok' : Value.okWide P w r b0 u (cs[i]'(by omega)) := by simp only [Value.okWide, he]; exact hok
    obtain ⟨p, len, cap, hs⟩ := okWide_slice he hok'
    refine ⟨_, hc, hok', (xs[i]'(by omega)).1, (xs[i]'(by omega)).2, m, ?_⟩
    rw [hs] at h1 ⊢
    exact h1
  obtain ⟨v0, c0, k0⟩ := key 0 (by omega)
  obtain ⟨v1, c1, k1⟩ := key 1 (by omega)
  refine ⟨v0, v1, ?_, k0, k1⟩
  congr 1
  apply Array.ext'
  obtain ⟨l⟩ := cs
  match l, hsz with
  | [a, b], _ => simp at c0 c1; subst c0; subst c1; rfl

set_option maxRecDepth 100000 in
theorem open_dops2 {H : Type} {enc : TypeId × Value → H} {w : World} {base b0 : Nat} {spare : Nat → Bool} {held : Bool} {r : Reach} {v : Value} {d : DataW H} {ps : List MemPlace}
    (hv : Value.okWide Try.prog w r b0 93 v) (h : DataW.Trod enc Try.prog w base spare held 93 v d ps) : ∃ xs : Value × Value × List Op3 × List Op3, v = .agg #[xs.1, xs.2.1] ∧ RdO w xs.1 xs.2.2.1 ∧ RdO w xs.2.1 xs.2.2.2 := by
  obtain ⟨v0, v1, rfl, ⟨ok0, d0, p0, t0⟩, ok1, d1, p1, t1⟩ := open_two Try.underlying93 Try.underlying69 (by kernel_rfl) (by kernel_rfl) (by kernel_rfl) hv h
  obtain ⟨o0, h0⟩ := open_dops ok0 t0
  obtain ⟨o1, h1⟩ := open_dops ok1 t1
  exact ⟨(v0, v1, o0, o1), rfl, h0, h1⟩
end Go.Proofs.Ytejoecoenehooaa
