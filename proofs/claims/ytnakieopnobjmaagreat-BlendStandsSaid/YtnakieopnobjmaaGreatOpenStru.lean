/- An argument that is a struct of ints, by value. -/
import Derived.Test.YtnakieopnobjmaaGreatBA
import Derived.Deep.Fields
import Derived.Deep.Slices
namespace Go.Proofs.YtnakieopnobjmaaGreat
open Go.RowKit Go.ChangeShapes Go.WideShapes Go.ChangeAt

def intOf0 (v : Value) : Int := match v with | .int _ z => z | _ => 0
section
variable {H : Type} {enc : TypeId × Value → H} {P : Program} {w : World} {base b0 : Nat} {spare : Nat → Bool} {held : Bool} {r : Reach} {t I : TypeId} {v : Value} {d : DataW H} {ps : List MemPlace}
/-- Its cells are ints. -/
theorem open_stru {n : Nat} {fs : Array Field} (ht : P.underlying t = some (.struct fs)) (hI : P.underlying I = some (.int .i64)) (hn : fs.size = n) (hone : Deep.oneCellFields P fs = true) (hC : P.cellsOf t = n)
    (hfs : ∀ j, j < n → ∃ f, fs[j]? = some f ∧ f.type = I)
    (hv : Value.okWide P w r b0 t v) (h : DataW.Trod enc P w base spare held t v d ps) :
    ∃ zs : List Int, zs.length = n ∧ v = .agg (zs.map (Value.int .i64)).toArray ∧ ∀ z ∈ zs, (Lit.int .i64 z).wf = true := by
  unfold Value.okWide at hv
  rw [ht] at hv
  obtain ⟨cs, rfl, _, _⟩ := hv
  obtain ⟨fuel, hf⟩ := h
  simp only [Value.cells] at hf
  obtain ⟨ys, n2, _, _, hcl, hyl, hff⟩ := DataW.trod_struct ht hf
  rw [hC] at hcl
  have key : ∀ j (hj : j < cs.toList.length), cs.toList[j]'hj = .int .i64 (intOf0 (cs.toList[j]'hj)) ∧ (Lit.int .i64 (intOf0 (cs.toList[j]'hj))).wf = true := by
    intro j hj
    obtain ⟨f, hfj, hfI⟩ := hfs j (by omega)
    obtain ⟨ho, hk1⟩ := Deep.hone_of hone j f hfj
    have h1 := hff j f hfj
    rw [ho, hk1, hfI] at h1
    have hd : (cs.toList.drop j).take 1 = [cs.toList[j]'hj] := by rw [List.drop_eq_getElem_cons hj]; rfl
    rw [hd, List.getElem?_eq_getElem (show j < ys.length by omega)] at h1
    obtain ⟨z, hz, _, hw⟩ := DataW.trod_int hI h1
    simp only [List.cons.injEq, and_true] at hz
    rw [hz]
    exact ⟨rfl, hw⟩
  refine ⟨cs.toList.map intOf0, by simpa using hcl, ?_, ?_⟩
  · congr 1
    apply Array.toList_inj.1
    apply List.ext_getElem
    · simp
    · intro j h1 h2
      simp only [List.getElem_map]
      exact (key j h1).1
  · intro z hz
    obtain ⟨c, hc, rfl⟩ := List.mem_map.1 hz
    obtain ⟨j, hj, rfl⟩ := List.getElem_of_mem hc
    exact (key j hj).2
end
end Go.Proofs.YtnakieopnobjmaaGreat
