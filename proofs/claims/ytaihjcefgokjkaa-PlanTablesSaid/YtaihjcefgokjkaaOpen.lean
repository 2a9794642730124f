/- Arguments, opened: arrays of integers, by value. -/
import Derived.Test.YtaihjcefgokjkaaRows
import Derived.ProofKit
import Derived.OpenShut
namespace Go.Proofs.Ytaihjcefgokjkaa
open Go.ChangeShapes Go.WideShapes Go.ChangeAt Go.RowKit

theorem Try.laidOut : laidOutB Try.prog = true := by kernel_rfl

theorem bd_i64 (a : Int) (h : (Lit.int .i64 a).wf = true) : -9223372036854775808 ≤ a ∧ a ≤ 9223372036854775807 := bounds_i64 h
theorem bd_u64 (a : Int) (h : (Lit.int .u64 a).wf = true) : 0 ≤ a ∧ a ≤ 18446744073709551615 := bounds_u64 h

section
variable {H : Type} {enc : TypeId × Value → H} {P : Program} {w : World} {base b0 : Nat} {spare : Nat → Bool} {held : Bool} {r : Reach} {t e : TypeId} {v : Value} {d : DataW H} {ps : List MemPlace}

/-- An array of integers, by value: the integers. -/
theorem open_arr {k : IntKind} {n : Nat} (ht : P.underlying t = some (.array n e)) (he : P.underlying e = some (.int k)) (hce : P.cellsOf e = 1) (hct : P.cellsOf t = n)
    (hv : Value.okWide P w r b0 t v) (h : DataW.Trod enc P w base spare held t v d ps) :
    ∃ zs : List Int, v = .agg (zs.map (Value.int k)).toArray ∧ zs.length = n ∧ ∀ z ∈ zs, (Lit.int k z).wf = true := by
  simp only [Value.okWide, ht] at hv
  obtain ⟨cs, rfl, hsz, _⟩ := hv
  obtain ⟨fuel, hf⟩ := h
  simp only [Value.cells] at hf
  obtain ⟨xs, m, _, _, hcl, _, hel⟩ := DataW.trod_array ht hf
  rw [hct] at hcl
  have key : ∀ i, i < n → ∃ z, cs.toList[i]? = some (.int k z) ∧ (Lit.int k z).wf = true := by
    intro i hi
    have h1 := hel i hi
    rw [hce, Nat.mul_one] at h1
    have h2 : (cs.toList.drop i).take 1 = [cs.toList[i]'(by omega)] := by
      rw [List.drop_eq_getElem_cons (by omega)]; simp
    rw [h2] at h1
    cases hx : xs[i]? with
    | none =>
      rw [hx] at h1
      have : xs.length ≤ i := by simpa using hx
      omega
    | some y =>
      rw [hx] at h1
      obtain ⟨z, hz, _, hw⟩ := DataW.trod_int he h1
      simp only [List.cons.injEq, and_true] at hz
      exact ⟨z, by rw [List.getElem?_eq_getElem (by omega), hz], hw⟩
  refine ⟨cs.toList.map intOf, ?_, by simpa using hcl, ?_⟩
  · congr 1
    apply Array.ext'
    rw [List.map_map]
    refine List.ext_getElem? fun i => ?_
    by_cases hi : i < n
    · obtain ⟨z, hz, _⟩ := key i hi
      simp [hz, intOf]
    · rw [List.getElem?_eq_none (by omega), List.getElem?_eq_none (by simp; omega)]
  · intro z hz
    obtain ⟨c, hc, rfl⟩ := List.mem_map.1 hz
    obtain ⟨i, hi, rfl⟩ := List.getElem_of_mem hc
    obtain ⟨z, hz, hw⟩ := key i (by omega)
    rw [List.getElem?_eq_getElem hi] at hz
    simp only [Option.some.injEq] at hz
    rw [hz]; exact hw
end
end Go.Proofs.Ytaihjcefgokjkaa
