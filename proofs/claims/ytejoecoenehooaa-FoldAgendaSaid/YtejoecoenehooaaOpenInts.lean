/- An argument that is a slice of ints. -/
import Derived.Test.YtejoecoenehooaaOpenNodes
import Derived.Test.YtejoecoenehooaaNi
namespace Go.Proofs.Ytejoecoenehooaa
open Go.RowKit Go.ChangeShapes Go.WideShapes Go.ChangeAt

/-- A slice that reads as ints. -/
def RdIA (w : World) (v : Value) (xs : List Int) : Prop := RdI w v xs ∧ (∀ x ∈ xs, In64 x) ∧ xs.length ≤ 9223372036854775807
set_option maxRecDepth 100000 in
theorem open_ints {H : Type} {enc : TypeId × Value → H} {w : World} {base b0 : Nat} {spare : Nat → Bool} {held : Bool} {r : Reach} {v : Value} {d : DataW H} {ps : List MemPlace}
    (hv : Value.okWide Try.prog w r b0 22 v) (h : DataW.Trod enc Try.prog w base spare held 22 v d ps) : ∃ xs, RdIA w v xs := by
  obtain ⟨p, len, cap, rfl⟩ := okWide_slice Try.underlying22 hv
  obtain ⟨fuel, hf⟩ := h
  rcases Deep.open_slice1 Try.underlying22 (by kernel_rfl) hf with ⟨h0, _⟩ | ⟨a, len', cap', m, n', V, D, Pl, hcs, _, hl, hm, hmm, _, hi⟩
  · simp [Value.cells] at h0
    obtain ⟨rfl, rfl, rfl⟩ := h0
    exact ⟨[], RdI.nil w, by simp, by simp⟩
  · simp [Value.cells] at hcs
    obtain ⟨rfl, rfl, rfl⟩ := hcs
    have hlm : len ≤ m := by rw [hmm]; split <;> omega
    have key : ∀ k, k < len → w.cell? (a.add k) = some (.int .i64 (intAt w (a.add k))) ∧ In64 (intAt w (a.add k)) := by
      intro k hk
      obtain ⟨hc, ht'⟩ := hi k (by omega)
      obtain ⟨z, hz, _, hw⟩ := DataW.trod_int Try.underlying3 ht'
      simp only [List.cons.injEq, and_true] at hz
      rw [hz] at hc
      have h3 : intAt w (a.add k) = z := by unfold intAt; rw [hc]
      rw [h3]
      exact ⟨hc, bd_i64 _ hw⟩
    by_cases h0 : len = 0
    · subst h0; exact ⟨[], .inr (.inl ⟨a, cap, rfl, rfl⟩), by simp, by simp⟩
    · have hk0 := (key 0 (by omega)).1
      have hs := spot_none hk0
      obtain ⟨g, off, s⟩ := a
      have hs' : s = none := by simpa [Addr.add] using hs
      subst hs'
      have hadd : ∀ k, (⟨g, off, none⟩ : Addr).add k = ⟨g, off + k, none⟩ := fun k => by unfold Addr.add; split <;> simp_all
      have hlen : ((List.range len).map fun k => intAt w ⟨g, off + k, none⟩).length = len := by simp
      refine ⟨(List.range len).map fun k => intAt w ⟨g, off + k, none⟩, .inr (.inr ⟨g, off, cap, by rw [hlen], ?_, by rw [hlen]; exact hl, fun k hk => ?_⟩), fun x hx => ?_, by rw [hlen]; unfold maxLen at hm; omega⟩
      · exact World.block_lt_of_cell? w _ hk0
      · rw [hlen] at hk
        have e : ((List.range len).map fun k => intAt w ⟨g, off + k, none⟩).getD k 0 = intAt w ⟨g, off + k, none⟩ := by simp [List.getD, hk]
        rw [e, ← hadd]
        exact (key k hk).1
      · simp only [List.mem_map, List.mem_range] at hx
        obtain ⟨k, hk, rfl⟩ := hx
        rw [← hadd]; exact (key k hk).2
end Go.Proofs.Ytejoecoenehooaa
