/- An argument that is a slice of nodes. -/
import Derived.Test.YtejoecoenehooaaOpenRecs
import Derived.Test.YtejoecoenehooaaNd
namespace Go.Proofs.Ytejoecoenehooaa
open Go.RowKit Go.ChangeShapes Go.WideShapes Go.ChangeAt

/-- What every int is. -/
def In64 (n : Int) : Prop := -9223372036854775808 ≤ n ∧ n ≤ 9223372036854775807
/-- Nodes whose numbers and weights are ints. -/
def NB (xs : List Nd) : Prop := ∀ x ∈ xs, In64 x.1 ∧ In64 x.2
theorem NB.at {xs : List Nd} (h : NB xs) {k : Nat} {a c : Int} (hk : k < xs.length) (e : xs.getD k (0, 0) = (a, c)) : In64 a ∧ In64 c := by
  have := h _ (getD_mem (d := ((0, 0) : Nd)) xs k hk)
  rw [e] at this; exact this
/-- A slice that reads as nodes: their number is a length, each an int. -/
def RdA (w : World) (v : Value) (xs : List Nd) : Prop := RdN w v xs ∧ NB xs ∧ xs.length ≤ 9223372036854775807
set_option maxRecDepth 100000 in
theorem open_nodes {H : Type} {enc : TypeId × Value → H} {w : World} {base b0 : Nat} {spare : Nat → Bool} {held : Bool} {r : Reach} {v : Value} {d : DataW H} {ps : List MemPlace}
    (hv : Value.okWide Try.prog w r b0 33 v) (h : DataW.Trod enc Try.prog w base spare held 33 v d ps) : ∃ xs, RdA w v xs := by
  have hO := okWide_slice Try.underlying33 hv
  obtain ⟨p0, len0, cap0, rfl⟩ := hO
  have h' := h
  obtain ⟨fuel, hf⟩ := h'
  have hcases : (p0 = none ∧ len0 = 0 ∧ cap0 = 0) ∨ (∃ a, p0 = some a) ∧ len0 ≤ cap0 := by
    rcases Deep.open_slice Try.underlying33 hf with ⟨h0, _⟩ | ⟨a, len', cap', m, n', D, Pl, hcs, _, hl, hm, hmm, _, hi⟩
    · simp [Value.cells] at h0; exact .inl h0
    · simp [Value.cells] at hcs
      obtain ⟨rfl, rfl, rfl⟩ := hcs
      exact .inr ⟨⟨a, rfl⟩, hl⟩
  obtain ⟨p, len, cap, F, hv2, hl, hF⟩ := open_recs (n := 2) (I := 3) Try.underlying33 Try.underlying100 Try.underlying3 rfl (by kernel_rfl) (by kernel_rfl)
    (fun j hj => match j, hj with | 0, _ => ⟨_, rfl, rfl⟩ | 1, _ => ⟨_, rfl, rfl⟩) hv h
  simp only [Value.slice.injEq] at hv2
  obtain ⟨rfl, rfl, rfl⟩ := hv2
  have hlen : ((List.range len0).map fun k => (F k 0, F k 1)).length = len0 := by simp
  have hat : ∀ k, k < len0 → ((List.range len0).map fun k => (F k 0, F k 1)).getD k (0, 0) = (F k 0, F k 1) := fun k hk => by simp [List.getD, hk]
  refine ⟨(List.range len0).map fun k => (F k 0, F k 1), ?_, ?_, by rw [hlen]; unfold maxLen at hl; omega⟩
  · rcases hcases with ⟨rfl, rfl, rfl⟩ | ⟨⟨a, rfl⟩, hle⟩
    · exact .inl ⟨rfl, rfl⟩
    · by_cases h0 : len0 = 0
      · subst h0; exact .inr (.inl ⟨a, cap0, rfl, rfl⟩)
      · obtain ⟨g, off, hp, c0, _⟩ := hF 0 (by omega) 0 (by omega)
        simp only [Option.some.injEq] at hp
        subst hp
        refine .inr (.inr ⟨g, off, cap0, by rw [hlen], World.block_lt_of_cell? w _ c0, by rw [hlen]; exact hle, fun k hk => ?_⟩)
        rw [hlen] at hk
        rw [hat k hk]
        obtain ⟨g1, off1, hp1, c1, _⟩ := hF k hk 0 (by omega)
        obtain ⟨g2, off2, hp2, c2, _⟩ := hF k hk 1 (by omega)
        simp only [Option.some.injEq, Addr.mk.injEq, and_true] at hp1 hp2
        obtain ⟨rfl, rfl⟩ := hp1
        obtain ⟨rfl, rfl⟩ := hp2
        exact ⟨by rwa [Nat.add_zero] at c1, by rwa [← Nat.add_assoc] at c2⟩
  · intro x hx
    obtain ⟨k, hk, rfl⟩ := List.mem_map.1 hx
    have hk' : k < len0 := List.mem_range.1 hk
    obtain ⟨_, _, _, _, w0⟩ := hF k hk' 0 (by omega)
    obtain ⟨_, _, _, _, w1⟩ := hF k hk' 1 (by omega)
    exact ⟨bd_i64 _ w0, bd_i64 _ w1⟩
end Go.Proofs.Ytejoecoenehooaa
