/- An argument that is a slice of calls. -/
import Derived.Test.YtbbkfjbaocpknaaBA
namespace Go.Proofs.Ytbbkfjbaocpknaa
open Go.ChangeShapes Go.WideShapes Go.ChangeAt Go.RowKit

set_option maxRecDepth 100000 in
theorem open_ops {H : Type} {enc : TypeId × Value → H} {w : World} {base b0 : Nat} {spare : Nat → Bool} {held : Bool} {r : Reach} {v : Value} {d : DataW H} {ps : List MemPlace}
    (hv : Value.okWide Try.prog w r b0 22 v) (h : DataW.Trod enc Try.prog w base spare held 22 v d ps) : ∃ os, RdO w v os := by
  obtain ⟨p, len, cap, F, rfl, hl, hF⟩ := open_recs (n := 3) (I := 3) Try.underlying22 Try.underlying34 Try.underlying3 (by decide) (by kernel_rfl) (by kernel_rfl)
    (fun j hj => match j, hj with | 0, _ => ⟨_, rfl, rfl⟩ | 1, _ => ⟨_, rfl, rfl⟩ | 2, _ => ⟨_, rfl, rfl⟩) hv h
  have hlen : ((List.range len).map fun k => (F k 0, F k 1, F k 2)).length = len := by simp
  refine ⟨(List.range len).map fun k => (F k 0, F k 1, F k 2), p, cap, by rw [hlen], by rw [hlen]; unfold maxLen at hl; omega, fun k hk => ?_⟩
  rw [hlen] at hk
  have e : ((List.range len).map fun k => (F k 0, F k 1, F k 2)).getD k (0, 0, 0) = (F k 0, F k 1, F k 2) := by
    simp [List.getD, hk]
  rw [e]
  obtain ⟨g, off, hp, c0, w0⟩ := hF k hk 0 (by omega)
  obtain ⟨g1, off1, hp1, c1, w1⟩ := hF k hk 1 (by omega)
  obtain ⟨g2, off2, hp2, c2, w2⟩ := hF k hk 2 (by omega)
  rw [hp] at hp1 hp2
  simp only [Option.some.injEq, Addr.mk.injEq, and_true] at hp1 hp2
  obtain ⟨rfl, rfl⟩ := hp1
  obtain ⟨rfl, rfl⟩ := hp2
  exact ⟨g, off, hp, World.block_lt_of_cell? w _ c0, c0, by rwa [← Nat.add_assoc] at c1, by rwa [← Nat.add_assoc] at c2, bd_i64 _ w0, bd_i64 _ w1, bd_i64 _ w2⟩
end Go.Proofs.Ytbbkfjbaocpknaa
