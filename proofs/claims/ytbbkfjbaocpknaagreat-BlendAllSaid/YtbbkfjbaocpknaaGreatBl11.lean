/- The walk of BlendLowers. -/
import Derived.Test.YtbbkfjbaocpknaaGreatBL2
import Derived.Test.YtbbkfjbaocpknaaGreatDgNil
import Derived.Test.YtbbkfjbaocpknaaGreatGO
namespace Go.Proofs.YtbbkfjbaocpknaaGreat
open Go.RowKit Nl

set_option maxRecDepth 100000 in
set_option maxHeartbeats 1000000 in
theorem bl_lower_nil (k : Int) (w : World) :
    Calls Tryz.prog 39 #[.pointer none, .int .i64 k] w fun e w' => e = .returned (.tuple #[.pointer none, .int .i64 1]) ∧ Below w.heap.size w w' := by
  have CF := hid (fun W : World => nd_conf W)
  go_enter Tryz.func39, Tryz.ntmps39
  go_wp2_with fail
  refine (CF.out _).mono ?_
  rintro e w1 ⟨rfl, hb1⟩
  have hs1 := hb1.size
  go_wp2_with fail
  go_ret2
  exact ⟨rfl, hb1.trans (((Below.refl _ _).alloc (Nat.le_refl _) _).mono hs1)⟩

/-- What a side is that may be tried. -/
def FewC (l k kind : Int) (n : Nat) (b : Bool) : Prop := b = true → poolIs kind l = true ∧ isK k = true ∧ n ≤ 60
theorem s_few_any (l k kind : Int) (v : Value) (os : List Op3) (w : World) (ho : RdO w v os) :
    Calls Tryz.prog 8 #[.agg #[.int .i64 l, .int .i64 k, .int .i64 kind, v]] w fun e w' => ∃ b, e = .returned (.bool b) ∧ FewC l k kind os.length b ∧ Below w.heap.size w w' := by
  cases hP : (isK k && poolIs kind l)
  · exact s_few l k kind v os w ho (FewC l k kind os.length) (fun W => (d_few_no l k kind os.length W hP).mono fun e w' ⟨h1, h2⟩ => ⟨false, h1, fun h => (by cases h), h2⟩)
  · simp only [Bool.and_eq_true] at hP
    have hl : 1 ≤ l ∧ l ≤ 48 := by have := hP.2; unfold poolIs at this; simp at this; omega
    exact s_few l k kind v os w ho (FewC l k kind os.length) (fun W => (d_few l k kind os.length W hP.1 hP.2 (by omega) hl.1 hl.2).mono fun e w' ⟨b, h1, h2, h3⟩ => ⟨b, h1, fun h => ⟨hP.2, hP.1, by have := h2 h; omega⟩, h3⟩)

end Go.Proofs.YtbbkfjbaocpknaaGreat
