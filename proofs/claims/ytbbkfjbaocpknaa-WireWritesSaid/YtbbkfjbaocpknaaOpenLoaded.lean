/- An argument that is a conf, and nodes. -/
import Derived.Test.YtbbkfjbaocpknaaGO
import Derived.Test.YtbbkfjbaocpknaaBA
namespace Go.Proofs.Ytbbkfjbaocpknaa
open Go.RowKit Go.ChangeShapes Go.WideShapes Go.ChangeAt

def RdL (w : World) (v : Value) (x : Int × Int × Int × Value × List Nd) : Prop :=
  v = .agg #[.int .i64 x.1, .int .i64 x.2.1, .int .i64 x.2.2.1, x.2.2.2.1] ∧ ((Lit.int .i64 x.1).wf = true ∧ (Lit.int .i64 x.2.1).wf = true ∧ (Lit.int .i64 x.2.2.1).wf = true) ∧ RdA w x.2.2.2.1 x.2.2.2.2
set_option maxRecDepth 100000 in
theorem open_loaded {H : Type} {enc : TypeId × Value → H} {w : World} {base b0 : Nat} {spare : Nat → Bool} {held : Bool} {r : Reach} {v : Value} {d : DataW H} {ps : List MemPlace}
    (hv : Value.okWide Try.prog w r b0 48 v) (h : DataW.Trod enc Try.prog w base spare held 48 v d ps) : ∃ x, RdL w v x := by
  obtain ⟨v0, v1, v2, v3, rfl, ⟨ok0, d0, p0, t0⟩, ok1, d1, p1, t1⟩ := open_pair (I := 3) (c := 46) (e := 29) Try.underlying48 rfl rfl rfl rfl Try.underlying46 Try.underlying29 (by kernel_rfl) (by kernel_rfl) (by kernel_rfl) (by kernel_rfl) (by kernel_rfl) hv h
  obtain ⟨a, b, c, hq, wa, wb, wc⟩ := open_conf ok0 t0
  obtain ⟨os, hos⟩ := open_nodes ok1 t1
  simp only [Value.agg.injEq, Array.mk.injEq, List.cons.injEq, and_true] at hq
  obtain ⟨rfl, rfl, rfl⟩ := hq
  exact ⟨(a, b, c, v3, os), rfl, ⟨wa, wb, wc⟩, hos⟩
end Go.Proofs.Ytbbkfjbaocpknaa
