/- An argument that is what is wanted. -/
import Derived.Test.YtbbkfjbaocpknaaGreatGO
namespace Go.Proofs.YtbbkfjbaocpknaaGreat
open Go.RowKit Go.ChangeShapes Go.WideShapes Go.ChangeAt

set_option maxRecDepth 100000 in
theorem open_want {H : Type} {enc : TypeId × Value → H} {w : World} {base b0 : Nat} {spare : Nat → Bool} {held : Bool} {r : Reach} {v : Value} {d : DataW H} {ps : List MemPlace}
    (hv : Value.okWide Tryz.prog w r b0 48 v) (h : DataW.Trod enc Tryz.prog w base spare held 48 v d ps) :
    ∃ a b c e : Int, v = .agg #[.int .i64 a, .int .i64 b, .int .i64 c, .int .i64 e] ∧ (Lit.int .i64 a).wf = true ∧ (Lit.int .i64 b).wf = true ∧ (Lit.int .i64 c).wf = true ∧ (Lit.int .i64 e).wf = true := by
  obtain ⟨zs, hl, rfl, hw⟩ := open_stru (n := 4) (I := 3) Tryz.underlying48 Tryz.underlying3 (by decide) (by kernel_rfl) (by kernel_rfl)
    (fun j hj => match j, hj with | 0, _ => ⟨_, rfl, rfl⟩ | 1, _ => ⟨_, rfl, rfl⟩ | 2, _ => ⟨_, rfl, rfl⟩ | 3, _ => ⟨_, rfl, rfl⟩) hv h
  match zs, hl with
  | [a, b, c, e], _ => exact ⟨a, b, c, e, rfl, hw a (by simp), hw b (by simp), hw c (by simp), hw e (by simp)⟩
end Go.Proofs.YtbbkfjbaocpknaaGreat
