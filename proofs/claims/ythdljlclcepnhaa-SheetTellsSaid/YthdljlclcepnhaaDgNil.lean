/- A digest that is nil: its methods; the walk of DigestNobody. -/
import Derived.Test.YthdljlclcepnhaaDg4
import Derived.Laws.StructEq
namespace Go.Proofs.Ythdljlclcepnhaa
open Go.RowKit Nl

theorem dgn_equal_nil_ptr {P : Program} {T e : TypeId} (hT : P.underlying T = some (.pointer e)) (d : Nat) (a : Addr) (w : World) : Sem.run P (Op.equalIn (d + 1) T (.pointer none) (.pointer (some a))) w = .ok false w := by
  have hu : Sem.run P (underlying T) w = .ok (.pointer e) w := by simp [underlying, hT, go_sem]
  unfold Op.equalIn
  simp only [Sem.run_bind, hu, Result.andThen_ok]
  rfl
theorem dgn_nil_ptr {P : Program} {T e : TypeId} (hT : P.underlying T = some (.pointer e)) (a : Addr) (w : World) : Sem.run P (binOp .eql T (.pointer none) (.pointer (some a))) w = .ok (.bool false) w := by
  simp [binOp, Op.equal, go_sem]
  rw [show Op.maxDepth = (Op.maxDepth - 1) + 1 from rfl, dgn_equal_nil_ptr hT]
  rfl
set_option maxRecDepth 100000 in
theorem nd_conf (w : World) : Calls Try.prog 20 #[.pointer none] w fun e w' => e = .returned (.agg #[.int .i64 0, .int .i64 0, .int .i64 0]) ∧ Below w.heap.size w w' := by
  go_enter Try.func20, Try.ntmps20
  go_wp2_with fail
  exact bodyPost_ret (v := .agg #[.int .i64 0, .int .i64 0, .int .i64 0]) (by simp [results, Try.results20, go_sem]) rfl ⟨rfl, (Below.refl _ _).alloc (Nat.le_refl _) _⟩
set_option maxRecDepth 100000 in
theorem nd_n (w : World) : Calls Try.prog 21 #[.pointer none] w fun e w' => e = .returned (.int .i64 0) ∧ w = w' := by
  go_enter Try.func21, Try.ntmps21
  go_wp2_with fail
  go_ret
  exact ⟨rfl, rfl⟩
set_option maxRecDepth 100000 in
theorem nd_nodes (w : World) : Calls Try.prog 22 #[.pointer none] w fun e w' => e = .returned (.slice none 0 0) ∧ w = w' := by
  go_enter Try.func22, Try.ntmps22
  go_wp2_with fail
  go_ret
  exact ⟨rfl, rfl⟩
end Go.Proofs.Ythdljlclcepnhaa
