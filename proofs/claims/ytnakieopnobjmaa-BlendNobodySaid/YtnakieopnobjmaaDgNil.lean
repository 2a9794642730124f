/- A digest that is nil: its methods; the walk of DigestNobody. -/
import Derived.Test.YtnakieopnobjmaaDg4
import Derived.Laws.StructEq
namespace Go.Proofs.Ytnakieopnobjmaa
open Go.RowKit Nl

theorem dgn_equal_nil_ptr {P : Program} {T e : TypeId} (hT : P.underlying T = some (.pointer e)) (d : Nat) (a : Addr) (w : World) : Sem.run P (Op.equalIn (d + 1) T (.pointer none) (.pointer (some a))) w = .ok false w := by
  have hu : Sem.run P (underlying T) w = .ok (.pointer e) w := by simp [underlying, hT, go_sem]
  unfold Op.equalIn
  simp only [Sem.run_bind, hu, Result.andThen_ok]
  rfl
theorem dgn_nil_ptr {P : Program} {T e : TypeId} (hT : P.underlying T = some (.pointer e)) (a : Addr) (w : World) : Sem.run P (binOp .eql T (.pointer none) (.pointer (some a))) w = .ok (.bool false) w := by
  simp [binOp, Op.equal, go_sem]
  rw [show Op.maxDepth = (Op.maxDepth - 1) + 1 from rfl, dgn_equal_nil_ptr hT]
  rfl
set_option maxRecDepth 100000 in
theorem nd_conf (w : World) : Calls Try.prog 11 #[.pointer none] w fun e w' => e = .returned (.agg #[.int .i64 0, .int .i64 0, .int .i64 0]) ∧ Below w.heap.size w w' := by
  go_enter Try.func11, Try.ntmps11
  go_wp2_with fail
  exact bodyPost_ret (v := .agg #[.int .i64 0, .int .i64 0, .int .i64 0]) (by simp [results, Try.results11, go_sem]) rfl ⟨rfl, (Below.refl _ _).alloc (Nat.le_refl _) _⟩
set_option maxRecDepth 100000 in
theorem nd_n (w : World) : Calls Try.prog 37 #[.pointer none] w fun e w' => e = .returned (.int .i64 0) ∧ w = w' := by
  go_enter Try.func37, Try.ntmps37
  go_wp2_with fail
  go_ret
  exact ⟨rfl, rfl⟩
set_option maxRecDepth 100000 in
theorem nd_len (w : World) : Calls Try.prog 27 #[.pointer none] w fun e w' => e = .returned (.int .i64 0) ∧ w = w' := by
  go_enter Try.func27, Try.ntmps27
  go_wp2_with fail
  go_ret
  exact ⟨rfl, rfl⟩
set_option maxRecDepth 100000 in
theorem nd_compress (w : World) : Calls Try.prog 29 #[.pointer none] w fun e w' => e = .returned (.int .i64 0) ∧ w = w' := by
  go_enter Try.func29, Try.ntmps29
  go_wp2_with fail
  go_ret
  exact ⟨rfl, rfl⟩
set_option maxRecDepth 100000 in
theorem nd_nodes (w : World) : Calls Try.prog 13 #[.pointer none] w fun e w' => e = .returned (.slice none 0 0) ∧ w = w' := by
  go_enter Try.func13, Try.ntmps13
  go_wp2_with fail
  go_ret
  exact ⟨rfl, rfl⟩
set_option maxRecDepth 100000 in
theorem nd_insert (x wt : Int) (w : World) : Calls Try.prog 10 #[.pointer none, .int .i64 x, .int .i64 wt] w fun e w' => e = .returned (.int .i64 1) ∧ w = w' := by
  go_enter Try.func10, Try.ntmps10
  go_wp2_with fail
  go_ret
  exact ⟨rfl, rfl⟩
set_option maxRecDepth 100000 in
theorem nd_reset (w : World) : Calls Try.prog 33 #[.pointer none] w fun e w' => e = .returned (.tuple #[]) ∧ w = w' := by
  go_enter Try.func33, Try.ntmps33
  go_wp2_with fail
  (try simp only [Exit.inBlock, Exit.then])
  refine bodyPost_ret (results_none rfl _ _ _) rfl ?_
  exact ⟨rfl, rfl⟩

end Go.Proofs.Ytnakieopnobjmaa
