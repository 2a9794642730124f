/- A digest that is nil: its methods; the walk of DigestNobody. -/
import Derived.Test.YthdljlclcepnhaaGreatDGA
import Derived.Laws.StructEq
namespace Go.Proofs.YthdljlclcepnhaaGreat
open Go.RowKit Nl

theorem dgn_equal_nil_ptr {P : Program} {T e : TypeId} (hT : P.underlying T = some (.pointer e)) (d : Nat) (a : Addr) (w : World) : Sem.run P (Op.equalIn (d + 1) T (.pointer none) (.pointer (some a))) w = .ok false w := by
  have hu : Sem.run P (underlying T) w = .ok (.pointer e) w := by simp [underlying, hT, go_sem]
  unfold Op.equalIn
  simp only [Sem.run_bind, hu, Result.andThen_ok]
  rfl
theorem dgn_nil_ptr {P : Program} {T e : TypeId} (hT : P.underlying T = some (.pointer e)) (a : Addr) (w : World) : Sem.run P (binOp .eql T (.pointer none) (.pointer (some a))) w = .ok (.bool false) w := by
  simp [binOp, Op.equal, go_sem]
  rw [show Op.maxDepth = (Op.maxDepth - 1) + 1 from rfl, dgn_equal_nil_ptr hT]
  rfl
set_option maxRecDepth 100000 in
theorem nd_conf (w : World) : Calls Tryz.prog 13 #[.pointer none] w fun e w' => e = .returned (.agg #[.int .i64 0, .int .i64 0, .int .i64 0]) ∧ Below w.heap.size w w' := by
  go_enter Tryz.func13, Tryz.ntmps13
  go_wp2_with fail
  exact bodyPost_ret (v := .agg #[.int .i64 0, .int .i64 0, .int .i64 0]) (by simp [results, Tryz.results13, go_sem]) rfl ⟨rfl, (Below.refl _ _).alloc (Nat.le_refl _) _⟩
set_option maxRecDepth 100000 in
theorem nd_n (w : World) : Calls Tryz.prog 27 #[.pointer none] w fun e w' => e = .returned (.int .i64 0) ∧ w = w' := by
  go_enter Tryz.func27, Tryz.ntmps27
  go_wp2_with fail
  go_ret
  exact ⟨rfl, rfl⟩
set_option maxRecDepth 100000 in
theorem nd_len (w : World) : Calls Tryz.prog 99 #[.pointer none] w fun e w' => e = .returned (.int .i64 0) ∧ w = w' := by
  go_enter Tryz.func99, Tryz.ntmps99
  go_wp2_with fail
  go_ret
  exact ⟨rfl, rfl⟩
set_option maxRecDepth 100000 in
theorem nd_compress (w : World) : Calls Tryz.prog 60 #[.pointer none] w fun e w' => e = .returned (.int .i64 0) ∧ w = w' := by
  go_enter Tryz.func60, Tryz.ntmps60
  go_wp2_with fail
  go_ret
  exact ⟨rfl, rfl⟩
set_option maxRecDepth 100000 in
theorem nd_nodes (w : World) : Calls Tryz.prog 26 #[.pointer none] w fun e w' => e = .returned (.slice none 0 0) ∧ w = w' := by
  go_enter Tryz.func26, Tryz.ntmps26
  go_wp2_with fail
  go_ret
  exact ⟨rfl, rfl⟩
set_option maxRecDepth 100000 in
theorem nd_insert (x wt : Int) (w : World) : Calls Tryz.prog 62 #[.pointer none, .int .i64 x, .int .i64 wt] w fun e w' => e = .returned (.int .i64 1) ∧ w = w' := by
  go_enter Tryz.func62, Tryz.ntmps62
  go_wp2_with fail
  go_ret
  exact ⟨rfl, rfl⟩
set_option maxRecDepth 100000 in
theorem nd_same (w : World) : Calls Tryz.prog 12 #[.pointer none, .pointer none] w fun e w' => e = .returned (.bool true) ∧ w = w' := by
  go_enter Tryz.func12, Tryz.ntmps12
  go_wp2_with fail
  go_ret
  exact ⟨rfl, rfl⟩
set_option maxRecDepth 100000 in
theorem nd_same_l (b : Nat) (w : World) : Calls Tryz.prog 12 #[.pointer none, .pointer (some ⟨b, 0, none⟩)] w fun e w' => e = .returned (.bool false) ∧ w = w' := by
  have hnp := dgn_nil_ptr (P := Tryz.prog) (T := 30) Tryz.underlying30 ⟨b, 0, none⟩ w
  go_enter Tryz.func12, Tryz.ntmps12
  go_wp2_with fail
  go_ret
  exact ⟨rfl, rfl⟩
set_option maxRecDepth 100000 in
theorem nd_same_r (b : Nat) (w : World) : Calls Tryz.prog 12 #[.pointer (some ⟨b, 0, none⟩), .pointer none] w fun e w' => e = .returned (.bool false) ∧ w = w' := by
  go_enter Tryz.func12, Tryz.ntmps12
  go_wp2_with fail
  go_ret
  exact ⟨rfl, rfl⟩
set_option maxRecDepth 100000 in
theorem nd_reset (w : World) : Calls Tryz.prog 61 #[.pointer none] w fun e w' => e = .returned (.tuple #[]) ∧ w = w' := by
  go_enter Tryz.func61, Tryz.ntmps61
  go_wp2_with fail
  (try simp only [Exit.inBlock, Exit.then])
  refine bodyPost_ret (results_none rfl _ _ _) rfl ?_
  exact ⟨rfl, rfl⟩

end Go.Proofs.YthdljlclcepnhaaGreat
