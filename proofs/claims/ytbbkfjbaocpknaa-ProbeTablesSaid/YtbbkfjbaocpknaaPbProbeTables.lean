/- The statement ProbeTablesSaid, proved: whatever its 3 parameters hold, the function returns true, and each argument reads as it did. No conditions. -/
import Derived.Test.YtbbkfjbaocpknaaHt7
import Derived.Test.YtbbkfjbaocpknaaBA
namespace Go.Proofs.Ytbbkfjbaocpknaa.probeTables
open Go.ChangeShapes Go.WideShapes Go.ChangeAt Go.RowKit

theorem own : ownKnob Try.prog.godebug = none := by kernel_rfl

set_option maxRecDepth 100000 in
theorem lifted (os : Os) (started : os.Started) (H : Type) (enc : TypeId × Value → H) :
    ReturnsInHanded {} Try.checked os 3 .any (Rows.probeTablesSpec.pre6 enc Try.prog Try.f3 Rows.probeTablesRow.domain false) (Rows.probeTablesSpec.post enc Try.prog Try.f3 false true false false) := by
  refine returnsInHanded_of_change (C := Try.checked) own started (by kernel_rfl) Try.func3
    (ChangeSpec.witness6 (enc := enc) (C := Try.checked) false ⟨#[], #[.int .i64 0, .slice none 0 0, .agg #[.int .i64 0, .int .i64 0]], []⟩ 8 (by kernel_rfl) (by kernel_rfl) (by kernel_rfl) (by kernel_rfl)) ?_
  intro W base args ds gs before hval0 hW _ _
  have hval : ∀ (j : Nat) t v, Try.f3.params[j]? = some t → args[j]? = some v → Value.okWide Try.prog W .any base t v := hval0
  have hW' := hW
  obtain ⟨p, q, hA0, hV, rfl, _, _⟩ := hW
  have hA : DataW.TrodAll enc Try.prog W 0 (fun _ => true) true Try.f3.params.toList args.toList ds p := hA0
  rw [Try.params3] at hA hval
  obtain ⟨v0, vs0, d0, ds0, p0, q0, hargs, rfl, rfl, h0, r0⟩ := trodAll_cons hA
  obtain ⟨v1, vs1, d1, ds1, p1, q1, rfl, rfl, rfl, h1, r1⟩ := trodAll_cons r0
  obtain ⟨v2, vs2, d2, ds2, p2, q2, rfl, rfl, rfl, h2, r2⟩ := trodAll_cons r1
  obtain ⟨rfl, rfl, rfl⟩ := trodAll_nil r2
  obtain rfl : args = #[v0, v1, v2] := by cases args; simp_all
  obtain ⟨rfl, rfl⟩ := trodVars_none hV
  have hlt := fun x hx => hW'.lt x hx
  obtain ⟨a0, rfl, rfl, rfl, w0⟩ := open_int Try.underlying3 (hval 0 3 v0 rfl rfl) h0
  obtain ⟨xs1, hr1⟩ := open_ops (hval 1 22 v1 rfl rfl) h1
  obtain ⟨zs2, hz2, hl2, wz2⟩ := open_arr Try.underlying23 Try.underlying3 (by kernel_rfl) (by kernel_rfl) (hval 2 23 v2 rfl rfl) h2
  obtain ⟨a2_0, a2_1, rfl⟩ : ∃ a2_0 a2_1, zs2 = [a2_0, a2_1] := by
    match zs2, hl2 with
    | [a2_0, a2_1], _ => exact ⟨a2_0, a2_1, rfl⟩
  have hz2' : v2 = .agg #[.int .i64 a2_0, .int .i64 a2_1] := by rw [hz2]; rfl
  clear hz2
  clear hA0 hval0
  simp only [List.append_nil] at hW'
  have hwalk2 := hz2'
  have hwalk := ProbeTables_walk a0 v1 xs1 a2_0 a2_1 W (bd_i64 _ w0).1 (bd_i64 _ w0).2 hr1 (bd_i64 _ (wz2 a2_0 (by simp))).1 (bd_i64 _ (wz2 a2_0 (by simp))).2 (bd_i64 _ (wz2 a2_1 (by simp))).1 (bd_i64 _ (wz2 a2_1 (by simp))).2
  rw [← hz2'] at hwalk
  refine hwalk.mono fun e W' ⟨he, hb⟩ => ?_
  subst he
  exact ⟨_, rfl, _, _, _, [], _, [], hW', trodAll_cons_mk (shut_bool Try.underlying4 _) trodAll_mk0, (trodAll_cons_mk (shut_int Try.underlying3 w0) (trodAll_cons_mk (Below.trod Try.laidOut (by kernel_rfl) (of_decide_eq_true (by kernel_rfl)) h1 hb (fun x hx => hlt x (by simp [hx]))) (trodAll_cons_mk (Below.trod Try.laidOut (by kernel_rfl) (of_decide_eq_true (by kernel_rfl)) h2 hb (fun x hx => hlt x (by simp [hx]))) trodAll_mk0))), rfl, hb.frame _, fun h => by cases h⟩

theorem over : Rows.probeTablesRow.holds Try.pinned (OpenSpec.ofChange Rows.probeTablesSpec) :=
  OpenClaim.holds_of_wide 3 Try.f3 rfl rfl rfl rfl rfl rfl rfl ⟨rfl, rfl, rfl, rfl, rfl⟩ rfl rfl rfl rfl rfl (by kernel_rfl) Try.func3 (by kernel_rfl)
    (of_decide_eq_true (by kernel_rfl)) (by unfold Func.isWrapper; first | (rw [if_pos (by decide +kernel)]; kernel_rfl) | (rw [if_neg (by decide +kernel)]; exact ⟨rfl, rfl⟩))
    (fun os started H enc _ => lifted os started H enc)

/-- The statement. -/
theorem proved : Rows.ProbeTablesSaid :=
  over
end Go.Proofs.Ytbbkfjbaocpknaa.probeTables
