/- The statement SheetNumbersSaid, proved: whatever its 3 parameters hold, the function returns true, and each argument reads as it did. No conditions. -/
import Derived.Test.YthdljlclcepnhaaSh10
import Derived.Test.YthdljlclcepnhaaBA
import Derived.ChangeMaps5
namespace Go.Proofs.Ythdljlclcepnhaa.sheetNumbers
open Go.ChangeShapes Go.WideShapes Go.ChangeAt Go.RowKit Go.ChangeMaps

theorem own : ownKnob Try.prog.godebug = none := by kernel_rfl

set_option maxRecDepth 100000 in
theorem lifted (os : Os) (started : os.Started) (H : Type) (enc : TypeId × Value → H) :
    ReturnsInHanded {} Try.checked os 4 .any (Rows.sheetNumbersSpec.pre6 enc Try.prog Try.f4 Rows.sheetNumbersRow.domain false) (Rows.sheetNumbersSpec.post enc Try.prog Try.f4 false true false false) := by
  refine returnsInHanded_of_change (C := Try.checked) own started (by kernel_rfl) Try.func4
    (ChangeSpec.witness6 (enc := enc) (C := Try.checked) false ⟨#[], #[.int .i64 0, .string ByteArray.empty, .agg #[.int .i64 0, .int .i64 0, .int .i64 0]], []⟩ 8 (by kernel_rfl) (by kernel_rfl) (by kernel_rfl) (by kernel_rfl)) ?_
  intro W base args ds gs before hval0 hW _ _
  have hval : ∀ (j : Nat) t v, Try.f4.params[j]? = some t → args[j]? = some v → Value.okWide Try.prog W .any base t v := hval0
  have hW' := hW
  obtain ⟨p, q, hA0, hV, rfl, _, _⟩ := hW
  have hA : DataW.TrodAll enc Try.prog W 0 (fun _ => true) true Try.f4.params.toList args.toList ds p := hA0
  rw [Try.params4] at hA hval
  obtain ⟨v0, vs0, d0, ds0, p0, q0, hargs, rfl, rfl, h0, r0⟩ := trodAll_cons hA
  obtain ⟨v1, vs1, d1, ds1, p1, q1, rfl, rfl, rfl, h1, r1⟩ := trodAll_cons r0
  obtain ⟨v2, vs2, d2, ds2, p2, q2, rfl, rfl, rfl, h2, r2⟩ := trodAll_cons r1
  obtain ⟨rfl, rfl, rfl⟩ := trodAll_nil r2
  obtain rfl : args = #[v0, v1, v2] := by cases args; simp_all
  obtain ⟨rfl, rfl⟩ := trodVars_none hV
  have hlt := fun x hx => hW'.lt x hx
  obtain ⟨a0, rfl, rfl, rfl, w0⟩ := open_int Try.underlying3 (hval 0 3 v0 rfl rfl) h0
  obtain ⟨s1, rfl, rfl, rfl, w1⟩ := open_string Try.underlying9 (hval 1 9 v1 rfl rfl) h1
  obtain ⟨zs2, hz2, hl2, wz2⟩ := open_arr Try.underlying40 Try.underlying3 (by kernel_rfl) (by kernel_rfl) (hval 2 40 v2 rfl rfl) h2
  obtain ⟨a2_0, a2_1, a2_2, rfl⟩ : ∃ a2_0 a2_1 a2_2, zs2 = [a2_0, a2_1, a2_2] := by
    match zs2, hl2 with
    | [a2_0, a2_1, a2_2], _ => exact ⟨a2_0, a2_1, a2_2, rfl⟩
  have hz2' : v2 = .agg #[.int .i64 a2_0, .int .i64 a2_1, .int .i64 a2_2] := by rw [hz2]; rfl
  clear hz2
  clear hA0 hval0
  simp only [List.append_nil] at hW'
  have hwalk2 := hz2'
  have hwalk := SheetNumbers_walk a0 s1 a2_0 a2_1 a2_2 W (bd_i64 _ w0) w1 (bd_i64 _ (wz2 a2_0 (by simp))).1 (bd_i64 _ (wz2 a2_0 (by simp))).2 (bd_i64 _ (wz2 a2_1 (by simp))).1 (bd_i64 _ (wz2 a2_1 (by simp))).2 (bd_i64 _ (wz2 a2_2 (by simp))).1 (bd_i64 _ (wz2 a2_2 (by simp))).2
  rw [← hz2'] at hwalk
  refine hwalk.mono fun e W' ⟨he, hb⟩ => ?_
  subst he
  exact ⟨_, rfl, _, _, _, [], _, [], hW', trodAll_cons_mk (shut_bool Try.underlying4 _) trodAll_mk0, (trodAll_cons_mk (shut_int Try.underlying3 w0) (trodAll_cons_mk (shut_string Try.underlying9 w1) (trodAll_cons_mk (Below.trod Try.laidOut (by kernel_rfl) (of_decide_eq_true (by kernel_rfl)) h2 hb (fun x hx => hlt x (by simp [hx]))) trodAll_mk0))), rfl, hb.frame _, fun h => by cases h⟩

theorem over : Rows.sheetNumbersRow.holds Try.pinned (OpenSpec.ofChange Rows.sheetNumbersSpec) :=
  OpenClaim.holds_of_wide 4 Try.f4 rfl rfl rfl rfl rfl rfl rfl ⟨rfl, rfl, rfl, rfl, rfl⟩ rfl rfl rfl rfl rfl (by kernel_rfl) Try.func4 (by kernel_rfl)
    (of_decide_eq_true (by kernel_rfl)) (by unfold Func.isWrapper; first | (rw [if_pos (by decide +kernel)]; kernel_rfl) | (rw [if_neg (by decide +kernel)]; exact ⟨rfl, rfl⟩))
    (fun os started H enc _ => lifted os started H enc)

/-- The statement. -/
theorem proved : Rows.SheetNumbersSaid :=
  over
end Go.Proofs.Ythdljlclcepnhaa.sheetNumbers
