/- The walks of the reference's layer 13: Is, New, Weight, Cap, Compress. -/
import Derived.Test.YthdljlclcepnhaaGreatDg4
import Derived.Test.YthdljlclcepnhaaGreatPr11
namespace Go.Proofs.YthdljlclcepnhaaGreat
open Go.RowKit Nl

set_option maxRecDepth 100000 in
set_option maxHeartbeats 400000 in
theorem r_leaf (l x : Int) (w : World) (bl : In64 l) (bx : In64 x) :
    Calls Tryz.prog 45 #[.int .i64 l, .int .i64 x] w fun e w' => e = .returned (.tuple #[.int .i64 (leafV l x), .bool (leafB l x)]) ∧ w = w' := by
  obtain ⟨l1, l2⟩ := bl
  obtain ⟨x1, x2⟩ := bx
  by_cases hu : 1 ≤ l ∧ l ≤ 48
  · obtain ⟨h1, h2⟩ := hu
    have P := hid (r_power l w (by omega) h2)
    have hb : leafB l x = decide (0 ≤ x ∧ x < 2 ^ l.toNat) := by
      unfold leafB
      rw [decide_eq_decide]
      generalize (2 : Int) ^ l.toNat = M at *
      omega
    have hv : leafV l x = if leafB l x then 2 ^ l.toNat + x else 0 := rfl
    have hp := pow48 (n := l.toNat) (by omega)
    rw [hb] at hv ⊢
    generalize leafV l x = V at *
    generalize (2 : Int) ^ l.toNat = M at *
    clear hb
    by_cases h3 : 0 ≤ x
    · by_cases h4 : x < M
      · have e : V = M + x := by rw [hv, if_pos (by simp [h3, h4])]
        have e2 : decide (0 ≤ x ∧ x < M) = true := by simp [h3, h4]
        rw [e, e2]
        clear e e2 hv
        go_enter Tryz.func45, Tryz.ntmps45
        go_wp2_with (first | (go_at_call 17; go_in) | (go_at_call 63; refine P.out.mono ?_; rintro e w' ⟨rfl, rfl⟩))
        go_ret2
        exact ⟨rfl, rfl⟩
      · have e : V = 0 := by rw [hv, if_neg (by simp; omega)]
        have e2 : decide (0 ≤ x ∧ x < M) = false := by simp; omega
        rw [e, e2]
        clear e e2 hv
        go_enter Tryz.func45, Tryz.ntmps45
        go_wp2_with (first | (go_at_call 17; go_in) | (go_at_call 63; refine P.out.mono ?_; rintro e w' ⟨rfl, rfl⟩))
        go_ret2
        exact ⟨rfl, rfl⟩
    · have e : V = 0 := by rw [hv, if_neg (by simp; omega)]
      have e2 : decide (0 ≤ x ∧ x < M) = false := by simp; omega
      rw [e, e2]
      clear e e2 hv
      go_enter Tryz.func45, Tryz.ntmps45
      go_wp2_with (first | (go_at_call 17; go_in))
      go_ret2
      exact ⟨rfl, rfl⟩
  · have e : leafB l x = false := by simp [leafB]; omega
    have e2 : leafV l x = 0 := by simp [leafV, e]
    rw [e, e2]
    clear e e2
    rcases (show l < 1 ∨ 1 ≤ l ∧ 48 < l by omega) with h1 | ⟨h1, h2⟩
    all_goals
      go_enter Tryz.func45, Tryz.ntmps45
      go_wp2_with (first | (go_at_call 17; go_in))
      go_ret2
      exact ⟨rfl, rfl⟩

set_option maxRecDepth 100000 in
set_option maxHeartbeats 400000 in
theorem r_dweight {w : World} {l : Int} {zs : List Nd} {v : Value} (k : Int) (hr : RdN w v zs) (hl : zs.length < 1048576) (hroll : Roll l zs) :
    Calls Tryz.prog 28 #[.agg #[.int .i64 k, .int .i64 l, v]] w fun e w' => e = .returned (.int .i64 (sumL zs)) ∧ Below w.heap.size w w' := by
  obtain ⟨p, cap, rfl⟩ := hr.val
  have ht := hroll.tot
  have T0 := fun W (q : RdN W (.slice p zs.length cap) zs) => r_sttotal l W q hl
  simp only [ht] at T0
  have T := hid T0
  have hba : Below w.heap.size w (w.alloc (.cells #[.int .i64 k, .int .i64 l, .slice p zs.length cap] 27)) := (Below.refl _ _).alloc (Nat.le_refl _) _
  clear T0 ht
  go_enter Tryz.func28, Tryz.ntmps28
  go_wp2_with fail
  refine (T.out _ (hr.below hba (Nat.le_refl _))).mono ?_
  rintro e w2 ⟨rfl, hb2⟩
  go_wp2_with fail
  go_ret
  exact ⟨rfl, hba.trans (hb2.mono (by simp))⟩
/-- What comes of the reference's Compress, Insert, Do. -/
def RDgPost (l k : Int) (R : List Nd × Int) (v0 : Value) (w : World) (e : Ending) (w' : World) : Prop :=
  ∃ v, e = .returned (.tuple #[.agg #[.int .i64 k, .int .i64 l, v], .int .i64 R.2]) ∧ RdN w' v R.1 ∧ FrV v0 v w.heap.size ∧ Below w.heap.size w w'
end Go.Proofs.YthdljlclcepnhaaGreat
