/- The walks of the statements' own functions over the probe: do, like, alive. -/
import Derived.Test.YtbbkfjbaocpknaaBC2
import Derived.Test.YtbbkfjbaocpknaaDense5
namespace Go.Proofs.Ytbbkfjbaocpknaa
open Go.RowKit Nl

def PDoPost (g h : Nat) (l : Int) (r : (Nat × List Nd) × Int) (w : World) (e : Ending) (w' : World) : Prop :=
  e = .returned (.int .i64 r.2) ∧ ∃ h', PnV w' g h' l r.1.1 r.1.2 ∧ (h' = h ∨ w.heap.size ≤ h') ∧ Tch g h w w'

set_option maxRecDepth 100000 in
set_option maxHeartbeats 1000000 in
theorem pb_do {w : World} {g h : Nat} {l : Int} {b : Nat} {xs : List Nd} (kind id c : Int) (d : PnV w g h l b xs) (hb : b + 1 ≤ 40) (hb1 : 1 ≤ b) (bi : -9223372036854775808 ≤ id ∧ id ≤ 9223372036854775807) (bc : -9223372036854775808 ≤ c ∧ c ≤ 9223372036854775807) :
    Calls Try.prog 9 #[.pointer (some ⟨g, 0, none⟩), .agg #[.int .i64 kind, .int .i64 id, .int .i64 c]] w (PDoPost g h l (pDo l b xs kind id c) w) := by
  obtain ⟨hlg, hlh, _⟩ := d.lt
  have hba : Below w.heap.size w (w.alloc (.cells #[.int .i64 kind, .int .i64 id, .int .i64 c] 34)) := (Below.refl _ _).alloc (Nat.le_refl _) _
  have d2 := d.below hba (Nat.le_refl _)
  by_cases hk0 : kind = 0
  · subst hk0
    have e : pDo l b xs 0 id c = (pAdd l b xs id c, pAddCode l xs id c) := rfl
    rw [e]
    clear e
    go_enter Try.func9, Try.ntmps9
    go_wp2_with fail
    refine (p_add id c d2 hb hb1 bi bc).mono ?_
    rintro e w2 ⟨rfl, h', dv, hh, tc⟩
    go_wp2_with fail
    go_ret
    refine ⟨rfl, h', dv, ?_, (Tch.of_below hba).trans tc⟩
    rcases hh with hh | hh
    · exact .inl hh
    · right; simp only [World.size_alloc] at hh; omega
  · by_cases hk1 : kind = 1
    · subst hk1
      have e : pDo l b xs 1 id c = ((b, pTake l b xs id), pGet l b xs id) := rfl
      rw [e]
      clear e hk0
      go_enter Try.func9, Try.ntmps9
      go_wp2_with fail
      refine (p_take id d2 (by omega) hb1 bi).mono ?_
      rintro e w2 ⟨rfl, dv, tc⟩
      go_wp2_with fail
      go_ret
      exact ⟨rfl, h, dv, .inl rfl, (Tch.of_below hba).trans tc⟩
    · have e : pDo l b xs kind id c = ((b, xs), pGet l b xs id) := by unfold pDo; rw [if_neg hk0, if_neg hk1]
      have h0 : (kind == 0) = false := by simpa using hk0
      have h1 : (kind == 1) = false := by simpa using hk1
      rw [e]
      clear e hk0 hk1
      go_enter Try.func9, Try.ntmps9
      go_wp2_with fail
      refine (p_get id d2 (by omega) hb1 bi).mono ?_
      rintro e w2 ⟨rfl, hb2⟩
      go_wp2_with fail
      go_ret
      exact ⟨rfl, h, d2.below hb2 (Nat.le_refl _), .inl rfl, Tch.of_below (hba.trans (hb2.mono (by simp)))⟩

set_option maxRecDepth 100000 in
set_option maxHeartbeats 2000000 in
theorem pb_alive (w : World) : Calls Try.prog 5 #[] w fun e w' => e = .returned (.bool true) ∧ Below w.heap.size w w' := by
  obtain ⟨z0, ez0⟩ : ∃ z, List.replicate 8 ((0 : Int), (0 : Int)) = z := ⟨_, rfl⟩
  have c1 : pAddCode 3 z0 9 2 = 0 := by subst ez0; decide
  have c2 : pGet 3 (pAdd 3 3 z0 9 2).1 (pAdd 3 3 z0 9 2).2 9 = 2 := by subst ez0; decide
  have c3 : (pAdd 3 3 z0 9 2).1 = 3 := by subst ez0; decide
  have c4 : homeV 3 1 = 4 := by decide
  have c5 : homeV 3 2 = 1 := by decide
  have c6 : homeV 3 5 = 0 := by decide
  have C1 := hid c1; have C2 := hid c2; have C3 := hid c3; have C4 := hid c4; have C5 := hid c5; have C6 := hid c6
  have N := hid (p_new 3 w (by decide) (by decide))
  rw [ez0] at N
  clear c1 c2 c3 c4 c5 c6 ez0
  go_enter Try.func5, Try.ntmps5
  go_wp2_with fail
  refine N.out.mono ?_
  rintro e w1 ⟨g, h, rfl, d1, hg, hh, hb1⟩
  go_wp2_with fail
  refine (p_home 3 1 w1 (by decide) (by decide) (by decide) (by decide)).mono ?_
  rintro e w' ⟨rfl, rfl⟩
  rw [C4.out]
  go_wp2_with fail
  refine (p_home 3 2 w1 (by decide) (by decide) (by decide) (by decide)).mono ?_
  rintro e w' ⟨rfl, rfl⟩
  rw [C5.out]
  go_wp2_with fail
  refine (p_home 3 5 w1 (by decide) (by decide) (by decide) (by decide)).mono ?_
  rintro e w' ⟨rfl, rfl⟩
  rw [C6.out]
  go_wp2_with fail
  refine (p_add 9 2 d1 (by decide) (by decide) (by decide) (by decide)).mono ?_
  rintro e w2 ⟨rfl, h', d2, hh', tc2⟩
  rw [C1.out]
  go_wp2_with fail
  refine (p_get 9 d2 (by rw [C3.out]; decide) (by rw [C3.out]; decide) (by decide)).mono ?_
  rintro e w3 ⟨rfl, hb3⟩
  rw [C2.out]
  go_wp2_with fail
  go_ret
  exact ⟨rfl, (hb1.trans (tc2.below hg hh hb1.size)).trans (hb3.mono (by have := hb1.size; have := tc2.size; omega))⟩
end Go.Proofs.Ytbbkfjbaocpknaa
