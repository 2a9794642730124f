/- The walks of the statements' own functions over folds: Is, alive. -/
import Derived.Test.YtejoecoenehooaaFold2
import Derived.Test.YtejoecoenehooaaOpenAsked
namespace Go.Proofs.Ytejoecoenehooaa
open Go.RowKit Nl

namespace Nl
/-- May a pool be tried with these nodes? -/
def askB (kind l : Int) (xs : List (Int × Int)) : Bool := decide (xs.length ≤ 60) && poolIs kind l && (kind == 2 || decide (l ≤ 10)) && rollB l xs
end Nl

set_option maxRecDepth 100000 in
set_option maxHeartbeats 1000000 in
theorem f_is {v : Value} {xs : List Nd} (kind l : Int) (w : World) (hr : RdA w v xs) (bl : In64 l) :
    Calls Try.prog 20 #[.int .i64 kind, .int .i64 l, v] w fun e w' => e = .returned (.bool (askB kind l xs)) ∧ Below w.heap.size w w' := by
  obtain ⟨hr, hn, hlen⟩ := hr
  have Is := hid (fun W => r_poolIs kind l W)
  have HR : Hid (askB kind l xs = (decide (xs.length ≤ 60) && poolIs kind l && (kind == 2 || decide (l ≤ 10)) && rollB l xs)) := rfl
  generalize askB kind l xs = A at *
  obtain ⟨p, cap, rfl⟩ := hr.val
  by_cases h1 : 60 < xs.length
  · have e := HR.out
    rw [decide_eq_false (by omega)] at e
    simp only [Bool.false_and] at e
    subst e
    clear HR
    go_enter Try.func20, Try.ntmps20
    go_wp2_with fail
    go_ret
    exact ⟨rfl, Below.refl _ _⟩
  · have Rt := hid (fun W (q : RdN W (.slice p xs.length cap) xs) => r_rightN l W q hn (by omega) bl)
    generalize rollB l xs = R at *
    generalize poolIs kind l = P at *
    have e := HR.out
    rw [decide_eq_true (by omega)] at e
    clear HR
    cases P
    · simp only [Bool.and_false, Bool.false_and] at e
      subst e
      go_enter Try.func20, Try.ntmps20
      go_wp2_with fail
      refine (Is.out w).mono ?_
      rintro e w1 ⟨rfl, rfl⟩
      go_wp2_with fail
      go_ret
      exact ⟨rfl, Below.refl _ _⟩
    · simp only [Bool.true_and] at e
      by_cases hk : kind = 2
      · subst hk
        simp only [beq_self_eq_true, Bool.true_or, Bool.true_and] at e
        subst e
        go_enter Try.func20, Try.ntmps20
        go_wp2_with fail
        refine (Is.out w).mono ?_
        rintro e w1 ⟨rfl, rfl⟩
        go_wp2_with fail
        refine (Rt.out w hr).mono ?_
        rintro e w1 ⟨rfl, hb⟩
        go_wp2_with fail
        go_ret
        exact ⟨rfl, hb⟩
      · have hk2 : (kind == 2) = false := by simpa using hk
        rw [hk2] at e
        clear hk
        by_cases hl : l ≤ 10
        · rw [decide_eq_true hl] at e
          simp only [Bool.false_or, Bool.true_and] at e
          subst e
          go_enter Try.func20, Try.ntmps20
          go_wp2_with fail
          refine (Is.out w).mono ?_
          rintro e w1 ⟨rfl, rfl⟩
          go_wp2_with fail
          refine (Rt.out w hr).mono ?_
          rintro e w1 ⟨rfl, hb⟩
          go_wp2_with fail
          go_ret
          exact ⟨rfl, hb⟩
        · rw [decide_eq_false hl] at e
          simp only [Bool.false_or, Bool.false_and] at e
          subst e
          go_enter Try.func20, Try.ntmps20
          go_wp2_with fail
          refine (Is.out w).mono ?_
          rintro e w1 ⟨rfl, rfl⟩
          go_wp2_with fail
          go_ret
          exact ⟨rfl, Below.refl _ _⟩

set_option maxRecDepth 100000 in
set_option maxHeartbeats 1000000 in
theorem f_alive (w : World) : Calls Try.prog 13 #[] w fun e w' => e = .returned (.bool true) ∧ Below w.heap.size w w' := by
  have R := rd_lit w [(2, 1), (4, 1), (5, 2)] 100 (by decide)
  have hb0 : Below w.heap.size w (w.alloc (.cells (ncells [(2, 1), (4, 1), (5, 2)]).toArray 100)) := (Below.refl _ _).alloc (Nat.le_refl _) _
  have hR : rollB 2 [((2 : Int), (1 : Int)), (4, 1), (5, 2)] = true := by decide
  have N := hid (pl_load 2 2 (w.alloc (.cells (ncells [(2, 1), (4, 1), (5, 2)]).toArray 100)) (by decide) hR R (by intro x hx; simp at hx; rcases hx with rfl | rfl | rfl <;> exact ⟨⟨by decide, by decide⟩, ⟨by decide, by decide⟩⟩) (by decide))
  have e1 := hid (show pairV 2 [((2 : Int), (1 : Int)), (4, 1), (5, 2)] 2 = 3 by decide)
  have e2 := hid (show allV 2 [((2 : Int), (1 : Int)), (4, 1), (5, 2)] 2 = 4 by decide)
  have e3 := hid (show readyB 2 [((2 : Int), (1 : Int)), (4, 1), (5, 2)] 2 4 = true by decide)
  have e4 := hid (show readyB 2 [((2 : Int), (1 : Int)), (4, 1), (5, 2)] 2 3 = false by decide)
  have hL := hid (show [((2 : Int), (1 : Int)), (4, 1), (5, 2)].length ≤ 100000 by decide)
  clear R hR
  have hs0 := hb0.size
  go_enter Try.func13, Try.ntmps13
  go_wp2_with fail
  refine N.out.mono ?_
  rintro e w1 ⟨q, g, h, rfl, d1, hq, hg, hh, hb1⟩
  have hs1 := hb1.size
  generalize [((2 : Int), (1 : Int)), (4, 1), (5, 2)] = zs at *
  go_wp2_with fail
  refine (f_mass 2 d1 hL.out ⟨by decide, by decide⟩).mono ?_
  rintro e w2 ⟨rfl, hb2⟩
  have hs2 := hb2.size
  have d2 := d1.below hb2 (Nat.le_refl _)
  rw [e1.out, e2.out]
  go_wp2_with fail
  refine (f_ready 2 4 d2 hL.out ⟨by decide, by decide⟩).mono ?_
  rintro e w3 ⟨rfl, hb3⟩
  have hs3 := hb3.size
  have d3 := d2.below hb3 (Nat.le_refl _)
  rw [e3.out]
  go_wp2_with fail
  refine (f_ready 2 3 d3 hL.out ⟨by decide, by decide⟩).mono ?_
  rintro e w4 ⟨rfl, hb4⟩
  rw [e4.out]
  go_wp2_with fail
  go_ret
  exact ⟨rfl, (((hb0.trans (hb1.mono hs0)).trans (hb2.mono (by omega))).trans (hb3.mono (by omega))).trans (hb4.mono (by omega))⟩
end Go.Proofs.Ytejoecoenehooaa
