/- The walks of the probe: Size, Slot, Walk. -/
import Derived.Test.YtbbkfjbaocpknaaBC
namespace Go.Proofs.Ytbbkfjbaocpknaa
open Go.RowKit Nl

set_option maxRecDepth 100000 in
set_option maxHeartbeats 400000 in
theorem p_size {w : World} {g h : Nat} {l u t : Int} {b : Nat} {xs : List Nd} (d : Pn w g h l b u t xs) :
    Calls Try.prog 10 #[.pointer (some ⟨g, 0, none⟩)] w fun e w' => e = .returned (.int .i64 xs.length) ∧ w = w' := by
  obtain ⟨cap, c0⟩ := d.c4
  go_enter Try.func10, Try.ntmps10
  go_wp2
  go_ret
  exact ⟨rfl, rfl⟩

set_option maxRecDepth 100000 in
set_option maxHeartbeats 400000 in
theorem p_slot {w : World} {g h : Nat} {l u t : Int} {b : Nat} {xs : List Nd} (i : Int) (d : Pn w g h l b u t xs) :
    Calls Try.prog 11 #[.pointer (some ⟨g, 0, none⟩), .int .i64 i] w fun e w' => e = .returned (.agg #[.int .i64 (pSlot xs i).1, .int .i64 (pSlot xs i).2]) ∧ Below w.heap.size w w' := by
  obtain ⟨capc4, c4⟩ := d.c4
  have hlg := d.lg
  have hlh := d.lh
  by_cases h1 : i < 0
  · have e : pSlot xs i = (0, 0) := by unfold pSlot; rw [if_pos h1]
    rw [e]
    clear e
    go_enter Try.func11, Try.ntmps11
    go_wp2
    exact bodyPost_ret (v := .agg #[.int .i64 0, .int .i64 0]) (by simp [results, Try.results11, go_sem]) rfl ⟨rfl, (Below.refl _ _).alloc (Nat.le_refl _) _⟩
  · obtain ⟨n, rfl⟩ := Int.eq_ofNat_of_zero_le (show 0 ≤ i by omega)
    by_cases h2 : n < xs.length
    · obtain ⟨q1, q2⟩ := d.at h2
      have e : pSlot xs (n : Int) = (idA xs n, cntA xs n) := by unfold pSlot; rw [if_neg (by omega)]; rfl
      rw [e]
      generalize idA xs n = y at *
      generalize cntA xs n = x at *
      clear e
      go_enter Try.func11, Try.ntmps11
      go_wp2
      exact bodyPost_ret (v := .agg #[.int .i64 y, .int .i64 x]) (by simp [results, Try.results11, go_sem]) rfl ⟨rfl, (Below.refl _ _).alloc (Nat.le_refl _) _⟩
    · have e : pSlot xs (n : Int) = (0, 0) := by unfold pSlot; rw [if_neg (by omega)]; simp [List.getD, List.getElem?_eq_none (show xs.length ≤ n by omega)]
      rw [e]
      clear e
      go_enter Try.func11, Try.ntmps11
      go_wp2
      exact bodyPost_ret (v := .agg #[.int .i64 0, .int .i64 0]) (by simp [results, Try.results11, go_sem]) rfl ⟨rfl, (Below.refl _ _).alloc (Nat.le_refl _) _⟩

set_option maxRecDepth 100000 in
set_option maxHeartbeats 1000000 in
theorem p_walk {w : World} {g h : Nat} {l : Int} {b : Nat} {xs : List Nd} (id : Int) (d : PnV w g h l b xs) (hb : b ≤ 40) (hb1 : 1 ≤ b) (bi : -9223372036854775808 ≤ id ∧ id ≤ 9223372036854775807) :
    Calls Try.prog 12 #[.pointer (some ⟨g, 0, none⟩), .int .i64 id] w fun e w' => e = .returned (.int .i64 (pWalk l b xs id)) ∧ Below w.heap.size w w' := by
  obtain ⟨d, v⟩ := d
  obtain ⟨r, er⟩ : ∃ r, rightB l id = r := ⟨_, rfl⟩
  have Er := hid er
  cases r
  · have e : pWalk l b xs id = 0 := by unfold pWalk; rw [er]; rfl
    rw [e]
    clear er e
    go_enter Try.func12, Try.ntmps12
    go_wp2_with fail
    refine (p_right id d ⟨v.l1, v.l2⟩ bi).mono ?_
    rintro e w' ⟨rfl, rfl⟩
    rw [Er.out]
    go_wp2_with fail
    go_ret
    exact ⟨rfl, Below.refl _ _⟩
  · have e : pWalk l b xs id = (lookD xs b id : Int) + 1 := by unfold pWalk; rw [er]; rfl
    rw [e]
    obtain ⟨em, he, hs⟩ := v.empty
    have h1 := right_pos er
    have L := hid (p_look id d v.tab hb1 hb he (hs id) ⟨h1, bi.2⟩)
    clear er e hs
    go_enter Try.func12, Try.ntmps12
    go_wp2_with fail
    refine (p_right id d ⟨v.l1, v.l2⟩ bi).mono ?_
    rintro e w' ⟨rfl, rfl⟩
    rw [Er.out]
    go_wp2_with fail
    refine L.out.mono ?_
    rintro e w' ⟨rfl, hb⟩
    go_wp2_with fail
    go_ret
    exact ⟨rfl, hb⟩

end Go.Proofs.Ytbbkfjbaocpknaa
