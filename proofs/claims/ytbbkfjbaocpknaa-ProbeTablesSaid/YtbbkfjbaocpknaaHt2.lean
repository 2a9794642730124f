/- The walks of the reference's table: Slots2, Nodes, Get, Walk, way, New. -/
import Derived.Test.YtbbkfjbaocpknaaHt1
import Derived.Deep.LoopGhost
namespace Go.Proofs.Ytbbkfjbaocpknaa
open Go.RowKit Nl

namespace Nl
theorem fold_full {b : Nat} {xs : List (Int × Int)} (T : Tab b xs) (hs : sumL xs ≤ 72057594037927935) : foldL (full xs) = some (snapP xs) := by
  have hpos : Pos (full xs) := fun x hx => by have := (T.full_ok x hx).2; omega
  have ht : totOk (full xs) = true := by unfold totOk; rw [totF_pos hpos (by rw [full_sum T.pos]; omega)]; rfl
  unfold foldL
  rw [if_pos ht]
  exact pass_strict (out := []) (xs := snapP xs) (snapP_strict T) (fun y hy => absurd hy (List.not_mem_nil))
end Nl
def HSlotRel (B : Nat) (w : World) (xs : List Nd) (gn : Nat) (out i : Value) (wr : World) : Prop :=
  ∃ k : Nat, i = .int .i64 k ∧ k ≤ xs.length ∧ xs.length - k ≤ gn ∧ OwnN wr B out (full (xs.take k)) ∧ Below B w wr
set_option maxRecDepth 100000 in
set_option maxHeartbeats 1000000 in
theorem h_slots2 {w : World} {l : Int} {b : Nat} {v : Value} {xs : List Nd} (hr : RdN w v xs) (hcl : xs.length < 1048576) :
    Calls Try.prog 49 #[.agg #[.int .i64 l, .int .i64 b, v]] w (IsNodes (full xs) w) := by
  obtain ⟨p, cap, rfl⟩ := hr.val
  have X1 := Blk.new w #[.int .i64 l, .int .i64 b, .slice p xs.length cap] 31
  have hb1 : Below w.heap.size w (w.alloc (.cells #[.int .i64 l, .int .i64 b, .slice p xs.length cap] 31)) := (Below.refl _ _).alloc (Nat.le_refl _) _
  have r1 := hr.below hb1 (Nat.le_refl _)
  clear hr
  go_enter Try.func49, Try.ntmps49
  go_wp2_with fail
  generalize (w.alloc (.cells #[.int .i64 l, .int .i64 b, .slice p xs.length cap] 31)) = w1 at *
  go_loopg [3, 4] xs.length (fun gn out i wr => HSlotRel w1.heap.size w1 xs gn out i wr)
  case atStart => exact ⟨0, rfl, Nat.zero_le _, Nat.le_refl _, by simp [full]; exact OwnN.nil _ _, Below.refl _ _⟩
  case round =>
    obtain ⟨k, rfl, hk, hgn, hown, hbl⟩ := hrel
    have hwr := hbl.size
    have y2 : wr.cell? ⟨w.heap.size, 2, none⟩ = some (.slice p xs.length cap) := (X1.below hbl (Nat.le_refl _)).cell 2
    by_cases h1 : k < xs.length
    · obtain ⟨gs, off, y, x, hp, ex, hgs, q1, q2⟩ := (r1.below hbl (Nat.le_refl _)).at h1
      subst hp
      have hst := full_take k h1
      have hca : cntA xs k = x := by unfold cntA; rw [ex]
      have hia : idA xs k = y := by unfold idA; rw [ex]
      rw [hca, hia] at hst
      have Hst := hid hst
      have hsl : (full (xs.take k)).length ≤ k := by
        rw [full_length]; have := occ_le (xs.take k); rw [List.length_take] at this; omega
      clear hst hca hia ex
      generalize full (xs.take k) = zs at *
      obtain ⟨p', cap', rfl⟩ := hown.val
      by_cases h2 : 0 < x
      · go_wp2_with (at_builtin; refine appendN (wr := wr) (b := y) (c := x) _ _ hown (by omega) (by omega) rfl rfl rfl rfl rfl ?_; intro v3 w3 ho3 hg3 hnn)
        go_roundg (xs.length - (k + 1))
        case rel => exact ⟨k + 1, by go_num, by omega, Nat.le_refl _, by rw [Hst.out, if_pos h2]; exact ho3, hbl.grown hg3 (by omega) hown.lt⟩
        case measure => omega
      · go_wp2_with fail
        go_roundg (xs.length - (k + 1))
        case rel => exact ⟨k + 1, by go_num, by omega, Nat.le_refl _, by rw [Hst.out, if_neg (by omega)]; simpa using hown, hbl⟩
        case measure => omega
    · rw [List.take_of_length_le (by omega)] at hown
      go_wp2_with fail
      go_ret
      exact ⟨_, rfl, hown.mono hb1.size, hb1.trans (hbl.mono hb1.size)⟩
set_option maxRecDepth 100000 in
set_option maxHeartbeats 1000000 in
theorem h_nodes {w : World} {l : Int} {b : Nat} {v : Value} {xs : List Nd} (hr : RdN w v xs) (T : Tab b xs) (hs : sumL xs ≤ 72057594037927935) (hcl : xs.length < 1000000) :
    Calls Try.prog 48 #[.agg #[.int .i64 l, .int .i64 b, v]] w (IsNodes (snapP xs) w) := by
  obtain ⟨p, cap, rfl⟩ := hr.val
  have hb1 : Below w.heap.size w (w.alloc (.cells #[.int .i64 l, .int .i64 b, .slice p xs.length cap] 31)) := (Below.refl _ _).alloc (Nat.le_refl _) _
  have r1 := hr.below hb1 (Nat.le_refl _)
  have FF := hid (fold_full T hs)
  have hfl : (full xs).length < 1048576 := by rw [full_length]; have := occ_le xs; omega
  have SL := hid (h_slots2 (l := l) (b := b) r1 (by omega))
  have FO := hid (fun W v (y : RdN W v (full xs)) => r_fold W y hfl)
  clear hr r1 T
  go_enter Try.func48, Try.ntmps48
  go_wp2_with fail
  refine SL.out.mono ?_
  rintro e w2 ⟨v2, rfl, on, hb2⟩
  have hbw := hb1.trans (hb2.mono hb1.size)
  clear SL hb1 hb2
  go_wp2_with fail
  refine (FO.out _ _ on.rd).mono ?_
  rintro e w3 (⟨v3, zs, hf, rfl, o3, hb3⟩ | ⟨hf, -, -⟩)
  · rw [FF.out] at hf
    obtain rfl := Option.some.inj hf
    have hbz := hbw.trans (hb3.mono hbw.size)
    clear FO on
    go_wp2_with fail
    go_ret
    exact ⟨_, rfl, o3.mono hbw.size, hbz⟩
  · rw [FF.out] at hf; exact absurd hf (by simp)
set_option maxRecDepth 100000 in
theorem h_way {w : World} {l : Int} {b : Nat} {v : Value} {xs : List Nd} (i j : Nat) (hr : RdN w v xs) (hi : i < xs.length) (hj : j < xs.length) (hcl : xs.length < 1000000) :
    Calls Try.prog 52 #[.agg #[.int .i64 l, .int .i64 b, v], .int .i64 i, .int .i64 j] w fun e w' => e = .returned (.int .i64 (way xs.length i j : Nat)) ∧ Below w.heap.size w w' := by
  obtain ⟨p, cap, rfl⟩ := hr.val
  have hb1 : Below w.heap.size w (w.alloc (.cells #[.int .i64 l, .int .i64 b, .slice p xs.length cap] 31)) := (Below.refl _ _).alloc (Nat.le_refl _) _
  have hm : Hid (((j : Int) - i + xs.length) % (xs.length : Int) = ((way xs.length i j : Nat) : Int)) := by
    show _ = _
    unfold way
    rw [show ((j : Int) - i + xs.length) = ((j + xs.length - i : Nat) : Int) by omega]
    simp
  generalize way xs.length i j = W at *
  generalize xs.length = N at *
  go_enter Try.func52, Try.ntmps52
  go_wp2_with fail
  go_ret
  exact ⟨ret_int (by first | exact hm.out | (rw [← hm.out])), hb1⟩
set_option maxRecDepth 100000 in
set_option maxHeartbeats 1000000 in
theorem h_get {w : World} {l : Int} {b : Nat} {v : Value} {xs : List Nd} (id : Int) (hr : RdN w v xs) (V : Pv l b xs) (hb1 : 1 ≤ b) (hb : b ≤ 40) (bi : In64 id) :
    Calls Try.prog 26 #[.agg #[.int .i64 l, .int .i64 b, v], .int .i64 id] w fun e w' => e = .returned (.int .i64 (pGet l b xs id)) ∧ Below w.heap.size w w' := by
  obtain ⟨p, cap, rfl⟩ := hr.val
  have hba : Below w.heap.size w (w.alloc (.cells #[.int .i64 l, .int .i64 b, .slice p xs.length cap] 31)) := (Below.refl _ _).alloc (Nat.le_refl _) _
  have X1 := Blk.new w #[.int .i64 l, .int .i64 b, .slice p xs.length cap] 31
  have r1 := hr.below hba (Nat.le_refl _)
  have RT := hid (fun W => r_right l id W (by have := V.l1; omega) (by have := V.l2; omega) bi.1 bi.2)
  cases er : rightB l id
  · have E : Hid (pGet l b xs id = 0) := by show _ = _; unfold pGet; rw [er]; rfl
    rw [er] at RT
    go_enter Try.func26, Try.ntmps26
    go_wp2_with fail
    refine (RT.out _).mono ?_
    rintro e w' ⟨rfl, rfl⟩
    go_wp2_with fail
    go_ret
    exact ⟨ret_int E.out.symm, hba⟩
  · have E : Hid (pGet l b xs id = cntA xs (lookI xs b id)) := by show _ = _; unfold pGet; rw [er]; rfl
    rw [er] at RT
    have hi1 := right_pos er
    obtain ⟨em, he, hs⟩ := V.empty
    have F := hid (fun W (y : RdN W (.slice p xs.length cap) xs) => h_find (l := l) id y V.tab hb1 hb he (hs id) ⟨hi1, bi.2⟩)
    have hli := (look_spec V.tab id he (hs id)).2.2.1
    clear V hr hs
    generalize lookI xs b id = q at *
    generalize lookD xs b id = d at *
    go_enter Try.func26, Try.ntmps26
    go_wp2_with fail
    generalize (w.alloc (.cells #[.int .i64 l, .int .i64 b, .slice p xs.length cap] 31)) = w1 at *
    refine (RT.out _).mono ?_
    rintro e w' ⟨rfl, rfl⟩
    have x0 : w1.cell? ⟨w.heap.size, 0, none⟩ = some (.int .i64 l) := X1.cell 0
    have x1 : w1.cell? ⟨w.heap.size, 1, none⟩ = some (.int .i64 b) := X1.cell 1
    have x2 : w1.cell? ⟨w.heap.size, 2, none⟩ = some (.slice p xs.length cap) := X1.cell 2
    go_wp2_with fail
    refine (F.out _ r1).mono ?_
    rintro e w2 ⟨rfl, hb2⟩
    obtain ⟨gs, off, y, x, hp, ex, hgs, q1, q2⟩ := (r1.below hb2 (Nat.le_refl _)).at hli
    subst hp
    have hca : cntA xs q = x := by unfold cntA; rw [ex]
    have E2 := hid (E.out.trans hca)
    have X2 := X1.below hb2 (Nat.le_refl _)
    clear x0 x1 x2 hca ex
    have x2 : w2.cell? ⟨w.heap.size, 2, none⟩ = some (.slice (some ⟨gs, off, none⟩) xs.length cap) := X2.cell 2
    have hlq : (q : Int) < (xs.length : Int) := by omega
    have hbz := hba.trans (hb2.mono hba.size)
    clear X1 X2 r1 F RT hb2 hba E he
    generalize xs.length = N at *
    as_aux_lemma =>
      go_wp2_with fail
      go_ret
      exact ⟨ret_int E2.out.symm, hbz⟩
set_option maxRecDepth 100000 in
set_option maxHeartbeats 1000000 in
theorem h_walk {w : World} {l : Int} {b : Nat} {v : Value} {xs : List Nd} (id : Int) (hr : RdN w v xs) (V : Pv l b xs) (hb1 : 1 ≤ b) (hb : b ≤ 40) (bi : In64 id) :
    Calls Try.prog 13 #[.agg #[.int .i64 l, .int .i64 b, v], .int .i64 id] w fun e w' => e = .returned (.int .i64 (pWalk l b xs id)) ∧ Below w.heap.size w w' := by
  obtain ⟨p, cap, rfl⟩ := hr.val
  have hba : Below w.heap.size w (w.alloc (.cells #[.int .i64 l, .int .i64 b, .slice p xs.length cap] 31)) := (Below.refl _ _).alloc (Nat.le_refl _) _
  have X1 := Blk.new w #[.int .i64 l, .int .i64 b, .slice p xs.length cap] 31
  have r1 := hr.below hba (Nat.le_refl _)
  have RT := hid (fun W => r_right l id W (by have := V.l1; omega) (by have := V.l2; omega) bi.1 bi.2)
  cases er : rightB l id
  · have E : Hid (pWalk l b xs id = 0) := by show _ = _; unfold pWalk; rw [er]; rfl
    rw [er] at RT
    go_enter Try.func13, Try.ntmps13
    go_wp2_with fail
    refine (RT.out _).mono ?_
    rintro e w' ⟨rfl, rfl⟩
    go_wp2_with fail
    go_ret
    exact ⟨ret_int E.out.symm, hba⟩
  · have E : Hid (pWalk l b xs id = (lookD xs b id : Int) + 1) := by show _ = _; unfold pWalk; rw [er]; rfl
    rw [er] at RT
    have hi1 := right_pos er
    obtain ⟨em, he, hs⟩ := V.empty
    have F := hid (fun W (y : RdN W (.slice p xs.length cap) xs) => h_find (l := l) id y V.tab hb1 hb he (hs id) ⟨hi1, bi.2⟩)
    clear V hr hs
    generalize lookI xs b id = q at *
    generalize lookD xs b id = d at *
    go_enter Try.func13, Try.ntmps13
    go_wp2_with fail
    generalize (w.alloc (.cells #[.int .i64 l, .int .i64 b, .slice p xs.length cap] 31)) = w1 at *
    refine (RT.out _).mono ?_
    rintro e w' ⟨rfl, rfl⟩
    have x0 : w1.cell? ⟨w.heap.size, 0, none⟩ = some (.int .i64 l) := X1.cell 0
    have x1 : w1.cell? ⟨w.heap.size, 1, none⟩ = some (.int .i64 b) := X1.cell 1
    have x2 : w1.cell? ⟨w.heap.size, 2, none⟩ = some (.slice p xs.length cap) := X1.cell 2
    go_wp2_with fail
    refine (F.out _ r1).mono ?_
    rintro e w2 ⟨rfl, hb2⟩
    go_wp2_with fail
    go_ret
    exact ⟨ret_int E.out.symm, hba.trans (hb2.mono hba.size)⟩
end Go.Proofs.Ytbbkfjbaocpknaa
