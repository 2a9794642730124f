/- The walks of the reference's layer 12: Is, Cap, Tight, Light, Bound. -/
import Derived.Test.YtbbkfjbaocpknaaGreatPr3
namespace Go.Proofs.YtbbkfjbaocpknaaGreat
open Go.RowKit Nl

set_option maxRecDepth 100000 in
set_option maxHeartbeats 400000 in
theorem r_Is (k : Int) (w : World) : Calls Tryz.prog 134 #[.int .i64 k] w fun e w' => e = .returned (.bool (isK k)) ∧ w = w' := by
  by_cases h1 : k < 1
  · have e : isK k = false := by simp [isK]; omega
    rw [e]; clear e
    go_enter Tryz.func134, Tryz.ntmps134
    go_wp2_with fail
    go_ret
    exact ⟨rfl, rfl⟩
  · have e : isK k = decide (k ≤ 1048576) := by simp [isK]; omega
    rw [e]; clear e
    go_enter Tryz.func134, Tryz.ntmps134
    go_wp2_with fail
    go_ret
    exact ⟨rfl, rfl⟩
set_option maxRecDepth 100000 in
set_option maxHeartbeats 400000 in
theorem r_ccap {w : World} {l : Int} {zs : List Nd} {v : Value} (k : Int) (hr : RdN w v zs) (hl : zs.length < 1048576) (hroll : Roll l zs) (bk : In64 k) :
    Calls Tryz.prog 138 #[.agg #[.int .i64 l, v], .int .i64 k] w fun e w' => e = .returned (.int .i64 (capV (sumL zs) k)) ∧ Below w.heap.size w w' := by
  obtain ⟨p, cap, rfl⟩ := hr.val
  have hs := hroll.sum
  have ht := hroll.tot
  have T0 := fun W (q : RdN W (.slice p zs.length cap) zs) => r_sttotal l W q hl
  simp only [ht] at T0
  have T := hid T0
  have C := hid (fun W : World => r_cap (sumL zs) k W ⟨by omega, by omega⟩ bk)
  have hba : Below w.heap.size w (w.alloc (.cells #[.int .i64 l, .slice p zs.length cap] 35)) := (Below.refl _ _).alloc (Nat.le_refl _) _
  clear T0 ht hs
  go_enter Tryz.func138, Tryz.ntmps138
  go_wp2_with fail
  refine (T.out _ (hr.below hba (Nat.le_refl _))).mono ?_
  rintro e w2 ⟨rfl, hb2⟩
  go_wp2_with fail
  refine (C.out w2).mono ?_
  rintro e w' ⟨rfl, rfl⟩
  go_wp2_with fail
  go_ret
  exact ⟨rfl, hba.trans (hb2.mono (by simp))⟩
set_option maxRecDepth 100000 in
set_option maxHeartbeats 400000 in
theorem p_Light_no (q : Nat) (k : Int) (hk : isK k = false) (w : World) :
    Calls Tryz.prog 102 #[.pointer (some ⟨q, 0, none⟩), .int .i64 k] w fun e w' => e = .returned (.bool false) ∧ Below w.heap.size w w' := by
  have W := hid (fun W : World => p_wrong q k W)
  rw [hk] at W
  clear hk
  have B1 : Blk ((w.alloc (.cells #[.pointer (some ⟨q, 0, none⟩)] 110)).alloc (.cells #[.bool false] 4)) (w.heap.size + 1) #[.bool false] 4 := by
    have h := (Blk.new (w.alloc (.cells #[.pointer (some ⟨q, 0, none⟩)] 110)) #[.bool false] 4)
    simpa using h
  have hba : Below w.heap.size w ((w.alloc (.cells #[.pointer (some ⟨q, 0, none⟩)] 110)).alloc (.cells #[.bool false] 4)) := ((Below.refl _ _).alloc (Nat.le_refl _) _).alloc (by simp) _
  have hsz : ((w.alloc (.cells #[.pointer (some ⟨q, 0, none⟩)] 110)).alloc (.cells #[.bool false] 4)).heap.size = w.heap.size + 2 := by simp
  go_enter Tryz.func102, Tryz.ntmps102
  go_wp2_with fail
  refine (W.out _).mono ?_
  rintro e w' ⟨rfl, rfl⟩
  generalize ((w.alloc (.cells #[.pointer (some ⟨q, 0, none⟩)] 110)).alloc (.cells #[.bool false] 4)) = w1 at *
  have c1 : w1.cell? ⟨w.heap.size + 1, 0, none⟩ = some (.bool false) := B1.cell 0
  have f1 := B1.free 0
  go_wp2_with fail
  have Z := B1.set 0 (.bool false)
  have z0 : World.cell? _ ⟨w.heap.size + 1, 0, none⟩ = some (.bool false) := Z.cell 0
  exact bodyPost_ret (v := .bool false) (by simp [results, Tryz.results102, go_sem, z0]) rfl ⟨rfl, hba.setCell (p := ⟨w.heap.size + 1, 0, none⟩) (by simp) _⟩

def LgtRel (l most : Int) (zs : List Nd) (b : Nat) (arr : Array Value) (T : Nat) (w : World) (i : Value) (wr : World) : Prop :=
  ∃ k : Nat, i = .int .i64 k ∧ k ≤ zs.length ∧ Hid (∀ j, j < k → heavyB l most (zs.getD j (0, 0)) = false) ∧ Below w.heap.size w wr ∧ Blk wr b arr T
theorem Nl.light_all {l most : Int} {zs : List (Int × Int)} (h : ∀ j, j < zs.length → heavyB l most (zs.getD j (0, 0)) = false) : lightB l zs most = true := by
  unfold lightB
  rw [List.all_eq_true]
  intro x hx
  obtain ⟨k, hk, e⟩ := List.getElem_of_mem hx
  have := h k hk
  rw [List.getD_eq_getElem?_getD, List.getElem?_eq_getElem hk, Option.getD_some, e] at this
  rw [this]; rfl
theorem Nl.light_no {l most : Int} {zs : List (Int × Int)} {k : Nat} (hk : k < zs.length) (h : heavyB l most (zs.getD k (0, 0)) = true) : lightB l zs most = false := by
  unfold lightB
  rw [List.all_eq_false]
  exact ⟨_, getD_mem (d := ((0, 0) : Nd)) zs k hk, by rw [h]; decide⟩

end Go.Proofs.YtbbkfjbaocpknaaGreat
