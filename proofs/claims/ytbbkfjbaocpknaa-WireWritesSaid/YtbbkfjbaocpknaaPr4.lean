/- The walks of the reference's layer 12: Is, Cap, Tight, Light, Bound. -/
import Derived.Test.YtbbkfjbaocpknaaPr3
namespace Go.Proofs.Ytbbkfjbaocpknaa
open Go.RowKit Nl

set_option maxRecDepth 100000 in
set_option maxHeartbeats 400000 in
theorem r_Is (k : Int) (w : World) : Calls Try.prog 98 #[.int .i64 k] w fun e w' => e = .returned (.bool (isK k)) ∧ w = w' := by
  by_cases h1 : k < 1
  · have e : isK k = false := by simp [isK]; omega
    rw [e]; clear e
    go_enter Try.func98, Try.ntmps98
    go_wp2_with fail
    go_ret
    exact ⟨rfl, rfl⟩
  · have e : isK k = decide (k ≤ 1048576) := by simp [isK]; omega
    rw [e]; clear e
    go_enter Try.func98, Try.ntmps98
    go_wp2_with fail
    go_ret
    exact ⟨rfl, rfl⟩
set_option maxRecDepth 100000 in
set_option maxHeartbeats 400000 in
theorem r_ccap {w : World} {l : Int} {zs : List Nd} {v : Value} (k : Int) (hr : RdN w v zs) (hl : zs.length < 1048576) (hroll : Roll l zs) (bk : In64 k) :
    Calls Try.prog 102 #[.agg #[.int .i64 l, v], .int .i64 k] w fun e w' => e = .returned (.int .i64 (capV (sumL zs) k)) ∧ Below w.heap.size w w' := by
  obtain ⟨p, cap, rfl⟩ := hr.val
  have hs := hroll.sum
  have ht := hroll.tot
  have T0 := fun W (q : RdN W (.slice p zs.length cap) zs) => r_sttotal l W q hl
  simp only [ht] at T0
  have T := hid T0
  have C := hid (fun W : World => r_cap (sumL zs) k W ⟨by omega, by omega⟩ bk)
  have hba : Below w.heap.size w (w.alloc (.cells #[.int .i64 l, .slice p zs.length cap] 53)) := (Below.refl _ _).alloc (Nat.le_refl _) _
  clear T0 ht hs
  go_enter Try.func102, Try.ntmps102
  go_wp2_with fail
  refine (T.out _ (hr.below hba (Nat.le_refl _))).mono ?_
  rintro e w2 ⟨rfl, hb2⟩
  go_wp2_with fail
  refine (C.out w2).mono ?_
  rintro e w' ⟨rfl, rfl⟩
  go_wp2_with fail
  go_ret
  exact ⟨rfl, hba.trans (hb2.mono (by simp))⟩
set_option maxRecDepth 100000 in
set_option maxHeartbeats 400000 in
theorem p_Light_no (q : Nat) (k : Int) (hk : isK k = false) (w : World) :
    Calls Try.prog 68 #[.pointer (some ⟨q, 0, none⟩), .int .i64 k] w fun e w' => e = .returned (.bool false) ∧ Below w.heap.size w w' := by
  have W := hid (fun W : World => p_wrong q k W)
  rw [hk] at W
  clear hk
  have B1 : Blk ((w.alloc (.cells #[.pointer (some ⟨q, 0, none⟩)] 88)).alloc (.cells #[.bool false] 4)) (w.heap.size + 1) #[.bool false] 4 := by
    have h := (Blk.new (w.alloc (.cells #[.pointer (some ⟨q, 0, none⟩)] 88)) #[.bool false] 4)
    simpa using h
  have hba : Below w.heap.size w ((w.alloc (.cells #[.pointer (some ⟨q, 0, none⟩)] 88)).alloc (.cells #[.bool false] 4)) := ((Below.refl _ _).alloc (Nat.le_refl _) _).alloc (by simp) _
  have hsz : ((w.alloc (.cells #[.pointer (some ⟨q, 0, none⟩)] 88)).alloc (.cells #[.bool false] 4)).heap.size = w.heap.size + 2 := by simp
  go_enter Try.func68, Try.ntmps68
  go_wp2_with fail
  refine (W.out _).mono ?_
  rintro e w' ⟨rfl, rfl⟩
  generalize ((w.alloc (.cells #[.pointer (some ⟨q, 0, none⟩)] 88)).alloc (.cells #[.bool false] 4)) = w1 at *
  have c1 : w1.cell? ⟨w.heap.size + 1, 0, none⟩ = some (.bool false) := B1.cell 0
  have f1 := B1.free 0
  go_wp2_with fail
  have Z := B1.set 0 (.bool false)
  have z0 : World.cell? _ ⟨w.heap.size + 1, 0, none⟩ = some (.bool false) := Z.cell 0
  exact bodyPost_ret (v := .bool false) (by simp [results, Try.results68, go_sem, z0]) rfl ⟨rfl, hba.setCell (p := ⟨w.heap.size + 1, 0, none⟩) (by simp) _⟩

def LgtRel (l most : Int) (zs : List Nd) (b : Nat) (arr : Array Value) (T : Nat) (w : World) (i : Value) (wr : World) : Prop :=
  ∃ k : Nat, i = .int .i64 k ∧ k ≤ zs.length ∧ Hid (∀ j, j < k → heavyB l most (zs.getD j (0, 0)) = false) ∧ Below w.heap.size w wr ∧ Blk wr b arr T
theorem Nl.light_all {l most : Int} {zs : List (Int × Int)} (h : ∀ j, j < zs.length → heavyB l most (zs.getD j (0, 0)) = false) : lightB l zs most = true := by
  unfold lightB
  rw [List.all_eq_true]
  intro x hx
  obtain ⟨k, hk, e⟩ := List.getElem_of_mem hx
  have := h k hk
  rw [List.getD_eq_getElem?_getD, List.getElem?_eq_getElem hk, Option.getD_some, e] at this
  rw [this]; rfl
theorem Nl.light_no {l most : Int} {zs : List (Int × Int)} {k : Nat} (hk : k < zs.length) (h : heavyB l most (zs.getD k (0, 0)) = true) : lightB l zs most = false := by
  unfold lightB
  rw [List.all_eq_false]
  exact ⟨_, getD_mem (d := ((0, 0) : Nd)) zs k hk, by rw [h]; decide⟩

set_option maxRecDepth 100000 in
set_option maxHeartbeats 2000000 in
theorem r_clight {w : World} {l : Int} {zs : List Nd} {v : Value} (k : Int) (hr : RdN w v zs) (hl : zs.length ≤ 90000) (hroll : Roll l zs) (bk : In64 k) :
    Calls Try.prog 72 #[.agg #[.int .i64 l, v], .int .i64 k] w fun e w' => e = .returned (.bool (lightB l zs (capV (sumL zs) k) && isK k)) ∧ Below w.heap.size w w' := by
  obtain ⟨p, cap, rfl⟩ := hr.val
  have bl : In64 l := ⟨by have := hroll.l1; omega, by have := hroll.l2; omega⟩
  have hin : NB zs := fun x hx => by
    have h1 := hroll.ids x hx
    have h2 := hroll.strict.2 x hx
    have h3 := Pos.le_sum hroll.strict.pos x hx
    have h4 := hroll.most
    have l1 := hroll.l1
    have l2 := hroll.l2
    simp only [rightB, decide_eq_true_eq] at h1
    obtain ⟨n, rfl⟩ := Int.eq_ofNat_of_zero_le (show 0 ≤ l by omega)
    have := (pow48 (n := n) (by omega)).2
    simp only [Int.toNat_natCast] at h1
    exact ⟨⟨by omega, by omega⟩, ⟨by omega, by omega⟩⟩
  have HN := hid hin
  have Is := hid (fun W : World => r_Is k W)
  have C := hid (fun W (q : RdN W (.slice p zs.length cap) zs) => r_ccap k q (by omega) hroll bk)
  have Kd := hid (fun (a : Int) (h : In64 a) (W : World) => r_kids l a W bl h)
  obtain ⟨N, eN⟩ : ∃ N, zs.length = N := ⟨_, rfl⟩
  rw [eN] at hr C ⊢
  have EN := hid eN
  have hN : N ≤ 90000 := by omega
  obtain ⟨most, emost⟩ : ∃ x, capV (sumL zs) k = x := ⟨_, rfl⟩
  rw [emost] at C ⊢
  generalize isK k = K at *
  have hba : Below w.heap.size w (w.alloc (.cells #[.int .i64 l, .slice p N cap] 53)) := (Below.refl _ _).alloc (Nat.le_refl _) _
  have X := Blk.new w #[.int .i64 l, .slice p N cap] 53
  have hsz : (w.alloc (.cells #[.int .i64 l, .slice p N cap] 53)).heap.size = w.heap.size + 1 := by simp
  have hr1 := hr.below hba (Nat.le_refl _)
  clear eN emost hin hl
  go_enter Try.func72, Try.ntmps72
  go_wp2_with fail
  generalize (w.alloc (.cells #[.int .i64 l, .slice p N cap] 53)) = w1 at *
  go_loopw [5] (fun i wr => LgtRel l most zs w.heap.size #[.int .i64 l, .slice p N cap] 53 w1 i wr) (fun i _ => N - (intOf i).toNat)
  case atStart => exact ⟨0, rfl, Nat.zero_le _, fun j hj => by omega, Below.refl _ _, X⟩
  case round =>
    obtain ⟨i, rfl, hi, hH, hB, XX⟩ := hrel
    have hiN : i ≤ N := by rw [EN.out] at hi; exact hi
    clear hi
    have x0 : wr.cell? ⟨w.heap.size, 0, none⟩ = some (.int .i64 l) := XX.cell 0
    have x1 : wr.cell? ⟨w.heap.size, 1, none⟩ = some (.slice p N cap) := XX.cell 1
    have hs2 := hB.size
    by_cases hlt : i < N
    · have hkx : i < zs.length := by rw [EN.out]; exact hlt
      have hrw := hr1.below hB (Nat.le_refl _)
      obtain ⟨g, off, a, c, rfl, ex, hg, hc1, hc2⟩ := hrw.at hkx
      obtain ⟨ha, hc0⟩ := HN.out.at hkx ex
      have Ka := hid (fun W : World => Kd.out a ha W)
      obtain ⟨kk, ek⟩ : ∃ kk, kidsB l a = kk := ⟨_, rfl⟩
      rw [ek] at Ka
      have EK := hid ek
      have EX := hid ex
      clear ex ek
      cases kk
      · have hh : Hid (heavyB l most (zs.getD i (0, 0)) = false) := by show _ = _; rw [EX.out]; unfold heavyB; rw [EK.out]; rfl
        go_wp2_with fail
        go_quiet ((go_at_call 101; exact Calls.quiet_of_same (calls_flip (Ka.out _))))
        go_wp2_with fail
        go_quiet (fail)
        go_wp2_with fail
        go_roundw
        case rel =>
          refine ⟨i + 1, by go_num, by rw [EN.out]; omega, fun j hj => ?_, below_drewN hB _, XX.drewN _⟩
          by_cases e : j = i
          · rw [e]; exact hh.out
          · exact hH.out j (by omega)
        case measure => simp [intOf]; omega
      · go_wp2_with fail
        go_quiet ((go_at_call 101; exact Calls.quiet_of_same (calls_flip (Ka.out _))))
        have hBq := below_drewN hB nq
        have Xq := XX.drewN nq
        have hrq := hrw.drewN nq
        have hc2q : (wr.drewN nq).cell? ⟨g, off + i * 2 + 1, none⟩ = some (.int .i64 c) := hc2
        have hgq : g < (wr.drewN nq).heap.size := hg
        have hsq : w1.heap.size ≤ (wr.drewN nq).heap.size := hs2
        clear x0 x1 hB XX hrw hc1 hc2 hg hs2
        generalize wr.drewN nq = wq at *
        have x0 : wq.cell? ⟨w.heap.size, 0, none⟩ = some (.int .i64 l) := Xq.cell 0
        have x1 : wq.cell? ⟨w.heap.size, 1, none⟩ = some (.slice (some ⟨g, off, none⟩) N cap) := Xq.cell 1
        have hB0 := Below.refl wq.heap.size wq
        have hXl := Xq.lt
        have hd1 : (0 : Int) ≤ (i : Int) := by omega
        have hd2 : (i : Int) < (N : Int) := by omega
        go_wp2_with fail
        go_region_held3 (fun w' => w'.cell? ⟨w.heap.size, 0, none⟩ = some (.int .i64 l) ∧ w'.cell? ⟨w.heap.size, 1, none⟩ = some (.slice (some ⟨g, off, none⟩) N cap) ∧ w'.cell? ⟨g, off + i * 2 + 1, none⟩ = some (.int .i64 c) ∧ Below wq.heap.size wq w')
          (first
            | exact ⟨x0, x1, hc2q, below_drewN hB0 1⟩
            | exact ⟨(Xq.below' hB5 hXl).cell 0, (Xq.below' hB5 hXl).cell 1, (hB5.cell (p := ⟨g, off + i * 2 + 1, none⟩) hgq).trans hc2q, hB5⟩)
          (first
            | (go_at_call 102; have hB4 := (‹_ ∧ _ ∧ _ ∧ Below wq.heap.size wq _›).2.2.2; refine (C.out _ (hrq.below hB4 (Nat.le_refl _))).mono ?_; rintro e w5 ⟨rfl, hb5⟩
               have hB5 := hB4.trans (hb5.mono hB4.size)))
        have hs5 := hB5.size
        have X5 := Xq.below' hB5 hXl
        have hBw := hBq.trans (hB5.mono hsq)
        by_cases hm : most < c
        · have hh : Hid (lightB l zs most = false) := light_no hkx (by rw [EX.out]; unfold heavyB; rw [EK.out]; simpa using hm)
          have hd : decide (most < c) = true := by simpa using hm
          go_wp2_with fail
          try rw [Exit.noGoto_ret]
          go_ret
          exact ⟨ret_bool (by rw [hh.out]; rfl), hba.trans (hBw.mono (by omega))⟩
        · have hh : Hid (heavyB l most (zs.getD i (0, 0)) = false) := by show _ = _; rw [EX.out]; unfold heavyB; rw [EK.out]; simp; omega
          have hd : decide (most < c) = false := by simpa using hm
          go_wp2_with fail
          go_roundw
          case rel =>
            refine ⟨i + 1, by go_num, by rw [EN.out]; omega, fun j hj => ?_, hBw, X5⟩
            by_cases e : j = i
            · rw [e]; exact hh.out
            · exact hH.out j (by omega)
          case measure => simp [intOf]; omega
    · obtain rfl : i = N := by omega
      have hh : Hid (lightB l zs most = true) := light_all (fun j hj => hH.out j (by rw [EN.out] at hj; exact hj))
      go_wp2_with fail
      refine (Is.out wr).mono ?_
      rintro e w' ⟨rfl, rfl⟩
      go_wp2_with fail
      go_ret
      exact ⟨ret_bool (by rw [hh.out]; rfl), hba.trans (hB.mono (by omega))⟩
end Go.Proofs.Ytbbkfjbaocpknaa
