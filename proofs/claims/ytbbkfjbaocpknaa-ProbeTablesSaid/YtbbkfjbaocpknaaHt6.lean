/- The walks of the reference's table: New, Do. -/
import Derived.Test.YtbbkfjbaocpknaaHt5
namespace Go.Proofs.Ytbbkfjbaocpknaa
open Go.RowKit Nl

set_option maxRecDepth 100000 in
set_option maxHeartbeats 1000000 in
theorem h_new (l : Int) (w : World) : Calls Try.prog 7 #[.int .i64 l] w (IsTabR l 3 (List.replicate 8 (0, 0)) w) := by
  have hmk : ∀ w : World, (Instr.makeSlice 29 (.int .i64 8) (.int .i64 8)).run Try.prog w = .ok (.slice (some ⟨w.heap.size, 0, none⟩) 8 8) (w.alloc (.cells (ncells (List.replicate 8 (0, 0))).toArray 40)) := make_nodes 8 (by omega)
  have hlen : (List.replicate 8 ((0 : Int), (0 : Int))).length = 8 := by simp
  generalize List.replicate 8 ((0 : Int), (0 : Int)) = zs at *
  have Hlen := hid hlen
  clear hlen
  go_enter Try.func7, Try.ntmps7
  go_wp2_with fail
  have B := Blk.new (w.alloc (.cells #[.int .i64 l, .int .i64 3, .slice (some ⟨w.heap.size + 1, 0, none⟩) 8 8] 31)) (ncells zs).toArray 40
  rw [World.size_alloc] at B
  exact bodyPost_ret (v := .agg #[.int .i64 l, .int .i64 3, .slice (some ⟨w.heap.size + 1, 0, none⟩) 8 8]) (by simp [results, Try.results7, go_sem]) rfl ⟨_, rfl, rd_blkH B Hlen.out, fun k hk => by simp only [Value.ownBlock, Option.some.injEq] at hk; omega, ((Below.refl _ _).alloc (Nat.le_refl _) _).alloc (by simp) _⟩
set_option maxRecDepth 100000 in
set_option maxHeartbeats 2000000 in
theorem h_do {w : World} {l : Int} {b : Nat} {v : Value} {xs : List Nd} (kind id c : Int) (hr : RdN w v xs) (V : Pv l b xs) (hb1 : 1 ≤ b) (hb : b + 1 ≤ 40) (bi : In64 id) (bc : In64 c) (hcl : xs.length ≤ 400008) :
    Calls Try.prog 8 #[.agg #[.int .i64 l, .int .i64 b, v], .agg #[.int .i64 kind, .int .i64 id, .int .i64 c]] w (HPost l (pDo l b xs kind id c).1.1 (pDo l b xs kind id c).1.2 (pDo l b xs kind id c).2 v w) := by
  obtain ⟨p0, cap, rfl⟩ := hr.val
  have h0 := V.tab.pos_len
  have hlo : ∀ k, Value.ownBlock (.slice p0 xs.length cap) = some k → k < w.heap.size := by
    rcases hr.ltE with h | h
    · rw [h] at h0; simp at h0
    · exact h
  have hba : Below w.heap.size w (((w.alloc (.cells #[.int .i64 l, .int .i64 b, .slice p0 xs.length cap] 31)).alloc (.cells #[.int .i64 kind, .int .i64 id, .int .i64 c] 34)).alloc (.cells #[.int .i64 0, .int .i64 0, .slice none 0 0] 31)) := (((Below.refl _ _).alloc (Nat.le_refl _) _).alloc (by simp) _).alloc (by simp; omega) _
  have X1 := ((Blk.new w #[.int .i64 l, .int .i64 b, .slice p0 xs.length cap] 31).alloc (.cells #[.int .i64 kind, .int .i64 id, .int .i64 c] 34)).alloc (.cells #[.int .i64 0, .int .i64 0, .slice none 0 0] 31)
  have Y1 := (Blk.new (w.alloc (.cells #[.int .i64 l, .int .i64 b, .slice p0 xs.length cap] 31)) #[.int .i64 kind, .int .i64 id, .int .i64 c] 34).alloc (.cells #[.int .i64 0, .int .i64 0, .slice none 0 0] 31)
  have Z1 := Blk.new ((w.alloc (.cells #[.int .i64 l, .int .i64 b, .slice p0 xs.length cap] 31)).alloc (.cells #[.int .i64 kind, .int .i64 id, .int .i64 c] 34)) #[.int .i64 0, .int .i64 0, .slice none 0 0] 31
  have r1 := hr.below hba (Nat.le_refl _)
  simp only [World.size_alloc] at Y1 Z1
  have DD : Hid (pDo l b xs kind id c = if kind = 0 then (pAdd l b xs id c, pAddCode l xs id c) else if kind = 1 then ((b, pTake l b xs id), pGet l b xs id) else ((b, xs), pGet l b xs id)) := rfl
  have AD := hid (fun W (y : RdN W (.slice p0 xs.length cap) xs) => h_add (l := l) id c y V hb1 hb bi bc hcl)
  have TK := hid (fun W (y : RdN W (.slice p0 xs.length cap) xs) => h_take (l := l) id y V hb1 (by omega) bi (by omega))
  have GT := hid (fun W (y : RdN W (.slice p0 xs.length cap) xs) => h_get (l := l) id y V hb1 (by omega) bi)
  have hsz : ∀ k, Value.ownBlock (.slice p0 xs.length cap) = some k → k ≠ w.heap.size + 1 + 1 := fun k hk => by have := hlo k hk; omega
  clear hr V
  by_cases hk0 : kind = 0
  · have E := hid (show pDo l b xs kind id c = (pAdd l b xs id c, pAddCode l xs id c) by rw [DD.out, if_pos hk0])
    subst hk0
    obtain ⟨⟨b2, T2⟩, eT⟩ : ∃ R, pAdd l b xs id c = R := ⟨_, rfl⟩
    obtain ⟨n2, en⟩ : ∃ n, pAddCode l xs id c = n := ⟨_, rfl⟩
    rw [eT, en] at AD E
    clear eT en DD
    go_enter Try.func8, Try.ntmps8
    go_wp2_with fail
    generalize (((w.alloc (.cells #[.int .i64 l, .int .i64 b, .slice p0 xs.length cap] 31)).alloc (.cells #[.int .i64 0, .int .i64 id, .int .i64 c] 34)).alloc (.cells #[.int .i64 0, .int .i64 0, .slice none 0 0] 31)) = w1 at *
    refine (AD.out _ r1).mono ?_
    rintro e w9 ⟨v9, rfl, r9, own9, hb9⟩
    obtain ⟨p9, c9, rfl⟩ := r9.val
    have Z9 := Z1.below hb9 (Nat.le_refl _)
    have hz9 := Z1.lt
    have hbw9 := hba.trans (hb9.mono hba.size)
    clear X1 Y1 Z1 r1 AD TK GT hba hb9
    have z0 : w9.cell? ⟨w.heap.size + 1 + 1, 0, none⟩ = some (.int .i64 0) := Z9.cell 0
    have z1 : w9.cell? ⟨w.heap.size + 1 + 1, 1, none⟩ = some (.int .i64 0) := Z9.cell 1
    have z2 : w9.cell? ⟨w.heap.size + 1 + 1, 2, none⟩ = some (.slice none 0 0) := Z9.cell 2
    have g0 := Z9.free 0
    have g1 := Z9.free 1
    have g2 := Z9.free 2
    have V2 := ((Z9.set 0 (.int .i64 l)).set 1 (.int .i64 b2)).set 2 (.slice p9 T2.length c9)
    have q0 : World.cell? _ ⟨w.heap.size + 1 + 1, 0, none⟩ = some (.int .i64 l) := V2.cell 0
    have q1 : World.cell? _ ⟨w.heap.size + 1 + 1, 1, none⟩ = some (.int .i64 b2) := V2.cell 1
    have q2 : World.cell? _ ⟨w.heap.size + 1 + 1, 2, none⟩ = some (.slice p9 T2.length c9) := V2.cell 2
    have hbz := ((hbw9.setCell (p := ⟨w.heap.size + 1 + 1, 0, none⟩) (by show w.heap.size ≤ w.heap.size + 1 + 1; omega) (.int .i64 l)).setCell (p := ⟨w.heap.size + 1 + 1, 1, none⟩) (by show w.heap.size ≤ w.heap.size + 1 + 1; omega) (.int .i64 b2)).setCell (p := ⟨w.heap.size + 1 + 1, 2, none⟩) (by show w.heap.size ≤ w.heap.size + 1 + 1; omega) (.slice p9 T2.length c9)
    have no9 : ∀ k, Value.ownBlock (.slice p9 T2.length c9) = some k → k ≠ w.heap.size + 1 + 1 := by
      rcases own9 with h | h
      · rw [h]; exact hsz
      · intro k hk; have := h k hk; omega
    have rz := rd_setH (rd_setH (rd_setH r9 no9 0 (.int .i64 l)) no9 1 (.int .i64 b2)) no9 2 (.slice p9 T2.length c9)
    have hoz : (Value.slice p9 T2.length c9 = .slice p0 xs.length cap) ∨ ∀ k, Value.ownBlock (.slice p9 T2.length c9) = some k → w.heap.size ≤ k := own9.imp (fun h => h) (fun h k hk => by have := h k hk; omega)
    go_wp2_with fail
    exact bodyPost_ret (v := .tuple #[.agg #[.int .i64 l, .int .i64 b2, .slice p9 T2.length c9], .int .i64 n2]) (by simp [results, Try.results8, go_sem, q0, q1, q2]) rfl (by rw [E.out]; exact ⟨_, rfl, rz, hoz, hbz⟩)
  by_cases hk1 : kind = 1
  · have E := hid (show pDo l b xs kind id c = ((b, pTake l b xs id), pGet l b xs id) by rw [DD.out, if_neg hk0, if_pos hk1])
    subst hk1
    obtain ⟨T2, eT⟩ : ∃ R, pTake l b xs id = R := ⟨_, rfl⟩
    obtain ⟨n2, en⟩ : ∃ n, pGet l b xs id = n := ⟨_, rfl⟩
    rw [eT, en] at TK E
    clear eT en DD hk0
    go_enter Try.func8, Try.ntmps8
    go_wp2_with fail
    generalize (((w.alloc (.cells #[.int .i64 l, .int .i64 b, .slice p0 xs.length cap] 31)).alloc (.cells #[.int .i64 1, .int .i64 id, .int .i64 c] 34)).alloc (.cells #[.int .i64 0, .int .i64 0, .slice none 0 0] 31)) = w1 at *
    refine (TK.out _ r1).mono ?_
    rintro e w9 ⟨v9, rfl, r9, own9, hb9⟩
    obtain ⟨p9, c9, rfl⟩ := r9.val
    have Z9 := Z1.below hb9 (Nat.le_refl _)
    have hz9 := Z1.lt
    have hbw9 := hba.trans (hb9.mono hba.size)
    clear X1 Y1 Z1 r1 AD TK GT hba hb9
    have z0 : w9.cell? ⟨w.heap.size + 1 + 1, 0, none⟩ = some (.int .i64 0) := Z9.cell 0
    have z1 : w9.cell? ⟨w.heap.size + 1 + 1, 1, none⟩ = some (.int .i64 0) := Z9.cell 1
    have z2 : w9.cell? ⟨w.heap.size + 1 + 1, 2, none⟩ = some (.slice none 0 0) := Z9.cell 2
    have g0 := Z9.free 0
    have g1 := Z9.free 1
    have g2 := Z9.free 2
    have V2 := ((Z9.set 0 (.int .i64 l)).set 1 (.int .i64 b)).set 2 (.slice p9 T2.length c9)
    have q0 : World.cell? _ ⟨w.heap.size + 1 + 1, 0, none⟩ = some (.int .i64 l) := V2.cell 0
    have q1 : World.cell? _ ⟨w.heap.size + 1 + 1, 1, none⟩ = some (.int .i64 b) := V2.cell 1
    have q2 : World.cell? _ ⟨w.heap.size + 1 + 1, 2, none⟩ = some (.slice p9 T2.length c9) := V2.cell 2
    have hbz := ((hbw9.setCell (p := ⟨w.heap.size + 1 + 1, 0, none⟩) (by show w.heap.size ≤ w.heap.size + 1 + 1; omega) (.int .i64 l)).setCell (p := ⟨w.heap.size + 1 + 1, 1, none⟩) (by show w.heap.size ≤ w.heap.size + 1 + 1; omega) (.int .i64 b)).setCell (p := ⟨w.heap.size + 1 + 1, 2, none⟩) (by show w.heap.size ≤ w.heap.size + 1 + 1; omega) (.slice p9 T2.length c9)
    have no9 : ∀ k, Value.ownBlock (.slice p9 T2.length c9) = some k → k ≠ w.heap.size + 1 + 1 := by
      rcases own9 with h | h
      · rw [h]; exact hsz
      · intro k hk; have := h k hk; omega
    have rz := rd_setH (rd_setH (rd_setH r9 no9 0 (.int .i64 l)) no9 1 (.int .i64 b)) no9 2 (.slice p9 T2.length c9)
    have hoz : (Value.slice p9 T2.length c9 = .slice p0 xs.length cap) ∨ ∀ k, Value.ownBlock (.slice p9 T2.length c9) = some k → w.heap.size ≤ k := own9.imp (fun h => h) (fun h k hk => by have := h k hk; omega)
    go_wp2_with fail
    exact bodyPost_ret (v := .tuple #[.agg #[.int .i64 l, .int .i64 b, .slice p9 T2.length c9], .int .i64 n2]) (by simp [results, Try.results8, go_sem, q0, q1, q2]) rfl (by rw [E.out]; exact ⟨_, rfl, rz, hoz, hbz⟩)
  · have E := hid (show pDo l b xs kind id c = ((b, xs), pGet l b xs id) by rw [DD.out, if_neg hk0, if_neg hk1])
    have hq0 : (kind == 0) = false := by simpa using hk0
    have hq1 : (kind == 1) = false := by simpa using hk1
    obtain ⟨n2, en⟩ : ∃ n, pGet l b xs id = n := ⟨_, rfl⟩
    rw [en] at GT E
    clear en DD hk0 hk1 AD TK
    go_enter Try.func8, Try.ntmps8
    go_upto_region 6 with fail
    generalize (((w.alloc (.cells #[.int .i64 l, .int .i64 b, .slice p0 xs.length cap] 31)).alloc (.cells #[.int .i64 kind, .int .i64 id, .int .i64 c] 34)).alloc (.cells #[.int .i64 0, .int .i64 0, .slice none 0 0] 31)) = w1 at *
    have x0 : w1.cell? ⟨w.heap.size, 0, none⟩ = some (.int .i64 l) := X1.cell 0
    have x1 : w1.cell? ⟨w.heap.size, 1, none⟩ = some (.int .i64 b) := X1.cell 1
    have x2 : w1.cell? ⟨w.heap.size, 2, none⟩ = some (.slice p0 xs.length cap) := X1.cell 2
    have y1 : w1.cell? ⟨w.heap.size + 1, 1, none⟩ = some (.int .i64 id) := Y1.cell 1
    have z0 : w1.cell? ⟨w.heap.size + 1 + 1, 0, none⟩ = some (.int .i64 0) := Z1.cell 0
    have z1 : w1.cell? ⟨w.heap.size + 1 + 1, 1, none⟩ = some (.int .i64 0) := Z1.cell 1
    have z2 : w1.cell? ⟨w.heap.size + 1 + 1, 2, none⟩ = some (.slice none 0 0) := Z1.cell 2
    have g0 := Z1.free 0
    have g1 := Z1.free 1
    have g2 := Z1.free 2
    have rA := r1.drewN 1
    have ZA := Z1.drewN 1
    have XA := X1.drewN 1
    have hbA := hba.trans (below_drewN (Below.refl w.heap.size w1) 1)
    have ZB := (((Z1.set 0 (.int .i64 l)).set 1 (.int .i64 b)).set 2 (.slice p0 xs.length cap)).drewN 1
    have rB := (rd_setH (rd_setH (rd_setH r1 hsz 0 (.int .i64 l)) hsz 1 (.int .i64 b)) hsz 2 (.slice p0 xs.length cap)).drewN 1
    have hbB := (((hba.setCell (p := ⟨w.heap.size + 1 + 1, 0, none⟩) (by show w.heap.size ≤ w.heap.size + 1 + 1; omega) (.int .i64 l)).setCell (p := ⟨w.heap.size + 1 + 1, 1, none⟩) (by show w.heap.size ≤ w.heap.size + 1 + 1; omega) (.int .i64 b)).setCell (p := ⟨w.heap.size + 1 + 1, 2, none⟩) (by show w.heap.size ≤ w.heap.size + 1 + 1; omega) (.slice p0 xs.length cap)).trans (below_drewN (Below.refl w.heap.size _) 1)
    go_region_with ((go_at_call 26
                     first
                       | (refine (GT.out _ rA).mono ?_
                          rintro e w5 ⟨rfl, hb5⟩
                          have Z5 := ZA.below hb5 (Nat.le_refl _)
                          have hbw5 := hbA.trans (hb5.mono hbA.size)
                          have r5 := rA.below hb5 (Nat.le_refl _)
                          have X5 := XA.below hb5 (Nat.le_refl _)
                          have i0 : w5.cell? ⟨w.heap.size, 0, none⟩ = some (.int .i64 l) := X5.cell 0
                          have i1 : w5.cell? ⟨w.heap.size, 1, none⟩ = some (.int .i64 b) := X5.cell 1
                          have i2 : w5.cell? ⟨w.heap.size, 2, none⟩ = some (.slice p0 xs.length cap) := X5.cell 2
                          have k0 : w5.cell? ⟨w.heap.size + 1 + 1, 0, none⟩ = some (.int .i64 0) := Z5.cell 0
                          have k1 : w5.cell? ⟨w.heap.size + 1 + 1, 1, none⟩ = some (.int .i64 0) := Z5.cell 1
                          have k2 : w5.cell? ⟨w.heap.size + 1 + 1, 2, none⟩ = some (.slice none 0 0) := Z5.cell 2
                          have h0' := Z5.free 0
                          have h1' := Z5.free 1
                          have h2' := Z5.free 2)
                       | (refine (GT.out _ rB).mono ?_
                          rintro e w5 ⟨rfl, hb5⟩
                          have Z5 := ZB.below hb5 (Nat.le_refl _)
                          have hbw5 := hbB.trans (hb5.mono hbB.size)
                          have r5 := rB.below hb5 (Nat.le_refl _))))
    all_goals
      clear x0 x1 x2 y1 z0 z1 z2 g0 g1 g2 rA rB ZA ZB hbA hbB XA GT X1 Y1 Z1 r1
      first
        | (have V2 := ((Z5.set 0 (.int .i64 l)).set 1 (.int .i64 b)).set 2 (.slice p0 xs.length cap)
           have q0 : World.cell? _ ⟨w.heap.size + 1 + 1, 0, none⟩ = some (.int .i64 l) := V2.cell 0
           have q1 : World.cell? _ ⟨w.heap.size + 1 + 1, 1, none⟩ = some (.int .i64 b) := V2.cell 1
           have q2 : World.cell? _ ⟨w.heap.size + 1 + 1, 2, none⟩ = some (.slice p0 xs.length cap) := V2.cell 2
           have hbz := ((hbw5.setCell (p := ⟨w.heap.size + 1 + 1, 0, none⟩) (by show w.heap.size ≤ w.heap.size + 1 + 1; omega) (.int .i64 l)).setCell (p := ⟨w.heap.size + 1 + 1, 1, none⟩) (by show w.heap.size ≤ w.heap.size + 1 + 1; omega) (.int .i64 b)).setCell (p := ⟨w.heap.size + 1 + 1, 2, none⟩) (by show w.heap.size ≤ w.heap.size + 1 + 1; omega) (.slice p0 xs.length cap)
           have rz := rd_setH (rd_setH (rd_setH r5 hsz 0 (.int .i64 l)) hsz 1 (.int .i64 b)) hsz 2 (.slice p0 xs.length cap)
           go_wp2_with fail
           exact bodyPost_ret (v := .tuple #[.agg #[.int .i64 l, .int .i64 b, .slice p0 xs.length cap], .int .i64 n2]) (by simp [results, Try.results8, go_sem, q0, q1, q2]) rfl (by rw [E.out]; exact ⟨_, rfl, rz, .inl rfl, hbz⟩))
        | (have q0 : w5.cell? ⟨w.heap.size + 1 + 1, 0, none⟩ = some (.int .i64 l) := Z5.cell 0
           have q1 : w5.cell? ⟨w.heap.size + 1 + 1, 1, none⟩ = some (.int .i64 b) := Z5.cell 1
           have q2 : w5.cell? ⟨w.heap.size + 1 + 1, 2, none⟩ = some (.slice p0 xs.length cap) := Z5.cell 2
           go_wp2_with fail
           exact bodyPost_ret (v := .tuple #[.agg #[.int .i64 l, .int .i64 b, .slice p0 xs.length cap], .int .i64 n2]) (by simp [results, Try.results8, go_sem, q0, q1, q2]) rfl (by rw [E.out]; exact ⟨_, rfl, r5, .inl rfl, hbw5⟩))
end Go.Proofs.Ytbbkfjbaocpknaa
