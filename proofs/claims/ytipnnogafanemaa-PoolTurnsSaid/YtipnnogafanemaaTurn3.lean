/- The walk of PoolTurns. -/
import Derived.Test.YtipnnogafanemaaTurn2
import Derived.Test.YtipnnogafanemaaPool8
import Derived.Test.YtipnnogafanemaaOpenTurned
namespace Go.Proofs.Ytipnnogafanemaa
open Go.RowKit Nl

set_option maxRecDepth 100000 in
set_option maxHeartbeats 8000000 in
theorem PoolTurns_walk (k0 k1 l : Int) (v : Value) (xs : List Nd) (w : World) (_h1 : -9223372036854775808 ≤ k0) (_h2 : k0 ≤ 9223372036854775807) (_h3 : -9223372036854775808 ≤ k1) (_h4 : k1 ≤ 9223372036854775807) (hl : -9223372036854775808 ≤ l) (hl1 : l ≤ 9223372036854775807) (ho : RdTurn w v xs) :
    Calls Try.prog 11 #[.agg #[.int .i64 k0, .int .i64 k1], .int .i64 l, v] w fun e w' => e = .returned (.bool true) ∧ Below w.heap.size w w' := by
  obtain ⟨v0, kind, id, c, rfl, ⟨hr, hn, hlen⟩, bk, bi, bc⟩ := ho
  obtain ⟨p, cap, rfl⟩ := hr.val
  have A := hid (fun W : World => p9_alive W)
  have Y := (Blk.new w #[.int .i64 k0, .int .i64 k1] 81).alloc (.cells #[.slice p xs.length cap, .int .i64 kind, .int .i64 id, .int .i64 c] 83)
  have X := Blk.new (w.alloc (.cells #[.int .i64 k0, .int .i64 k1] 81)) #[.slice p xs.length cap, .int .i64 kind, .int .i64 id, .int .i64 c] 83
  have hb0 : Below w.heap.size w ((w.alloc (.cells #[.int .i64 k0, .int .i64 k1] 81)).alloc (.cells #[.slice p xs.length cap, .int .i64 kind, .int .i64 id, .int .i64 c] 83)) := ((Below.refl _ _).alloc (Nat.le_refl _) _).alloc (by simp) _
  have hs0 : ((w.alloc (.cells #[.int .i64 k0, .int .i64 k1] 81)).alloc (.cells #[.slice p xs.length cap, .int .i64 kind, .int .i64 id, .int .i64 c] 83)).heap.size = w.heap.size + 2 := by simp
  rw [World.size_alloc] at X
  have hr0 := hr.below hb0 (Nat.le_refl _)
  by_cases h1 : 60 < xs.length ∨ (xs.length ≤ 60 ∧ 12 < l)
  · rcases h1 with h1 | ⟨h1, h2⟩
    all_goals
      go_enter Try.func11, Try.ntmps11
      go_wp2_with fail
      refine (A.out _).mono ?_
      rintro e w' ⟨rfl, hb⟩
      go_wp2_with fail
      go_ret
      exact ⟨rfl, hb0.trans (hb.mono (by omega))⟩
  have h2 : xs.length ≤ 60 := by omega
  have h3 : l ≤ 12 := by omega
  clear h1
  by_cases hno : poolIs k0 l = false ∨ rollB l xs = false
  · have N := hid (pl_load_no k0 l _ hno hr0 hn hlen ⟨hl, hl1⟩)
    have hcode : ∃ c : Int, (if poolIs k0 l = false then (2 : Int) else 10) = c ∧ (c = 2 ∨ c = 10) := by
      split
      · exact ⟨_, rfl, .inl rfl⟩
      · exact ⟨_, rfl, .inr rfl⟩
    obtain ⟨cc, ec, hc0⟩ := hcode
    rw [ec] at N
    clear ec hno
    rcases hc0 with rfl | rfl
    all_goals
      go_enter Try.func11, Try.ntmps11
      go_wp2_with fail
      generalize ((w.alloc (.cells #[.int .i64 k0, .int .i64 k1] 81)).alloc (.cells #[.slice p xs.length cap, .int .i64 kind, .int .i64 id, .int .i64 c] 83)) = w0 at *
      refine N.out.mono ?_
      rintro e w1 ⟨rfl, hb1⟩
      have hs1 := hb1.size
      go_wp2_with fail
      refine (A.out _).mono ?_
      rintro e w' ⟨rfl, hb⟩
      go_wp2_with fail
      go_ret
      exact ⟨rfl, (hb0.trans (hb1.mono (by omega))).trans (hb.mono (by omega))⟩
  have hP : poolIs k0 l = true := by
    cases h : poolIs k0 l
    · exact absurd (.inl h) hno
    · rfl
  have hR : rollB l xs = true := by
    cases h : rollB l xs
    · exact absurd (.inr h) hno
    · rfl
  have hroll := rollB_iff.1 hR
  have hxt : 0 ≤ totV xs ∧ totV xs ≤ 72057594037927935 := by rw [hroll.tot]; exact hroll.sum
  have hzn := hroll.do_len kind id c
  have N := hid (pl_load k0 l _ hP hR hr0 hn (by omega))
  have Is := hid (fun W => r_poolIs k1 l W)
  have Do := hid (fun W (x : RdB W 0 (.slice p xs.length cap) xs) => r_stdo l kind id c W x (Nat.zero_le _) (by omega) ⟨hl, hl1⟩ bi bc hxt)
  have DoP := hid (fun W q g h kd (x : PoolV W q g h kd l xs.length xs) => p9_do (xs.length + 1) kind id c x (by omega) (by omega) (by omega) bi bc)
  have hTn := hid (fun W q g h (x : PoolV W q g h k0 l xs.length xs) => fun hk => pl_turn k1 x (by omega) (by omega) hk)
  have hTno := hid (fun W q g h (x : PoolV W q g h k0 l xs.length xs) => fun hk => pl_turn_no k1 x hk)
  clear hno hP hR hxt
  generalize hF : stDo l xs kind id c = F at *
  obtain ⟨zs', code⟩ := F
  dsimp only at hzn
  obtain ⟨P, eP⟩ : ∃ P, poolIs k1 l = P := ⟨_, rfl⟩
  rw [eP] at Is hTn hTno
  clear eP
  go_enter Try.func11, Try.ntmps11
  go_wp2_with fail
  generalize ((w.alloc (.cells #[.int .i64 k0, .int .i64 k1] 81)).alloc (.cells #[.slice p xs.length cap, .int .i64 kind, .int .i64 id, .int .i64 c] 83)) = w0 at *
  refine N.out.mono ?_
  rintro e w1 ⟨q, g, h, rfl, d1, hq, hg, hh, hb1⟩
  have hs1 := hb1.size
  have L1 := d1.lt
  have X1 := X.below hb1 (Nat.le_refl _)
  have Y1 := Y.below hb1 (Nat.le_refl _)
  have r1 := hr0.below hb1 (Nat.le_refl _)
  have hB1 := hb0.trans (hb1.mono (by omega))
  have x0 : w1.cell? ⟨w.heap.size + 1, 0, none⟩ = some (.slice p xs.length cap) := X1.cell 0
  have x1 : w1.cell? ⟨w.heap.size + 1, 1, none⟩ = some (.int .i64 kind) := X1.cell 1
  have x2 : w1.cell? ⟨w.heap.size + 1, 2, none⟩ = some (.int .i64 id) := X1.cell 2
  have x3 : w1.cell? ⟨w.heap.size + 1, 3, none⟩ = some (.int .i64 c) := X1.cell 3
  have l1x : w.heap.size + 1 < w1.heap.size := by omega
  clear N X Y hr0 hb0
  go_wp2_with fail
  have S2 := Blk.new w1 #[.int .i64 l, .slice p xs.length cap] 34
  have hb2 : Below w1.heap.size w1 (w1.alloc (.cells #[.int .i64 l, .slice p xs.length cap] 34)) := (Below.refl _ _).alloc (Nat.le_refl _) _
  have hs2 : (w1.alloc (.cells #[.int .i64 l, .slice p xs.length cap] 34)).heap.size = w1.heap.size + 1 := by simp
  generalize (w1.alloc (.cells #[.int .i64 l, .slice p xs.length cap] 34)) = w2 at *
  have X2 := X1.below hb2 (Nat.le_refl _)
  have Y2 := Y1.below hb2 (Nat.le_refl _)
  have r2 := r1.below hb2 (Nat.le_refl _)
  have d2 := d1.below hb2 (Nat.le_refl _)
  have hB2 := hB1.trans (hb2.mono (by omega))
  refine (Do.out w2 ⟨r2, fun _ _ => Nat.zero_le _⟩).mono ?_
  rintro e w3 ⟨v3, rfl, hr3, hv3, hb3⟩
  dsimp only at hr3 hv3 ⊢
  obtain ⟨p3, cap3, rfl⟩ : ∃ p cap, v3 = .slice p zs'.length cap := hr3.1.val
  have hs3 := hb3.size
  have X3 := X2.below hb3 (Nat.le_refl _)
  have Y3 := Y2.below hb3 (Nat.le_refl _)
  have S3 := S2.below hb3 (Nat.le_refl _)
  have r3 := r2.below hb3 (Nat.le_refl _)
  have d3 := d2.below hb3 (Nat.le_refl _)
  have hB3 := hB2.trans (hb3.mono (by omega))
  clear x0 x1 x2 x3 X1 X2 Y1 Y2 d1 d2 r1 r2 S2
  have y1 : w3.cell? ⟨w.heap.size, 1, none⟩ = some (.int .i64 k1) := Y3.cell 1
  have l3x : w.heap.size < w3.heap.size := by omega
  go_wp2_with fail
  have T4 := Blk.new w3 #[.int .i64 l, .slice p3 zs'.length cap3] 34
  have hb4 : Below w3.heap.size w3 (w3.alloc (.cells #[.int .i64 l, .slice p3 zs'.length cap3] 34)) := (Below.refl _ _).alloc (Nat.le_refl _) _
  have hs4 : (w3.alloc (.cells #[.int .i64 l, .slice p3 zs'.length cap3] 34)).heap.size = w3.heap.size + 1 := by simp
  generalize (w3.alloc (.cells #[.int .i64 l, .slice p3 zs'.length cap3] 34)) = w4 at *
  have X4 := X3.below hb4 (Nat.le_refl _)
  have Y4 := Y3.below hb4 (Nat.le_refl _)
  have S4 := S3.below hb4 (Nat.le_refl _)
  have r4 := r3.below hb4 (Nat.le_refl _)
  have v4 := hr3.1.below hb4 (Nat.le_refl _)
  have d4 := d3.below hb4 (Nat.le_refl _)
  have hB4 := hB3.trans (hb4.mono (by omega))
  clear y1 X3 Y3 S3 r3 d3
  cases P
  · refine (hTno.out w4 q g h d4 rfl).mono ?_
    rintro e w5 ⟨rfl, hb5⟩
    have hs5 := hb5.size
    have Y5 := Y4.below hb5 (Nat.le_refl _)
    have hB5 := hB4.trans (hb5.mono (by omega))
    have y1 : w5.cell? ⟨w.heap.size, 1, none⟩ = some (.int .i64 k1) := Y5.cell 1
    have l5x : w.heap.size < w5.heap.size := by omega
    go_wp2_with fail
    refine (Is.out w5).mono ?_
    rintro e w6 ⟨rfl, rfl⟩
    go_wp2_with fail
    refine (A.out _).mono ?_
    rintro e w' ⟨rfl, hb⟩
    go_wp2_with fail
    go_ret
    exact ⟨rfl, hB5.trans (hb.mono (by omega))⟩
  refine (hTn.out w4 q g h d4 rfl).mono ?_
  rintro e w5 ⟨q2, g2, h2', rfl, t5, hq2, hg2, hh2, hb5⟩
  have hs5 := hb5.size
  have L5 := t5.lt
  have X5 := X4.below hb5 (Nat.le_refl _)
  have Y5 := Y4.below hb5 (Nat.le_refl _)
  have S5 := S4.below hb5 (Nat.le_refl _)
  have T5 := T4.below hb5 (Nat.le_refl _)
  have r5 := r4.below hb5 (Nat.le_refl _)
  have v5 := v4.below hb5 (Nat.le_refl _)
  have d5 := d4.below hb5 (Nat.le_refl _)
  have hB5 := hB4.trans (hb5.mono (by omega))
  have y1 : w5.cell? ⟨w.heap.size, 1, none⟩ = some (.int .i64 k1) := Y5.cell 1
  have l5x : w.heap.size < w5.heap.size := by omega
  clear X4 Y4 S4 T4 r4 v4 d4
  go_wp2_with fail
  refine (Is.out w5).mono ?_
  rintro e w6 ⟨rfl, rfl⟩
  go_wp2_with fail
  refine (pl_same d5 t5 (by omega) (by omega)).mono ?_
  rintro e w6 ⟨rfl, hb6⟩
  have esm : decide (l = l ∧ xs = xs) = true := by simp
  rw [esm]
  clear esm
  have hs6 := hb6.size
  have X6 := X5.below hb6 (Nat.le_refl _)
  have Y6 := Y5.below hb6 (Nat.le_refl _)
  have S6 := S5.below hb6 (Nat.le_refl _)
  have T6 := T5.below hb6 (Nat.le_refl _)
  have r6 := r5.below hb6 (Nat.le_refl _)
  have v6 := v5.below hb6 (Nat.le_refl _)
  have d6 := d5.below hb6 (Nat.le_refl _)
  have t6 := t5.below hb6 (Nat.le_refl _)
  have hB6 := hB5.trans (hb6.mono (by omega))
  clear X5 Y5 S5 T5 r5 v5 d5 t5 y1
  go_wp2_with fail
  refine (pl_clone d6 (by omega)).mono ?_
  rintro e w7 ⟨q3, g3, h3', rfl, c7, hq3, hg3, hh3, hb7⟩
  have hs7 := hb7.size
  have L7 := c7.lt
  have X7 := X6.below hb7 (Nat.le_refl _)
  have Y7 := Y6.below hb7 (Nat.le_refl _)
  have S7 := S6.below hb7 (Nat.le_refl _)
  have T7 := T6.below hb7 (Nat.le_refl _)
  have r7 := r6.below hb7 (Nat.le_refl _)
  have v7 := v6.below hb7 (Nat.le_refl _)
  have d7 := d6.below hb7 (Nat.le_refl _)
  have t7 := t6.below hb7 (Nat.le_refl _)
  have hB7 := hB6.trans (hb7.mono (by omega))
  clear X6 Y6 S6 T6 r6 v6 d6 t6
  have y0 : w7.cell? ⟨w.heap.size, 0, none⟩ = some (.int .i64 k0) := Y7.cell 0
  have s0 : w7.cell? ⟨w1.heap.size, 0, none⟩ = some (.int .i64 l) := S7.cell 0
  have s1 : w7.cell? ⟨w1.heap.size, 1, none⟩ = some (.slice p xs.length cap) := S7.cell 1
  have l7a : w.heap.size < w7.heap.size := by omega
  have l7b : w1.heap.size < w7.heap.size := by omega
  go_wp2_with fail
  refine (p9_like c7 (by omega) r7).mono ?_
  rintro e w8 ⟨rfl, hb8⟩
  have hs8 := hb8.size
  have X8 := X7.below hb8 (Nat.le_refl _)
  have Y8 := Y7.below hb8 (Nat.le_refl _)
  have S8 := S7.below hb8 (Nat.le_refl _)
  have T8 := T7.below hb8 (Nat.le_refl _)
  have r8 := r7.below hb8 (Nat.le_refl _)
  have v8 := v7.below hb8 (Nat.le_refl _)
  have d8 := d7.below hb8 (Nat.le_refl _)
  have t8 := t7.below hb8 (Nat.le_refl _)
  have c8 := c7.below hb8 (Nat.le_refl _)
  have hB8 := hB7.trans (hb8.mono (by omega))
  clear X7 Y7 S7 T7 r7 v7 d7 t7 c7 y0 s0 s1
  have x1 : w8.cell? ⟨w.heap.size + 1, 1, none⟩ = some (.int .i64 kind) := X8.cell 1
  have x2 : w8.cell? ⟨w.heap.size + 1, 2, none⟩ = some (.int .i64 id) := X8.cell 2
  have x3 : w8.cell? ⟨w.heap.size + 1, 3, none⟩ = some (.int .i64 c) := X8.cell 3
  have l8x : w.heap.size + 1 < w8.heap.size := by omega
  go_wp2_with fail
  refine (DoP.out w8 q2 g2 h2' k1 t8).mono ?_
  rintro e w9 ⟨rfl, h2n, t9, hh2n, tc9⟩
  dsimp only at t9 ⊢
  have hoffx : ∀ k, w.heap.size ≤ k → Off (.slice p xs.length cap) xs k := fun k hk => by
    rcases hr.ltE with e | e
    · exact .inl e
    · right; intro q'; have := e k q'; omega
  have hoffv : ∀ k, w3.heap.size ≤ k → Off (.slice p3 zs'.length cap3) zs' k := fun k hk => by
    rcases hr3.1.ltE with e | e
    · exact .inl e
    · right; intro q'; have := e k q'; omega
  have hs9 := tc9.size
  have X9 := X8.tch tc9 (by omega) (by omega)
  have Y9 := Y8.tch tc9 (by omega) (by omega)
  have S9 := S8.tch tc9 (by omega) (by omega)
  have T9 := T8.tch tc9 (by omega) (by omega)
  have r9 := r8.tchO tc9 (hoffx _ (by omega)) (hoffx _ (by omega))
  have v9 := v8.tchO tc9 (hoffv _ (by omega)) (hoffv _ (by omega))
  have d9 := d8.tch tc9 ⟨by omega, by omega⟩ ⟨by omega, by omega⟩ ⟨by omega, by omega⟩
  have c9 := c8.tch tc9 ⟨by omega, by omega⟩ ⟨by omega, by omega⟩ ⟨by omega, by omega⟩
  have L9 := t9.lt
  have hB9 := hB8.trans (tc9.below (B := w.heap.size) (by omega) (by omega) (by omega))
  clear x1 x2 x3 X8 Y8 S8 T8 r8 v8 d8 t8 c8
  have x1 : w9.cell? ⟨w.heap.size + 1, 1, none⟩ = some (.int .i64 kind) := X9.cell 1
  have x2 : w9.cell? ⟨w.heap.size + 1, 2, none⟩ = some (.int .i64 id) := X9.cell 2
  have x3 : w9.cell? ⟨w.heap.size + 1, 3, none⟩ = some (.int .i64 c) := X9.cell 3
  have l9x : w.heap.size + 1 < w9.heap.size := by omega
  go_wp2_with fail
  refine (DoP.out w9 q3 g3 h3' k0 c9).mono ?_
  rintro e w10 ⟨rfl, h3n, c10, hh3n, tc10⟩
  dsimp only at c10 ⊢
  have hs10 := tc10.size
  have Y10 := Y9.tch tc10 (by omega) (by omega)
  have S10 := S9.tch tc10 (by omega) (by omega)
  have T10 := T9.tch tc10 (by omega) (by omega)
  have r10 := r9.tchO tc10 (hoffx _ (by omega)) (hoffx _ (by omega))
  have v10 := v9.tchO tc10 (hoffv _ (by omega)) (hoffv _ (by omega))
  have d10 := d9.tch tc10 ⟨by omega, by omega⟩ ⟨by omega, by omega⟩ ⟨by omega, by omega⟩
  have t10 : PoolV w10 q2 g2 h2n k1 l (xs.length + 1) zs' := by
    rcases hh2n with e | e
    · exact t9.tch tc10 ⟨by omega, by omega⟩ ⟨by omega, by omega⟩ ⟨by omega, by omega⟩
    · exact t9.tch tc10 ⟨by omega, by omega⟩ ⟨by omega, by omega⟩ ⟨by omega, by omega⟩
  have hB10 := hB9.trans (tc10.below (B := w.heap.size) (by omega) (by omega) (by omega))
  have SM := hid (fun W (a : PoolV W q g h k0 l xs.length xs) (b : PoolV W q2 g2 h2n k1 l (xs.length + 1) zs') => pl_same a b (by omega) (by omega))
  have NS := hid (fun W (a : RdN W (.slice p xs.length cap) xs) (b : RdN W (.slice p3 zs'.length cap3) zs') => r_same W a b (by omega) (by omega))
  have esm : decide (l = l ∧ xs = zs') = decide (xs = zs') := by simp
  rw [esm] at SM
  generalize decide (xs = zs') = dd at *
  have y0 : w10.cell? ⟨w.heap.size, 0, none⟩ = some (.int .i64 k0) := Y10.cell 0
  have y1 : w10.cell? ⟨w.heap.size, 1, none⟩ = some (.int .i64 k1) := Y10.cell 1
  have s0 : w10.cell? ⟨w1.heap.size, 0, none⟩ = some (.int .i64 l) := S10.cell 0
  have s1 : w10.cell? ⟨w1.heap.size, 1, none⟩ = some (.slice p xs.length cap) := S10.cell 1
  have u0 : w10.cell? ⟨w3.heap.size, 0, none⟩ = some (.int .i64 l) := T10.cell 0
  have u1 : w10.cell? ⟨w3.heap.size, 1, none⟩ = some (.slice p3 zs'.length cap3) := T10.cell 1
  have m0 : w.heap.size < w10.heap.size := by omega
  have m1 : w1.heap.size < w10.heap.size := by omega
  have m2 : w3.heap.size < w10.heap.size := by omega
  have hB0 := Below.refl w10.heap.size w10
  clear x1 x2 x3 X9 Y9 S9 T9 r9 v9 d9 t9 c9 Do DoP hTn hTno Is
  go_wp2_with fail
  go_region_held3 (fun w' => w'.cell? ⟨w.heap.size, 0, none⟩ = some (.int .i64 k0) ∧ w'.cell? ⟨w.heap.size, 1, none⟩ = some (.int .i64 k1) ∧ w'.cell? ⟨w1.heap.size, 0, none⟩ = some (.int .i64 l) ∧ w'.cell? ⟨w1.heap.size, 1, none⟩ = some (.slice p xs.length cap) ∧ w'.cell? ⟨w3.heap.size, 0, none⟩ = some (.int .i64 l) ∧ w'.cell? ⟨w3.heap.size, 1, none⟩ = some (.slice p3 zs'.length cap3) ∧ Below w10.heap.size w10 w')
    (first
      | exact ⟨y0, y1, s0, s1, u0, u1, below_drewN hB0 1⟩
      | exact ⟨(Y10.below' hB12 m0).cell 0, (Y10.below' hB12 m0).cell 1, (S10.below' hB12 m1).cell 0, (S10.below' hB12 m1).cell 1, (T10.below' hB12 m2).cell 0, (T10.below' hB12 m2).cell 1, hB12⟩)
    (first
      | (go_at_call_of 36 (Value.pointer (some ⟨q, 0, none⟩)); have hB11 := (‹_ ∧ _ ∧ _ ∧ _ ∧ _ ∧ _ ∧ Below w10.heap.size w10 _›).2.2.2.2.2.2; refine (p9_like (d10.below hB11 (Nat.le_refl _)) (by omega) (r10.below hB11 (Nat.le_refl _))).mono ?_; rintro e w12 ⟨rfl, hb12⟩
         have hB12 := hB11.trans (hb12.mono hB11.size))
      | (go_at_call_of 36 (Value.pointer (some ⟨q2, 0, none⟩)); have hB11 := (‹_ ∧ _ ∧ _ ∧ _ ∧ _ ∧ _ ∧ Below w10.heap.size w10 _›).2.2.2.2.2.2; refine (p9_like (t10.below hB11 (Nat.le_refl _)) (by omega) (v10.below hB11 (Nat.le_refl _))).mono ?_; rintro e w12 ⟨rfl, hb12⟩
         have hB12 := hB11.trans (hb12.mono hB11.size))
      | (go_at_call_of 36 (Value.pointer (some ⟨q3, 0, none⟩)); have hB11 := (‹_ ∧ _ ∧ _ ∧ _ ∧ _ ∧ _ ∧ Below w10.heap.size w10 _›).2.2.2.2.2.2; refine (p9_like (c10.below hB11 (Nat.le_refl _)) (by omega) (v10.below hB11 (Nat.le_refl _))).mono ?_; rintro e w12 ⟨rfl, hb12⟩
         have hB12 := hB11.trans (hb12.mono hB11.size))
      | (go_at_call 26; have hB11 := (‹_ ∧ _ ∧ _ ∧ _ ∧ _ ∧ _ ∧ Below w10.heap.size w10 _›).2.2.2.2.2.2; refine (SM.out _ (d10.below hB11 (Nat.le_refl _)) (t10.below hB11 (Nat.le_refl _))).mono ?_; rintro e w12 ⟨rfl, hb12⟩
         have hB12 := hB11.trans (hb12.mono hB11.size))
      | (go_at_call 27; have hB11 := (‹_ ∧ _ ∧ _ ∧ _ ∧ _ ∧ _ ∧ Below w10.heap.size w10 _›).2.2.2.2.2.2; refine (NS.out _ (r10.below hB11 (Nat.le_refl _)) (v10.below hB11 (Nat.le_refl _))).mono ?_; rintro e w12 ⟨rfl, n, rfl⟩
         have hB12 := below_drewN hB11 n)
      | (go_at_call 22; have hB11 := (‹_ ∧ _ ∧ _ ∧ _ ∧ _ ∧ _ ∧ Below w10.heap.size w10 _›).2.2.2.2.2.2; refine (A.out _).mono ?_; rintro e w12 ⟨rfl, hb12⟩
         have hB12 := hB11.trans (hb12.mono hB11.size)))
  go_wp2_with fail
  go_ret
  exact ⟨rfl, hB10.trans (hB12.mono (by omega))⟩
end Go.Proofs.Ytipnnogafanemaa
