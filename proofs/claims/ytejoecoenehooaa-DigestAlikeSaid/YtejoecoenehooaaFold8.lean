/- The walk of FoldDoes. -/
import Derived.Test.YtejoecoenehooaaFold7
namespace Go.Proofs.Ytejoecoenehooaa
open Go.RowKit Nl

theorem r_isame_self {va vb : Value} {xs : List Int} (w : World) (ha : RdI w va xs) (hb : RdI w vb xs) (hl : xs.length < 2097152) :
    Calls Try.prog 24 #[va, vb] w fun e w' => e = .returned (.bool true) ∧ ∃ n, w' = w.drewN n :=
  (r_isame w ha hb hl hl).mono fun e w' ⟨h1, h2⟩ => ⟨by rw [h1]; simp, h2⟩
theorem r_same_self {va vb : Value} {xs : List Nd} (w : World) (ha : RdN w va xs) (hb : RdN w vb xs) (hl : xs.length < 2097152) :
    Calls Try.prog 29 #[va, vb] w fun e w' => e = .returned (.bool true) ∧ ∃ n, w' = w.drewN n :=
  (r_same w ha hb hl hl).mono fun e w' ⟨h1, h2⟩ => ⟨by rw [h1]; simp, h2⟩

set_option maxRecDepth 100000 in
set_option maxHeartbeats 4000000 in
theorem FoldDoes_walk (kind l : Int) (v : Value) (xs : List Nd) (w : World) (_hk0 : -9223372036854775808 ≤ kind) (_hk1 : kind ≤ 9223372036854775807) (hl : -9223372036854775808 ≤ l) (hl1 : l ≤ 9223372036854775807) (ho : RdAsk w v xs) :
    Calls Try.prog 4 #[.int .i64 kind, .int .i64 l, v] w fun e w' => e = .returned (.bool true) ∧ Below w.heap.size w w' := by
  obtain ⟨v0, a0, a1, a2, rfl, ho, ba0, ba1, ba2⟩ := ho
  obtain ⟨hr, hn, hlen⟩ := ho
  obtain ⟨p, cap, rfl⟩ := hr.val
  have X := Blk.new w #[.slice p xs.length cap, .int .i64 a0, .int .i64 a1, .int .i64 a2] 36
  have hbx : Below w.heap.size w (w.alloc (.cells #[.slice p xs.length cap, .int .i64 a0, .int .i64 a1, .int .i64 a2] 36)) := (Below.refl _ _).alloc (Nat.le_refl _) _
  have hrx := hr.below hbx (Nat.le_refl _)
  have hsx : (w.alloc (.cells #[.slice p xs.length cap, .int .i64 a0, .int .i64 a1, .int .i64 a2] 36)).heap.size = w.heap.size + 1 := by simp
  have Is := hid (fun W (q : RdN W (.slice p xs.length cap) xs) => f_is kind l W ⟨q, hn, hlen⟩ ⟨hl, hl1⟩)
  obtain ⟨A, eA⟩ : ∃ A, askB kind l xs = A := ⟨_, rfl⟩
  rw [eA] at Is
  have EA := hid eA
  clear eA hr
  go_enter Try.func4, Try.ntmps4
  go_wp2_with fail
  generalize (w.alloc (.cells #[.slice p xs.length cap, .int .i64 a0, .int .i64 a1, .int .i64 a2] 36)) = w1 at *
  have x0 : w1.cell? ⟨w.heap.size, 0, none⟩ = some (.slice p xs.length cap) := X.cell 0
  refine (Is.out w1 hrx).mono ?_
  rintro e w2 ⟨rfl, hb2⟩
  have hr2 := hrx.below hb2 (Nat.le_refl _)
  have X2 := X.below hb2 (Nat.le_refl _)
  have hs2 := hb2.size
  have hB2 := hbx.trans (hb2.mono (by omega))
  have hl0 : w.heap.size < w2.heap.size := by omega
  clear x0 X hrx hb2 hbx
  cases A
  · go_wp2_with fail
    refine (f_alive w2).mono ?_
    rintro e w3 ⟨rfl, hb3⟩
    go_wp2_with fail
    go_ret
    exact ⟨rfl, hB2.trans (hb3.mono (by omega))⟩
  · have eA := EA.out
    simp only [askB, Bool.and_eq_true, decide_eq_true_eq] at eA
    obtain ⟨⟨⟨e1, e2⟩, e3⟩, e4⟩ := eA
    have hroll := rollB_iff.1 e4
    have N := hid (pl_load kind l w2 e2 e4 hr2 hn (by omega))
    have x0 : w2.cell? ⟨w.heap.size, 0, none⟩ = some (.slice p xs.length cap) := X2.cell 0
    have hpl := parents_len xs
    have F2 := fun W (q : RdN W (.slice p xs.length cap) xs) => r_first a0 W q (by omega) hroll
    have P2 := hid (fun W (q : RdN W (.slice p xs.length cap) xs) => r_parents W q (by omega) hroll)
    have Fd := hid (fun W (q : RdB W 0 (.slice p xs.length cap) xs) => r_fdo a2 W q (Nat.zero_le _) (by omega) hroll ba2)
    have hfl := (fold_facts hroll a2).2.2.1
    clear EA e2 e3 e4
    go_wp2_with fail
    refine N.out.mono ?_
    rintro e w3 ⟨q, g, h, rfl, d3, hq, hg, hh, hb3⟩
    have F1 := fun W (q' : PoolV W q g h kind l xs.length xs) => f_first a0 q' (by omega) (by omega)
    have P1 := hid (fun W (q' : PoolV W q g h kind l xs.length xs) => f_parents q' (by omega) (by omega))
    have D1 := hid (fun W (q' : PoolV W q g h kind l xs.length xs) => f_do (xs.length + 1) a2 q' (by omega) (by omega) (by omega) ba2)
    simp only [firstE] at F1 F2
    have FF1 := hid F1
    have FF2 := hid F2
    clear F1 F2
    generalize (firstR l xs a0).getD 0 = fa at *
    generalize (firstR l xs a0).isSome = fb at *
    generalize parentsL xs = all at *
    generalize foldDo l xs a2 = F at *
    obtain ⟨ys, n⟩ := F
    simp only at hfl
    have hs3 := hb3.size
    have og0 : NotIn (.slice p xs.length cap) xs g := NotIn.of_lt hr2 hg
    have oh0 : NotIn (.slice p xs.length cap) xs h := NotIn.of_lt hr2 hh
    have X3 := X2.below hb3 (Nat.le_refl _)
    have hr3 := hr2.below hb3 (Nat.le_refl _)
    have hB3 := hB2.trans (hb3.mono (by omega))
    have Sb := Blk.new w3 #[.int .i64 l, .slice p xs.length cap] 43
    have hb4 : Below w3.heap.size w3 (w3.alloc (.cells #[.int .i64 l, .slice p xs.length cap] 43)) := (Below.refl _ _).alloc (Nat.le_refl _) _
    have hsz4 : (w3.alloc (.cells #[.int .i64 l, .slice p xs.length cap] 43)).heap.size = w3.heap.size + 1 := by simp
    have X4 := X3.below hb4 (Nat.le_refl _)
    have hr4 := hr3.below hb4 (Nat.le_refl _)
    have d4 := d3.below hb4 (Nat.le_refl _)
    have hB4 := hB3.trans (hb4.mono (by omega))
    have dl := d3.lt
    clear x0 N
    have x0 : w3.cell? ⟨w.heap.size, 0, none⟩ = some (.slice p xs.length cap) := X3.cell 0
    have x1 : (w3.alloc (.cells #[.int .i64 l, .slice p xs.length cap] 43)).cell? ⟨w.heap.size, 1, none⟩ = some (.int .i64 a0) := X4.cell 1
    go_wp2_with fail
    refine (FF1.out _ d4).mono ?_
    rintro e w5 ⟨rfl, hb5⟩
    generalize (w3.alloc (.cells #[.int .i64 l, .slice p xs.length cap] 43)) = w4 at *
    have X5 := X4.below hb5 (Nat.le_refl _)
    have S5 := Sb.below hb5 (Nat.le_refl _)
    have hr5 := hr4.below hb5 (Nat.le_refl _)
    have d5 := d4.below hb5 (Nat.le_refl _)
    have hs5 := hb5.size
    have hB5 := hB4.trans (hb5.mono (by omega))
    clear x0 x1 X2 X3 X4 Sb d3 d4 hr2 hr3 hr4 hb3 hb4 hb5 FF1
    have x1 : w5.cell? ⟨w.heap.size, 1, none⟩ = some (.int .i64 a0) := X5.cell 1
    have s0 : w5.cell? ⟨w3.heap.size, 0, none⟩ = some (.int .i64 l) := S5.cell 0
    have s1 : w5.cell? ⟨w3.heap.size, 1, none⟩ = some (.slice p xs.length cap) := S5.cell 1
    go_wp2_with fail
    refine (FF2.out w5 hr5).mono ?_
    rintro e w6 ⟨rfl, hb6⟩
    have X6 := X5.below hb6 (Nat.le_refl _)
    have S6 := S5.below hb6 (Nat.le_refl _)
    have hr6 := hr5.below hb6 (Nat.le_refl _)
    have d6 := d5.below hb6 (Nat.le_refl _)
    have hs6 := hb6.size
    have hB6 := hB5.trans (hb6.mono (by omega))
    clear x1 s0 s1 X5 S5 d5 hr5 hb6 FF2
    have x0 : w6.cell? ⟨w.heap.size, 0, none⟩ = some (.slice p xs.length cap) := X6.cell 0
    have hB0 := Below.refl w6.heap.size w6
    have hl6 : w.heap.size < w6.heap.size := by omega
    have hfab : (fa != fa) = false := by simp
    have hfbb : (fb != fb) = false := by simp
    go_wp2_with fail
    go_region_held3 (fun w' => w'.cell? ⟨w.heap.size, 0, none⟩ = some (.slice p xs.length cap) ∧ Below w6.heap.size w6 w')
      (first
        | exact ⟨x0, below_drewN hB0 1⟩
        | exact ⟨(X6.below' hB9 hl6).cell 0, hB9⟩
        | exact ⟨(X6.below' hB8 hl6).cell 0, hB8⟩
        | exact ⟨(X6.below' hB7 hl6).cell 0, hB7⟩)
      (first
        | (go_at_call 25; have hBa := (‹_ ∧ Below w6.heap.size w6 _›).2; refine (P1.out _ (d6.below hBa (Nat.le_refl _))).mono ?_; rintro e w7 ⟨v7, rfl, ⟨hr7, _⟩, hb7⟩
           have hB7 := hBa.trans (hb7.mono hBa.size))
        | (go_at_call 26; have hBc := (‹_ ∧ Below w6.heap.size w6 _›).2; refine (P2.out _ (hr6.below hBc (Nat.le_refl _))).mono ?_; rintro e w8 ⟨v8, rfl, ⟨hr8, _⟩, hb8⟩
           have hB8 := hBc.trans (hb8.mono hBc.size))
        | (go_at_call 24; have hBe := (‹_ ∧ Below w6.heap.size w6 _›).2; refine (r_isame_self _ (by first | exact hr7 | exact hr7.below hb8 (Nat.le_refl _)) (by first | exact hr8 | exact hr8.below hb7 (Nat.le_refl _)) (by omega)).mono ?_; rintro e w9 ⟨rfl, n9, rfl⟩
           have hB9 := below_drewN hBe n9))
    have hS6 := S6.lt
    have X9 := X6.below' hB9 hl6
    have S9 := S6.below' hB9 hS6
    have hr9 := hr6.below hB9 (Nat.le_refl _)
    have d9 := d6.below hB9 (Nat.le_refl _)
    have hs9 := hB9.size
    have hBw9 := hB6.trans (hB9.mono (by omega))
    clear x0 X6 S6 d6 hr6 hb7 hb8 hr7 hr8 hB7 hB8 hB9 hBa hBc hBe P1 P2 hB0
    generalize w8.drewN n9 = w9 at *
    have x3 : w9.cell? ⟨w.heap.size, 3, none⟩ = some (.int .i64 a2) := X9.cell 3
    have s0 : w9.cell? ⟨w3.heap.size, 0, none⟩ = some (.int .i64 l) := S9.cell 0
    have s1 : w9.cell? ⟨w3.heap.size, 1, none⟩ = some (.slice p xs.length cap) := S9.cell 1
    go_wp2_with fail
    refine (Fd.out w9 ⟨hr9, fun k hk => Nat.zero_le _⟩).mono ?_
    rintro e w10 ⟨v10, rfl, ⟨hr10, _⟩, hv10, hb10⟩
    obtain ⟨p10, c10, rfl⟩ := hr10.val
    simp only at hr10
    have dl9 := d9.lt
    have og : NotIn (.slice p10 ys.length c10) ys g := NotIn.next og0 hr9 hr10 hv10 dl9.2.1
    have oh : NotIn (.slice p10 ys.length c10) ys h := NotIn.next oh0 hr9 hr10 hv10 dl9.2.2.1
    have X10 := X9.below hb10 (Nat.le_refl _)
    have d10 := d9.below hb10 (Nat.le_refl _)
    have hs10 := hb10.size
    have hB10 := hBw9.trans (hb10.mono (by omega))
    clear x3 s0 s1 S9 hr9 d9 X9 hb10 Fd hv10 og0 oh0
    go_wp2_with fail
    have N11 := Blk.new w10 #[.int .i64 l, .slice p10 ys.length c10] 43
    have hb11 : Below w10.heap.size w10 (w10.alloc (.cells #[.int .i64 l, .slice p10 ys.length c10] 43)) := (Below.refl _ _).alloc (Nat.le_refl _) _
    have hsz11 : (w10.alloc (.cells #[.int .i64 l, .slice p10 ys.length c10] 43)).heap.size = w10.heap.size + 1 := by simp
    have X11 := X10.below hb11 (Nat.le_refl _)
    have d11 := d10.below hb11 (Nat.le_refl _)
    have hr11 := hr10.below hb11 (Nat.le_refl _)
    have hB11 := hB10.trans (hb11.mono (by omega))
    obtain ⟨lq, lg, lh, lqg, lqh, lgh⟩ := d10.lt
    generalize (w10.alloc (.cells #[.int .i64 l, .slice p10 ys.length c10] 43)) = w11 at *
    have x3 : w11.cell? ⟨w.heap.size, 3, none⟩ = some (.int .i64 a2) := X11.cell 3
    have n1 : w11.cell? ⟨w10.heap.size, 1, none⟩ = some (.slice p10 ys.length c10) := N11.cell 1
    have hB0 := Below.refl w.heap.size w11
    have hnn : (n == n) = true := by simp
    clear d10 X10 hr10 hb11
    go_region_held3 (fun w' => w'.cell? ⟨w.heap.size, 3, none⟩ = some (.int .i64 a2) ∧ w'.cell? ⟨w10.heap.size, 1, none⟩ = some (.slice p10 ys.length c10) ∧ Below w.heap.size w11 w')
      (first
        | exact ⟨x3, n1, below_drewN hB0 1⟩
        | exact ⟨X12.cell 3, N12.cell 1, hB12⟩
        | exact ⟨X13.cell 3, N13.cell 1, hB13⟩
        | exact ⟨X14.cell 3, N14.cell 1, hB14⟩
        | exact ⟨X15.cell 3, N15.cell 1, hB15⟩)
      (first
        | (go_at_call 28; refine (D1.out _ (d11.drewN 1)).mono ?_; rintro e w12 ⟨rfl, h', d12, hh', tc⟩
           have X12 := (X11.drewN 1).tch tc (by omega) (by omega)
           have N12 := (N11.drewN 1).tch tc (by omega) (by omega)
           have r12 := (hr11.drewN 1).tch2 og oh tc
           have hB12 : Below w.heap.size w11 w12 := (below_drewN hB0 1).trans (tc.below (by omega) (by omega) (by show w.heap.size ≤ w11.heap.size; omega)))
        | (go_at_call 30; refine (pl_snap d12 (by omega)).mono ?_; rintro e w13 ⟨v13, rfl, hv13, hb13⟩
           have X13 := X12.below hb13 (Nat.le_refl _)
           have N13 := N12.below hb13 (Nat.le_refl _)
           have hB13 := hB12.trans (hb13.mono (by have := hB12.size; omega)))
        | (go_at_call 29; refine (r_same_self _ hv13.rd (r12.below hb13 (Nat.le_refl _)) (by omega)).mono ?_; rintro e w14 ⟨rfl, n14, rfl⟩
           have X14 := X13.drewN n14
           have N14 := N13.drewN n14
           have hB14 := below_drewN hB13 n14)
        | (go_at_call 13; refine (f_alive _).mono ?_; rintro e w15 ⟨rfl, hb15⟩
           have X15 := X14.below hb15 (Nat.le_refl _)
           have N15 := N14.below hb15 (Nat.le_refl _)
           have hB15 := hB14.trans (hb15.mono (by have := hB14.size; omega))))
    go_wp2_with fail
    go_ret
    exact ⟨rfl, hB11.trans hB15⟩
end Go.Proofs.Ytejoecoenehooaa
