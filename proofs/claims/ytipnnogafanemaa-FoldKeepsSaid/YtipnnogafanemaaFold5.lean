/- The walk of FoldKeeps. -/
import Derived.Test.YtipnnogafanemaaFold3
import Derived.Test.YtipnnogafanemaaFoldMath
namespace Go.Proofs.Ytipnnogafanemaa
open Go.RowKit Nl

set_option maxRecDepth 100000 in
set_option maxHeartbeats 4000000 in
theorem FoldKeeps_walk (kind l : Int) (v : Value) (xs : List Nd) (w : World) (_hk0 : -9223372036854775808 ≤ kind) (_hk1 : kind ≤ 9223372036854775807) (hl : -9223372036854775808 ≤ l) (hl1 : l ≤ 9223372036854775807) (ho : RdAsk w v xs) :
    Calls Try.prog 6 #[.int .i64 kind, .int .i64 l, v] w fun e w' => e = .returned (.bool true) ∧ Below w.heap.size w w' := by
  obtain ⟨v0, a0, a1, a2, rfl, ho, ba0, ba1, ba2⟩ := ho
  obtain ⟨hr, hn, hlen⟩ := ho
  obtain ⟨p, cap, rfl⟩ := hr.val
  have X := Blk.new w #[.slice p xs.length cap, .int .i64 a0, .int .i64 a1, .int .i64 a2] 25
  have hbx : Below w.heap.size w (w.alloc (.cells #[.slice p xs.length cap, .int .i64 a0, .int .i64 a1, .int .i64 a2] 25)) := (Below.refl _ _).alloc (Nat.le_refl _) _
  have hrx := hr.below hbx (Nat.le_refl _)
  have hsx : (w.alloc (.cells #[.slice p xs.length cap, .int .i64 a0, .int .i64 a1, .int .i64 a2] 25)).heap.size = w.heap.size + 1 := by simp
  have Is := hid (fun W (q : RdN W (.slice p xs.length cap) xs) => f_is kind l W ⟨q, hn, hlen⟩ ⟨hl, hl1⟩)
  obtain ⟨A, eA⟩ : ∃ A, askB kind l xs = A := ⟨_, rfl⟩
  rw [eA] at Is
  have EA := hid eA
  clear eA hr
  go_enter Try.func6, Try.ntmps6
  go_wp2_with fail
  generalize (w.alloc (.cells #[.slice p xs.length cap, .int .i64 a0, .int .i64 a1, .int .i64 a2] 25)) = w1 at *
  have x0 : w1.cell? ⟨w.heap.size, 0, none⟩ = some (.slice p xs.length cap) := X.cell 0
  refine (Is.out w1 hrx).mono ?_
  rintro e w2 ⟨rfl, hb2⟩
  have hr2 := hrx.below hb2 (Nat.le_refl _)
  have X2 := X.below hb2 (Nat.le_refl _)
  have hs2 := hb2.size
  have hB2 := hbx.trans (hb2.mono (by omega))
  have hl0 : w.heap.size < w2.heap.size := by omega
  clear x0 X hrx hb2 hbx
  cases A
  · go_wp2_with fail
    refine (f_alive w2).mono ?_
    rintro e w3 ⟨rfl, hb3⟩
    go_wp2_with fail
    go_ret
    exact ⟨rfl, hB2.trans (hb3.mono (by omega))⟩
  · have eA := EA.out
    simp only [askB, Bool.and_eq_true, decide_eq_true_eq] at eA
    obtain ⟨⟨⟨e1, e2⟩, e3⟩, e4⟩ := eA
    have hroll := rollB_iff.1 e4
    have N := hid (pl_load kind l w2 e2 e4 hr2 hn (by omega))
    have htt := hroll.tot
    have T2 := hid (fun W (q : RdN W (.slice p xs.length cap) xs) => r_sttotal l W q (by omega))
    rw [htt] at T2
    obtain ⟨q1, q2, q3, q4, q5⟩ := fold_facts hroll a2
    have q6 := fold_ready hroll a2 a0
    have q7 := fold_pair l xs a2
    have x0 : w2.cell? ⟨w.heap.size, 0, none⟩ = some (.slice p xs.length cap) := X2.cell 0
    clear EA e2 e3 e4 htt
    go_wp2_with fail
    refine N.out.mono ?_
    rintro e w3 ⟨q, g, h, rfl, d3, hq, hg, hh, hb3⟩
    have hs3 := hb3.size
    have X3 := X2.below hb3 (Nat.le_refl _)
    have hr3 := hr2.below hb3 (Nat.le_refl _)
    have hB3 := hB2.trans (hb3.mono (by omega))
    have M1 := hid (fun W (q' : PoolV W q g h kind l xs.length xs) => f_mass a2 q' (by omega) ba2)
    have D1 := hid (fun W (q' : PoolV W q g h kind l xs.length xs) => f_do (xs.length + 1) a2 q' (by omega) (by omega) (by omega) ba2)
    have hkb : pairV l xs a2 ≠ 0 → kidsB l a2 = true := fun h => by
      by_cases hk : kidsB l a2 = true
      · exact hk
      · exact absurd (by unfold pairV; rw [if_neg hk]) h
    have hpn : 0 ≤ pairV l xs a2 ∧ pairV l xs a2 ≤ 1000000000000000000 := by
      have f1 := hroll.find (2 * a2)
      have f2 := hroll.find (2 * a2 + 1)
      have f3 := hroll.most
      unfold pairV; split <;> omega
    have hkk := fun h => kids_bound (hkb h)
    have hmp : Hid (pairV l xs a2 ≠ 0 → (1 ≤ a2 ∧ a2 < 281474976710656) ∧ findL (2 * a2) (foldDo l xs a2).1 = 0 ∧ findL (2 * a2 + 1) (foldDo l xs a2).1 = 0 ∧ findL a2 (foldDo l xs a2).1 = allV l xs a2) := fun h => ⟨hkk h, q5 (hkb h)⟩
    clear hkb hkk q5 q4
    have Q6 := hid q6
    clear q6
    generalize pairV l xs a2 = mp at *
    generalize allV l xs a2 = ma at *
    generalize foldDo l xs a2 = F at *
    obtain ⟨ys, n⟩ := F
    simp only at q1 q2 q3 q7
    subst q7
    clear x0 N
    have x0 : w3.cell? ⟨w.heap.size, 0, none⟩ = some (.slice p xs.length cap) := X3.cell 0
    have x3 : w3.cell? ⟨w.heap.size, 3, none⟩ = some (.int .i64 a2) := X3.cell 3
    have hl3 : w.heap.size < w3.heap.size := by omega
    go_wp2_with fail
    refine (M1.out w3 d3).mono ?_
    rintro e w5 ⟨rfl, hb5⟩
    have hs5 := hb5.size
    have d5 := d3.below hb5 (Nat.le_refl _)
    have hr5 := hr3.below hb5 (Nat.le_refl _)
    have X5 := X3.below hb5 (Nat.le_refl _)
    have hB5 := hB3.trans (hb5.mono (by omega))
    go_wp2_with fail
    refine (D1.out w5 d5).mono ?_
    rintro e w6 ⟨rfl, h', d6, hh', tc⟩
    dsimp only at d6 ⊢
    have hs6 := tc.size
    obtain ⟨lq, lg, lh, lqg, lqh, lgh⟩ := d5.lt
    have hb6 : Below w2.heap.size w5 w6 := tc.below hg hh (by omega)
    have X6 := X5.below' hb6 hl0
    have hoff : ∀ k, w2.heap.size ≤ k → Off (.slice p xs.length cap) xs k := fun k hk => by
      rcases hr2.ltE with e | e
      · exact .inl e
      · right; intro q'; have := e k q'; omega
    have hr6 := hr5.tchO tc (hoff g hg) (hoff h hh)
    have hB6 := hB5.trans (hb6.mono (by omega))
    have R1 := hid (fun W (q' : PoolV W q g h' kind l (xs.length + 1) ys) => f_ready a2 a0 q' (by omega) ba2)
    rw [Q6.out] at R1
    have G1 := hid (fun (i : Int) W (q' : PoolV W q g h' kind l (xs.length + 1) ys) => pl_get i q' (by omega))
    clear x0 x3 hoff hr2 hr3 hr5 X2 X3 X5 d3 d5 Q6 M1 D1
    have x0 : w6.cell? ⟨w.heap.size, 0, none⟩ = some (.slice p xs.length cap) := X6.cell 0
    have x1 : w6.cell? ⟨w.heap.size, 1, none⟩ = some (.int .i64 a0) := X6.cell 1
    have hl6 : w.heap.size < w6.heap.size := by omega
    have hB0 := Below.refl w6.heap.size w6
    have cg : decide (xs.length < ys.length) = false := decide_eq_false (by omega)
    go_wp2_with fail
    go_region_held3 (fun w' => w'.cell? ⟨w.heap.size, 0, none⟩ = some (.slice p xs.length cap) ∧ w'.cell? ⟨w.heap.size, 1, none⟩ = some (.int .i64 a0) ∧ Below w6.heap.size w6 w')
      (first
        | exact ⟨x0, x1, below_drewN hB0 1⟩
        | exact ⟨(X6.below' hB9 hl6).cell 0, (X6.below' hB9 hl6).cell 1, hB9⟩)
      (first
        | (go_at_call 29; refine (pl_total (d6.below (‹_ ∧ _ ∧ Below w6.heap.size w6 _›).2.2 (Nat.le_refl _))).mono ?_; rintro e w9 ⟨rfl, rfl⟩; rw [q2])
        | (go_at_call 32; refine (pl_len (d6.below (‹_ ∧ _ ∧ Below w6.heap.size w6 _›).2.2 (Nat.le_refl _))).mono ?_; rintro e w9 ⟨rfl, rfl⟩)
        | (go_at_call 31; have hB8 := (‹_ ∧ _ ∧ Below w6.heap.size w6 _›).2.2; refine (T2.out _ (hr6.below hB8 (Nat.le_refl _))).mono ?_; rintro e w9 ⟨rfl, hb9⟩
           have hB9 := hB8.trans (hb9.mono hB8.size))
        | (go_at_call 20; have hB8 := (‹_ ∧ _ ∧ Below w6.heap.size w6 _›).2.2; refine (R1.out _ (d6.below hB8 (Nat.le_refl _))).mono ?_; rintro e w9 ⟨rfl, hb9⟩
           have hB9 := hB8.trans (hb9.mono hB8.size)))
    have d9 := d6.below hB9 (Nat.le_refl _)
    have hs9 := hB9.size
    have hB10 := hB6.trans (hB9.mono (by omega))
    by_cases hm0 : n = 0
    · subst hm0
      clear hmp
      go_wp2_with fail
      refine (f_alive w9).mono ?_
      rintro e w10 ⟨rfl, hb10⟩
      go_wp2_with fail
      go_ret
      exact ⟨rfl, hB10.trans (hb10.mono (by omega))⟩
    · obtain ⟨⟨k1, k2⟩, k3, k4, k5⟩ := hmp.out hm0
      have hm1 : (n == 0) = false := by simpa using hm0
      clear hmp hm0
      have K1 := hid (fun W q' => G1.out a2 W q' ⟨by omega, by omega⟩)
      have K2 := hid (fun W q' => G1.out (2 * a2) W q' ⟨by omega, by omega⟩)
      have K3 := hid (fun W q' => G1.out (2 * a2 + 1) W q' ⟨by omega, by omega⟩)
      rw [k5] at K1
      rw [k3] at K2
      rw [k4] at K3
      clear k3 k4 k5 G1 x0 x1
      go_wp2_with fail
      refine (K1.out w9 d9).mono ?_
      rintro e w10 ⟨rfl, hb10⟩
      have d10 := d9.below hb10 (Nat.le_refl _)
      have hs10 := hb10.size
      go_wp2_with fail
      refine (K2.out w10 d10).mono ?_
      rintro e w11 ⟨rfl, hb11⟩
      have d11 := d10.below hb11 (Nat.le_refl _)
      have hs11 := hb11.size
      go_wp2_with fail
      refine (K3.out w11 d11).mono ?_
      rintro e w12 ⟨rfl, hb12⟩
      have hs12 := hb12.size
      go_wp2_with fail
      refine (f_alive w12).mono ?_
      rintro e w13 ⟨rfl, hb13⟩
      go_wp2_with fail
      go_ret
      exact ⟨rfl, (((hB10.trans (hb10.mono (by omega))).trans (hb11.mono (by omega))).trans (hb12.mono (by omega))).trans (hb13.mono (by omega))⟩
end Go.Proofs.Ytipnnogafanemaa
