/- The walk of FoldTells. -/
import Derived.Test.YtipnnogafanemaaFold3
namespace Go.Proofs.Ytipnnogafanemaa
open Go.RowKit Nl

set_option maxRecDepth 100000 in
set_option maxHeartbeats 4000000 in
theorem FoldTells_walk (kind l : Int) (v : Value) (xs : List Nd) (w : World) (_hk0 : -9223372036854775808 ≤ kind) (_hk1 : kind ≤ 9223372036854775807) (hl : -9223372036854775808 ≤ l) (hl1 : l ≤ 9223372036854775807) (ho : RdAsk w v xs) :
    Calls Try.prog 3 #[.int .i64 kind, .int .i64 l, v] w fun e w' => e = .returned (.bool true) ∧ Below w.heap.size w w' := by
  obtain ⟨v0, a0, a1, a2, rfl, ho, ba0, ba1, ba2⟩ := ho
  obtain ⟨hr, hn, hlen⟩ := ho
  obtain ⟨p, cap, rfl⟩ := hr.val
  have X := Blk.new w #[.slice p xs.length cap, .int .i64 a0, .int .i64 a1, .int .i64 a2] 25
  have hbx : Below w.heap.size w (w.alloc (.cells #[.slice p xs.length cap, .int .i64 a0, .int .i64 a1, .int .i64 a2] 25)) := (Below.refl _ _).alloc (Nat.le_refl _) _
  have hrx := hr.below hbx (Nat.le_refl _)
  have hsx : (w.alloc (.cells #[.slice p xs.length cap, .int .i64 a0, .int .i64 a1, .int .i64 a2] 25)).heap.size = w.heap.size + 1 := by simp
  have Is := hid (fun W (q : RdN W (.slice p xs.length cap) xs) => f_is kind l W ⟨q, hn, hlen⟩ ⟨hl, hl1⟩)
  have C1 := hid (fun W => f_cap a0 a1 W ba0 ba1)
  have C2 := hid (fun W => r_cap a0 a1 W ba0 ba1)
  generalize capV a0 a1 = cv at *
  obtain ⟨A, eA⟩ : ∃ A, askB kind l xs = A := ⟨_, rfl⟩
  rw [eA] at Is
  have EA := hid eA
  clear eA hr
  go_enter Try.func3, Try.ntmps3
  go_wp2_with fail
  generalize (w.alloc (.cells #[.slice p xs.length cap, .int .i64 a0, .int .i64 a1, .int .i64 a2] 25)) = w1 at *
  have x0 : w1.cell? ⟨w.heap.size, 0, none⟩ = some (.slice p xs.length cap) := X.cell 0
  refine (Is.out w1 hrx).mono ?_
  rintro e w2 ⟨rfl, hb2⟩
  have hr2 := hrx.below hb2 (Nat.le_refl _)
  have X2 := X.below hb2 (Nat.le_refl _)
  have hs2 := hb2.size
  have hB2 := hbx.trans (hb2.mono (by omega))
  have hl0 : w.heap.size < w2.heap.size := by omega
  clear x0 X hrx hb2 hbx
  cases A
  · go_wp2_with fail
    have x1 : w2.cell? ⟨w.heap.size, 1, none⟩ = some (.int .i64 a0) := X2.cell 1
    have x2 : w2.cell? ⟨w.heap.size, 2, none⟩ = some (.int .i64 a1) := X2.cell 2
    have hB0 := Below.refl w2.heap.size w2
    go_region_held3 (fun w' => w'.cell? ⟨w.heap.size, 1, none⟩ = some (.int .i64 a0) ∧ w'.cell? ⟨w.heap.size, 2, none⟩ = some (.int .i64 a1) ∧ Below w2.heap.size w2 w')
      (first
        | exact ⟨x1, x2, below_drewN hB0 1⟩
        | exact ⟨(X2.below' hB5 hl0).cell 1, (X2.below' hB5 hl0).cell 2, hB5⟩)
      (first
        | (go_at_call 14; refine (C1.out _).mono ?_; rintro e w5 ⟨rfl, rfl⟩)
        | (go_at_call 15; refine (C2.out _).mono ?_; rintro e w5 ⟨rfl, rfl⟩)
        | (go_at_call 16; have hB4 := (‹_ ∧ _ ∧ Below w2.heap.size w2 _›).2.2; refine (f_alive _).mono ?_; rintro e w5 ⟨rfl, hb5⟩
           have hB5 := hB4.trans (hb5.mono hB4.size)))
    go_wp2_with fail
    go_ret
    exact ⟨rfl, hB2.trans (hB5.mono (by omega))⟩
  · have eA := EA.out
    simp only [askB, Bool.and_eq_true, decide_eq_true_eq] at eA
    obtain ⟨⟨⟨e1, e2⟩, e3⟩, e4⟩ := eA
    have hroll := rollB_iff.1 e4
    have N := hid (pl_load kind l w2 e2 e4 hr2 hn (by omega))
    have M2 := hid (fun W (q : RdN W (.slice p xs.length cap) xs) => r_mass a2 q (by omega) hroll ba2)
    have R2 := hid (fun W (q : RdN W (.slice p xs.length cap) xs) => r_ready a2 a0 q (by omega) hroll ba2)
    have x0 : w2.cell? ⟨w.heap.size, 0, none⟩ = some (.slice p xs.length cap) := X2.cell 0
    clear EA e2 e3 e4
    go_wp2_with fail
    refine N.out.mono ?_
    rintro e w3 ⟨q, g, h, rfl, d3, hq, hg, hh, hb3⟩
    have hs3 := hb3.size
    have X3 := X2.below hb3 (Nat.le_refl _)
    have hr3 := hr2.below hb3 (Nat.le_refl _)
    have hB3 := hB2.trans (hb3.mono (by omega))
    have M1 := hid (fun W (q' : PoolV W q g h kind l xs.length xs) => f_mass a2 q' (by omega) ba2)
    have R1 := hid (fun W (q' : PoolV W q g h kind l xs.length xs) => f_ready a2 a0 q' (by omega) ba2)
    generalize pairV l xs a2 = mp at *
    generalize allV l xs a2 = ma at *
    generalize readyB l xs a2 a0 = rb at *
    clear x0 N hroll
    have x0 : w3.cell? ⟨w.heap.size, 0, none⟩ = some (.slice p xs.length cap) := X3.cell 0
    have x3 : w3.cell? ⟨w.heap.size, 3, none⟩ = some (.int .i64 a2) := X3.cell 3
    have hl3 : w.heap.size < w3.heap.size := by omega
    go_wp2_with fail
    have hb4 : Below w3.heap.size w3 (w3.alloc (.cells #[.int .i64 l, .slice p xs.length cap] 34)) := (Below.refl _ _).alloc (Nat.le_refl _) _
    have S4 := Blk.new w3 #[.int .i64 l, .slice p xs.length cap] 34
    have hs4 : (w3.alloc (.cells #[.int .i64 l, .slice p xs.length cap] 34)).heap.size = w3.heap.size + 1 := by simp
    generalize (w3.alloc (.cells #[.int .i64 l, .slice p xs.length cap] 34)) = w4 at *
    have d4 := d3.below hb4 (Nat.le_refl _)
    have hr4 := hr3.below hb4 (Nat.le_refl _)
    have X4 := X3.below hb4 (Nat.le_refl _)
    have hB4 := hB3.trans (hb4.mono (by omega))
    clear x0 x3
    refine (M1.out w4 d4).mono ?_
    rintro e w5 ⟨rfl, hb5⟩
    have hs5 := hb5.size
    have d5 := d4.below hb5 (Nat.le_refl _)
    have hr5 := hr4.below hb5 (Nat.le_refl _)
    have X5 := X4.below hb5 (Nat.le_refl _)
    have S5 := S4.below hb5 (Nat.le_refl _)
    have hB5 := hB4.trans (hb5.mono (by omega))
    have x3 : w5.cell? ⟨w.heap.size, 3, none⟩ = some (.int .i64 a2) := X5.cell 3
    have s0 : w5.cell? ⟨w3.heap.size, 0, none⟩ = some (.int .i64 l) := S5.cell 0
    have s1 : w5.cell? ⟨w3.heap.size, 1, none⟩ = some (.slice p xs.length cap) := S5.cell 1
    have hl5 : w.heap.size < w5.heap.size := by omega
    have hl5' : w3.heap.size < w5.heap.size := by omega
    go_wp2_with fail
    refine (M2.out w5 hr5).mono ?_
    rintro e w6 ⟨rfl, hb6⟩
    have hs6 := hb6.size
    have d6 := d5.below hb6 (Nat.le_refl _)
    have hr6 := hr5.below hb6 (Nat.le_refl _)
    have X6 := X5.below hb6 (Nat.le_refl _)
    have S6 := S5.below hb6 (Nat.le_refl _)
    have hB6 := hB5.trans (hb6.mono (by omega))
    clear x3 s0 s1 d3 d4 d5 hr3 hr4 hr5 X3 X4 X5 S4 S5
    have x1 : w6.cell? ⟨w.heap.size, 1, none⟩ = some (.int .i64 a0) := X6.cell 1
    have x2 : w6.cell? ⟨w.heap.size, 2, none⟩ = some (.int .i64 a1) := X6.cell 2
    have x3 : w6.cell? ⟨w.heap.size, 3, none⟩ = some (.int .i64 a2) := X6.cell 3
    have s0 : w6.cell? ⟨w3.heap.size, 0, none⟩ = some (.int .i64 l) := S6.cell 0
    have s1 : w6.cell? ⟨w3.heap.size, 1, none⟩ = some (.slice p xs.length cap) := S6.cell 1
    have hl6 : w.heap.size < w6.heap.size := by omega
    have hl6' : w3.heap.size < w6.heap.size := by omega
    have hB0 := Below.refl w6.heap.size w6
    go_wp2_with fail
    go_region_held3 (fun w' => w'.cell? ⟨w.heap.size, 1, none⟩ = some (.int .i64 a0) ∧ w'.cell? ⟨w.heap.size, 2, none⟩ = some (.int .i64 a1) ∧ w'.cell? ⟨w.heap.size, 3, none⟩ = some (.int .i64 a2) ∧ w'.cell? ⟨w3.heap.size, 0, none⟩ = some (.int .i64 l) ∧ w'.cell? ⟨w3.heap.size, 1, none⟩ = some (.slice p xs.length cap) ∧ Below w6.heap.size w6 w')
      (first
        | exact ⟨x1, x2, x3, s0, s1, below_drewN hB0 1⟩
        | exact ⟨(X6.below' hB9 hl6).cell 1, (X6.below' hB9 hl6).cell 2, (X6.below' hB9 hl6).cell 3, (S6.below' hB9 hl6').cell 0, (S6.below' hB9 hl6').cell 1, hB9⟩)
      (first
        | (go_at_call 14; refine (C1.out _).mono ?_; rintro e w9 ⟨rfl, rfl⟩)
        | (go_at_call 15; refine (C2.out _).mono ?_; rintro e w9 ⟨rfl, rfl⟩)
        | (go_at_call 20; have hB8 := (‹_ ∧ _ ∧ _ ∧ _ ∧ _ ∧ Below w6.heap.size w6 _›).2.2.2.2.2; refine (R1.out _ (d6.below hB8 (Nat.le_refl _))).mono ?_; rintro e w9 ⟨rfl, hb9⟩
           have hB9 := hB8.trans (hb9.mono hB8.size))
        | (go_at_call 21; have hB8 := (‹_ ∧ _ ∧ _ ∧ _ ∧ _ ∧ Below w6.heap.size w6 _›).2.2.2.2.2; refine (R2.out _ (hr6.below hB8 (Nat.le_refl _))).mono ?_; rintro e w9 ⟨rfl, hb9⟩
           have hB9 := hB8.trans (hb9.mono hB8.size))
        | (go_at_call 16; have hB8 := (‹_ ∧ _ ∧ _ ∧ _ ∧ _ ∧ Below w6.heap.size w6 _›).2.2.2.2.2; refine (f_alive _).mono ?_; rintro e w9 ⟨rfl, hb9⟩
           have hB9 := hB8.trans (hb9.mono hB8.size)))
    go_wp2_with fail
    go_ret
    exact ⟨rfl, hB6.trans (hB9.mono (by omega))⟩
end Go.Proofs.Ytipnnogafanemaa
