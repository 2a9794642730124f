/- The walk of PlanLeast. -/
import Derived.Test.YtaihjcefgokjkaaPa5
namespace Go.Proofs.Ytaihjcefgokjkaa
open Go.RowKit Rk

namespace Rk
theorem up_spec {x n : Int} (_hx : 0 ≤ x) (hn : 1 ≤ n) : x ≤ upq x n * n ∧ (upq x n - 1) * n < x ∨ x ≤ upq x n * n ∧ x = 0 := by
  have h1 := Int.mul_ediv_add_emod x n
  have h2 := Int.emod_nonneg x (show n ≠ 0 by omega)
  have h3 := Int.emod_lt_of_pos x (show 0 < n by omega)
  unfold upq
  have e1 : n * (x / n) = (x / n) * n := Int.mul_comm _ _
  by_cases h : 0 < x % n
  · rw [if_pos h]
    have e2 : (x / n + 1) * n = x / n * n + n := by rw [Int.add_mul]; omega
    have e3 : (x / n + 1 - 1) * n = x / n * n := by rw [Int.add_sub_cancel]
    left; rw [e2, e3]; omega
  · rw [if_neg h]
    have e3 : (x / n - 1) * n = x / n * n - n := by rw [Int.sub_mul]; omega
    left; rw [e3]; omega
theorem least_facts {l num den b : Int} (h : kE l num den b = 0) : 1 ≤ kV l num den b ∧ kV l num den b ≤ 1048576 ∧ bytesV (kV l num den b) ≤ b ∧ wantB l num den = true ∧ l * den ≤ kV l num den b * num ∧ (kV l num den b - 1) * num < l * den := by
  unfold kE at h
  by_cases h0 : leastE l num den = 0
  · rw [if_pos h0] at h
    by_cases hb : b < bytesV (leastV l num den)
    · rw [if_pos hb] at h; omega
    · have ek : kV l num den b = leastV l num den := by unfold kV; rw [if_pos h0, if_neg hb]
      rw [ek]
      unfold leastE at h0
      by_cases hw : wantB l num den = true
      · rw [if_pos hw] at h0
        by_cases ho : (partUpOk l den num && isK (partUpV l den num)) = true
        · have el : leastV l num den = partUpV l den num := by unfold leastV; rw [hw, ho]; rfl
          rw [el] at hb ⊢
          simp only [Bool.and_eq_true] at ho
          obtain ⟨h3, h4⟩ := want_up hw
          have hp : partUpV l den num = upq (l * den) num := by
            have := ho.1
            unfold partUpOk at this
            unfold partUpV
            rw [h3] at this ⊢
            simp only [Bool.true_and, capOk, decide_eq_true_eq] at this
            simp only [if_true, capV]
            rw [if_pos this]
          have hk := ho.2
          simp only [isK, decide_eq_true_eq] at hk
          have hw' := hw
          simp only [wantB, uniB, Bool.and_eq_true, decide_eq_true_eq] at hw'
          obtain ⟨⟨⟨a1, a2⟩, b1⟩, c1⟩ := hw'
          have h5 : 1 * 1 ≤ l * den := Int.mul_le_mul a1 c1 (by omega) (by omega)
          have hs := up_spec (x := l * den) (n := num) (by omega) b1
          rw [hp] at hk hb ⊢
          refine ⟨hk.1, hk.2, by omega, hw, ?_, ?_⟩
          · rcases hs with h | h <;> exact h.1
          · rcases hs with h | h
            · exact h.2
            · omega
        · rw [if_neg ho] at h0; omega
      · rw [if_neg hw] at h0; omega
  · rw [if_neg h0] at h; omega
theorem least_none {l num den b : Int} (h : kE l num den b ≠ 0) : kV l num den b = 0 := by
  unfold kE at h
  unfold kV
  by_cases h0 : leastE l num den = 0
  · rw [if_pos h0] at h ⊢
    by_cases hb : b < bytesV (leastV l num den)
    · rw [if_pos hb]
    · rw [if_neg hb] at h; omega
  · rw [if_neg h0]
theorem within_of {l num den k n : Int} (hw : wantB l num den = true) (h1 : 1 ≤ k) (h2 : k ≤ 1048576) (h3 : l * den ≤ k * num) (n0 : 0 ≤ n) (n1 : n ≤ 72057594037927935) : withinB l num den k n = true := by
  have hw' := hw
  simp only [wantB, uniB, Bool.and_eq_true, decide_eq_true_eq] at hw'
  obtain ⟨⟨⟨a1, a2⟩, b1⟩, c1⟩ := hw'
  have ho : errOk l k n = true := by simp [errOk, uniB, isK]; omega
  have ev : errV l k n = l * (n / k) := by unfold errV; rw [ho]; rfl
  have eb := errV_bd l k n
  unfold withinB
  rw [ho, hw, ev]
  rw [ev] at eb
  have q0 : 0 ≤ n / k := Int.ediv_nonneg n0 (by omega)
  have e1 : l * (n / k) * den = l * den * (n / k) := by rw [Int.mul_assoc, Int.mul_comm (n / k), ← Int.mul_assoc]
  have e2 : l * den * (n / k) ≤ k * num * (n / k) := Int.mul_le_mul_of_nonneg_right h3 q0
  have e3 : k * num * (n / k) = k * (n / k) * num := by rw [Int.mul_assoc, Int.mul_comm num, ← Int.mul_assoc]
  have e4 : k * (n / k) ≤ n := Int.mul_ediv_self_le (by omega)
  have e5 : k * (n / k) * num ≤ n * num := Int.mul_le_mul_of_nonneg_right e4 (by omega)
  have hle : l * (n / k) * den ≤ n * num := by omega
  have : orderV (l * (n / k)) den n num ≤ 0 := by
    unfold orderV sgn
    split
    · split
      · omega
      · rw [if_neg (by omega)]; omega
    · omega
  simp [this]
theorem within_no {l num den k : Int} (hw : wantB l num den = true) (h1 : 1 ≤ k) (h2 : k ≤ 1048576) (h3 : k * num < l * den) : withinB l num den k k = false := by
  have hw' := hw
  simp only [wantB, uniB, Bool.and_eq_true, decide_eq_true_eq] at hw'
  obtain ⟨⟨⟨a1, a2⟩, b1⟩, c1⟩ := hw'
  have ho : errOk l k k = true := by simp [errOk, uniB, isK]; omega
  have ev : errV l k k = l := by unfold errV; rw [ho, Int.ediv_self (by omega)]; simp
  unfold withinB
  rw [ho, hw, ev]
  have hoo : orderOk l den k num = true := by simp [orderOk]; omega
  have : orderV l den k num = 1 := by
    unfold orderV sgn
    rw [hoo]
    simp only [if_true]
    rw [if_neg (by omega), if_pos (by omega)]
  rw [this]; decide
end Rk

set_option maxRecDepth 100000 in
set_option maxHeartbeats 8000000 in
theorem PlanLeast_walk (l num den b n more : Int) (w : World) (bl : In64 l) (bn : In64 num) (bd : In64 den) (bb : In64 b) (bm : In64 n) (bo : In64 more) :
    Calls Try.prog 6 #[.agg #[.int .i64 l, .int .i64 num, .int .i64 den, .int .i64 b], .int .i64 n, .int .i64 more] w fun e w' => e = .returned (.bool true) ∧ Below w.heap.size w w' := by
  have K := hid (fun W : World => pa_k l num den b W bl bn bd bb)
  have A := hid (fun W : World => pa_alive W)
  have hB : Below w.heap.size w (w.alloc (.cells #[.int .i64 l, .int .i64 num, .int .i64 den, .int .i64 b] 23)) := (Below.refl _ _).alloc (Nat.le_refl _) _
  have X := Blk.new w #[.int .i64 l, .int .i64 num, .int .i64 den, .int .i64 b] 23
  by_cases h0 : kE l num den b = 0
  · obtain ⟨k1, k2, kb, hw, f1, f2⟩ := least_facts h0
    rw [h0] at K
    have K2 := K
    have kin : In64 (kV l num den b) := ⟨by omega, by omega⟩
    have B := hid (fun W : World => pa_bytes (kV l num den b) W)
    have ik : isK (kV l num den b) = true := by simp [isK]; omega
    rw [ik] at B
    have G := hid (fun W : World => pa_greatest b W bb)
    have gk : kV l num den b ≤ greatV b := (great_iff k1 k2).1 kb
    have ge : greatE b = 0 := by unfold greatE; rw [if_neg (by omega)]
    rw [ge] at G
    have hw' := hw
    simp only [wantB, uniB, Bool.and_eq_true, decide_eq_true_eq] at hw'
    have W1 : (0 ≤ n ∧ n ≤ 72057594037927935) → ∀ W : World, Calls Try.prog 23 #[.agg #[.int .i64 l, .int .i64 num, .int .i64 den, .int .i64 b], .int .i64 (kV l num den b), .int .i64 n] W fun e w' => e = .returned (.bool true) ∧ Below W.heap.size W w' := fun h W => by
      have := pa_within l num den b (kV l num den b) n W bl bn bd bb kin bm
      rw [within_of (n := n) hw k1 k2 f1 h.1 h.2] at this; exact this
    have W2 : 1 < kV l num den b → ∀ W : World, Calls Try.prog 23 #[.agg #[.int .i64 l, .int .i64 num, .int .i64 den, .int .i64 b], .int .i64 (kV l num den b - 1), .int .i64 (kV l num den b - 1)] W fun e w' => e = .returned (.bool false) ∧ Below W.heap.size W w' := fun h W => by
      have := pa_within l num den b (kV l num den b - 1) (kV l num den b - 1) W bl bn bd bb ⟨by omega, by omega⟩ ⟨by omega, by omega⟩
      rw [within_no (l := l) (num := num) (den := den) (k := kV l num den b - 1) hw (by omega) (by omega) f2] at this; exact this
    have W3 : (kV l num den b < more ∧ more ≤ 1048576) → (0 ≤ n ∧ n ≤ 72057594037927935) → ∀ W : World, Calls Try.prog 23 #[.agg #[.int .i64 l, .int .i64 num, .int .i64 den, .int .i64 b], .int .i64 more, .int .i64 n] W fun e w' => e = .returned (.bool true) ∧ Below W.heap.size W w' := fun h g W => by
      have := pa_within l num den b more n W bl bn bd bb bo bm
      have hm : kV l num den b * num ≤ more * num := Int.mul_le_mul_of_nonneg_right (by omega) (by omega)
      rw [within_of (l := l) (num := num) (den := den) (k := more) (n := n) hw (by omega) h.2 (by omega) g.1 g.2] at this; exact this
    have Or := hid (fun W : World => r_order (kV l num den b - 1) num l den W (by omega) (by omega) bn.1 bn.2 bl.1 bl.2 bd.1 bd.2)
    have hord : orderV (kV l num den b - 1) num l den = -1 := by
      unfold orderV sgn
      rw [if_pos (by simp [orderOk]; omega), if_pos f2]
    rw [hord] at Or
    have H1 := hid W1
    have H2 := hid W2
    have H3 := hid W3
    generalize kV l num den b = k at *
    generalize bytesV k = bv at *
    generalize greatV b = g at *
    generalize orderOk (k - 1) num l den = oo at *
    have hX := hid (fun (W : World) (Y : Blk W w.heap.size #[.int .i64 l, .int .i64 num, .int .i64 den, .int .i64 b] 23) => (⟨Y.cell 0, Y.cell 1, Y.cell 2, Y.cell 3⟩ : W.cell? ⟨w.heap.size, 0, none⟩ = some (.int .i64 l) ∧ W.cell? ⟨w.heap.size, 1, none⟩ = some (.int .i64 num) ∧ W.cell? ⟨w.heap.size, 2, none⟩ = some (.int .i64 den) ∧ W.cell? ⟨w.heap.size, 3, none⟩ = some (.int .i64 b)))
    clear W1 W2 W3 hord ik h0 ge f1 f2 hw hw' K
    obtain ⟨n1, n2⟩ := bm
    obtain ⟨m1, m2⟩ := bo
    have hdb : decide (b < bv) = false := by simpa using kb
    go_enter Try.func6, Try.ntmps6
    go_wp2_with fail
    refine (K2.out _).mono ?_
    rintro e w2 ⟨rfl, hb2⟩
    replace hB := hB.trans (hb2.mono hB.size)
    replace X := X.below hb2 (Nat.le_refl _)
    clear hb2
    go_wp2_with fail
    refine (B.out _).mono ?_
    rintro e w3 ⟨rfl, rfl⟩
    obtain ⟨x0, x1, x2, x3⟩ := hX.out _ X
    go_upto_region 5 with fail
    go_cut [54] (fun s wx => s = .bool false ∧ Blk wx w.heap.size #[.int .i64 l, .int .i64 num, .int .i64 den, .int .i64 b] 23 ∧ Below w.heap.size w wx)
    case first =>
      rcases (show (0 ≤ n ∧ n ≤ 72057594037927935) ∨ n < 0 ∨ 72057594037927935 < n by omega) with ⟨hn0, hn1⟩ | hn0 | hn0
      · have V := hid (H1.out ⟨hn0, hn1⟩)
        go_wp2_with fail
        refine (V.out _).mono ?_
        rintro e w4 ⟨rfl, hb4⟩
        go_wp2_with fail
        go_meet
        exact ⟨rfl, X.below hb4 (Nat.le_refl _), hB.trans (hb4.mono hB.size)⟩
      all_goals
        go_wp2_with fail
        go_meet
        exact ⟨rfl, X, hB⟩
    case rest =>
      obtain ⟨rfl, X1, hB1⟩ := hcut
      clear X hB x0 x1 x2 x3
      obtain ⟨x0, x1, x2, x3⟩ := hX.out _ X1
      go_wp2_with fail
      refine (G.out _).mono ?_
      rintro e w5 ⟨rfl, hb5⟩
      have X5 := X1.below hb5 (Nat.le_refl _)
      have hB5 := hB1.trans (hb5.mono hB1.size)
      clear X1 hB1 hb5 x0 x1 x2 x3
      obtain ⟨x0, x1, x2, x3⟩ := hX.out _ X5
      go_upto_if 69 with fail
      go_cut [] (fun wx => Blk wx w.heap.size #[.int .i64 l, .int .i64 num, .int .i64 den, .int .i64 b] 23 ∧ Below w.heap.size w wx)
      case first =>
        by_cases hk : 1 < k
        · have V := hid (H2.out hk)
          go_wp2_with fail
          refine (Or.out _).mono ?_
          rintro e w6 ⟨rfl, hb6⟩
          have X6 := X5.below hb6 (Nat.le_refl _)
          have hB6 := hB5.trans (hb6.mono hB5.size)
          clear x0 x1 x2 x3
          obtain ⟨x0, x1, x2, x3⟩ := hX.out _ X6
          go_wp2_with fail
          refine (V.out _).mono ?_
          rintro e w7 ⟨rfl, hb7⟩
          go_wp2_with fail
          go_meet
          exact ⟨X6.below hb7 (Nat.le_refl _), hB6.trans (hb7.mono hB6.size)⟩
        · go_wp2_with fail
          go_meet
          exact ⟨X5, hB5⟩
      case rest =>
        obtain ⟨X8, hB8⟩ := hcut
        clear X5 hB5 x0 x1 x2 x3
        obtain ⟨x0, x1, x2, x3⟩ := hX.out _ X8
        go_upto_region 14 with fail
        go_cut [113] (fun s wx => s = .bool false ∧ Below w.heap.size w wx)
        case first =>
          rcases (show (k < more ∧ more ≤ 1048576) ∨ more ≤ k ∨ 1048576 < more by omega) with ⟨hm0, hm1⟩ | hm0 | hm0
          · rcases (show (0 ≤ n ∧ n ≤ 72057594037927935) ∨ n < 0 ∨ 72057594037927935 < n by omega) with ⟨hn0, hn1⟩ | hn0 | hn0
            · have V := hid (H3.out ⟨hm0, hm1⟩ ⟨hn0, hn1⟩)
              go_wp2_with fail
              refine (V.out _).mono ?_
              rintro e w9 ⟨rfl, hb9⟩
              go_wp2_with fail
              go_meet
              exact ⟨rfl, hB8.trans (hb9.mono hB8.size)⟩
            all_goals
              go_wp2_with fail
              go_meet
              exact ⟨rfl, hB8⟩
          all_goals
            go_wp2_with fail
            go_meet
            exact ⟨rfl, hB8⟩
        case rest =>
          obtain ⟨rfl, hC⟩ := hcut
          go_wp2_with fail
          refine (A.out _).mono ?_
          rintro e w10 ⟨rfl, hb10⟩
          go_wp2_with fail
          go_ret
          exact ⟨rfl, hC.trans (hb10.mono hC.size)⟩
  · have e0 := least_none h0
    rw [e0] at K
    have h1 : (kE l num den b != 0) = true := by simpa using h0
    generalize kE l num den b = ke at *
    clear e0 h0
    go_enter Try.func6, Try.ntmps6
    go_wp2_with fail
    refine (K.out _).mono ?_
    rintro e w2 ⟨rfl, hb2⟩
    have hs2 := hb2.size
    go_wp2_with fail
    refine (A.out _).mono ?_
    rintro e w3 ⟨rfl, hb3⟩
    go_wp2_with fail
    go_ret
    exact ⟨rfl, (hB.trans (hb2.mono hB.size)).trans (hb3.mono (by have := hB.size; omega))⟩
end Go.Proofs.Ytaihjcefgokjkaa
