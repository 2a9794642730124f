/- The walk of the reference's Bits. -/
import Derived.Test.YtllbnlkjjhjlgaaRkWide
namespace Go.Proofs.Ytllbnlkjjhjlgaa
open Go.RowKit Rk

/-- A slice of one number, laid by the call. -/
theorem own_lit (w : World) (c : Int) : Own (w.alloc (.cells #[.int .i64 c] 3)) w.heap.size (.slice (some ⟨w.heap.size, 0, none⟩) 1 1) [c] :=
  ⟨by simp, .inr ⟨w.heap.size, 1, #[.int .i64 c], rfl, Nat.le_refl _, heap_alloc_new w _, Nat.le_refl _, by unfold maxLen; omega, by simp, by simp⟩⟩

/-- The bits of one word: m is the one that comes next. -/
def WordRel (W : World) (V x : Int) (L : Nat) (out i : Value) (wr : World) : Prop :=
  ∃ (m : Int) (zs : List Int), i = .int .i64 m ∧ -1 ≤ m ∧ m ≤ 63 ∧ Own wr W.heap.size out zs ∧ Dig zs ∧ Rk.val zs = V * p2 (63 - m).toNat + x / p2 (m + 1).toNat ∧ (zs.length : Int) + 2 * (m + 1) ≤ L + 128 ∧ Below W.heap.size W wr

/-- The words. -/
def WordsRel (W : World) (x y : Int) (out k : Value) (wr : World) : Prop :=
  ∃ (m : Int) (zs : List Int), k = .int .i64 m ∧ Own wr W.heap.size out zs ∧ Dig zs ∧ Below W.heap.size W wr ∧
    ((m = 1 ∧ zs = []) ∨ (m = 0 ∧ Rk.val zs = y ∧ zs.length ≤ 128) ∨ (m = -1 ∧ Rk.val zs = wide x y ∧ zs.length ≤ 256))

theorem word_step {V x : Int} {k : Nat} (hk : k + 1 ≤ 64) : (V * p2 (64 - (k + 1)) + x / p2 (k + 1)) * 2 + (x / p2 k) % 2 = V * p2 (64 - k) + x / p2 k := by
  have e1 : p2 (64 - k) = 2 * p2 (64 - (k + 1)) := by rw [show 64 - k = (64 - (k + 1)) + 1 by omega]; rfl
  have e2 : x / p2 (k + 1) = x / p2 k / 2 := by
    rw [show p2 (k + 1) = p2 k * 2 by simp only [p2]; omega, Int.ediv_ediv_of_nonneg (by have := p2_pos k; omega)]
  rw [e1, e2]
  generalize x / p2 k = y
  generalize p2 (64 - (k + 1)) = p
  have : V * (2 * p) = V * p * 2 := by grind
  rw [this]
  omega
theorem p2_64 : p2 64 = 18446744073709551616 := by decide
theorem word_none {x : Int} (h0 : 0 ≤ x) (h1 : x ≤ 18446744073709551615) : x / p2 64 = 0 := Int.ediv_eq_zero_of_lt h0 (by rw [p2_64]; omega)

set_option maxRecDepth 100000 in
set_option maxHeartbeats 2000000 in
theorem bits_any (x y : Int) (w : World) (hx : 0 ≤ x) (hx1 : x ≤ 18446744073709551615) (hy : 0 ≤ y) (hy1 : y ≤ 18446744073709551615) :
    Calls Try.prog 35 #[.agg #[.int .u64 x, .int .u64 y]] w (IsNum (wide x y) 256 w) := by
  go_enter Try.func35, Try.ntmps35
  go_wp2_with fail
  go_loopw [3, 4] (fun out k wr => WordsRel (w.alloc (.cells #[.int .u64 x, .int .u64 y] 33)) x y out k wr) (fun _ k _ => (intOf k + 1).toNat)
  case atStart => exact ⟨_, [], rfl, Own.nil _ _, Dig.nil, Below.refl _ _, .inl ⟨rfl, rfl⟩⟩
  case round =>
    obtain ⟨m, zs, rfl, hown, hz, hbl, hcase⟩ := hrel
    obtain ⟨wo, rfl⟩ : ∃ wo : World, wo = wr := ⟨_, rfl⟩
    rcases hcase with ⟨rfl, rfl⟩ | ⟨rfl, hv, hl⟩ | ⟨rfl, hv, hl⟩
    · go_wp2_with fail
      go_loopw [3, 5] (fun out i w1 => WordRel (w.alloc (.cells #[.int .u64 x, .int .u64 y] 33)) 0 y 0 out i w1) (fun _ i _ => (intOf i + 1).toNat)
      case atStart =>
        refine ⟨_, _, rfl, by omega, by omega, hown, hz, ?_, by simp, hbl⟩
        have h := word_none hy hy1
        simp [Rk.val]
        exact h.symm
      case round =>
        obtain ⟨m, zs, rfl, hm0, hm1, hown, hz, hv0, hl0, hbl⟩ := hrel
        have hwr := hbl.size
        have hv := hid hv0
        have hlz : zs.length ≤ 1000 := by omega
        have hl := hid hl0
        have hcell : wr.cell? ⟨w.heap.size, 1, none⟩ = some (.int .u64 y) := by rw [hbl.cell (p := ⟨w.heap.size, 1, none⟩) (by simp)]; simp
        clear hv0 hl0
        by_cases h1 : 0 ≤ m
        · obtain ⟨j, rfl⟩ := Int.eq_ofNat_of_zero_le h1
          go_wp2_with fail
          refine (sum_any _ hown hown hz hz (by omega) (by omega)).mono ?_
          rintro e w2 ⟨v2, z2, rfl, ho2, hz2, hv2, hl2, hb2⟩
          have hw2 := hb2.size
          have V2 : Hid (Rk.val z2 = (0 * p2 (63 - (j : Int)).toNat + y / p2 ((j : Int) + 1).toNat) * 2) := by show _ = _; rw [hv2, hv.out]; omega
          have L2 : Hid ((z2.length : Int) + 2 * j ≤ 0 + 127) := by show _ ≤ _; have := hl.out; omega
          have hl3 : z2.length ≤ 1001 := by omega
          have hcell2 : w2.cell? ⟨w.heap.size, 1, none⟩ = some (.int .u64 y) := by rw [hb2.cell (p := ⟨w.heap.size, 1, none⟩) (by simp at hwr; show w.heap.size < _; omega)]; exact hcell
          have hws := word_step (V := 0) (x := y) (k := j) (by omega)
          have e1 : (63 - (j : Int)).toNat = 64 - (j + 1) := by omega
          have e2 : ((j : Int) + 1).toNat = j + 1 := by omega
          have e3 : (63 - ((j : Int) - 1)).toNat = 64 - j := by omega
          have e4 : ((j : Int) - 1 + 1).toNat = j := by omega
          have HS : Hid ((0 * p2 (63 - (j : Int)).toNat + y / p2 ((j : Int) + 1).toNat) * 2 + y / 2 ^ j % 2 = 0 * p2 (63 - ((j : Int) - 1)).toNat + y / p2 ((j : Int) - 1 + 1).toNat) := by
            show _ = _
            rw [e1, e2, e3, e4, ← p2_pow]; exact hws
          clear hv2 hl2 hws e1 e2 e3 e4 hcell
          have hbb := hbl.trans (hb2.mono hwr)
          have hr00 : 0 ≤ y / 2 ^ j := Int.ediv_nonneg hy (Int.le_of_lt (Int.pow_pos (by omega)))
          have hr01 : 0 ≤ y / 2 ^ j % 2 ∧ y / 2 ^ j % 2 ≤ 1 := by omega
          by_cases h2 : y / 2 ^ j % 2 = 1
          · have H2 := hid h2
            have hb3 : (y / 2 ^ j % 2 == 1) = true := by simpa using h2
            clear h2
            go_wp2_with fail
            refine (sum_any _ (ho2.alloc _) (own_lit w2 1) hz2 (Dig.cons (by omega) Dig.nil) (by omega) (by simp)).mono ?_
            rintro e w3 ⟨v3, z3, rfl, ho3, hz3, hv3, hl4, hb4⟩
            have hw3 := hb4.size
            simp at hw3
            have V3 := hid hv3
            have L3 := hid hl4
            clear hv3 hl4
            go_wp2_with fail
            go_roundw
            case rel =>
              refine ⟨_, z3, rfl, by omega, by omega, ho3.mono (Nat.le_trans (Nat.le_trans hwr hw2) (by simp)), hz3, ?_, ?_, (hbb.alloc (by omega) _).trans (hb4.mono (Nat.le_trans (Nat.le_trans hwr hw2) (by simp)))⟩
              · have := HS.out
                rw [H2.out] at this
                rw [V3.out, V2.out, ← this]; simp [Rk.val]
              · have := L3.out; have := L2.out; simp at *; omega
            case measure => simp [intOf]
          · have H2 : Hid (y / 2 ^ j % 2 = 0) := by show _ = _; omega
            have hb3 : (y / 2 ^ j % 2 == 1) = false := by simpa using h2
            clear h2
            go_wp2_with fail
            go_roundw
            case rel =>
              refine ⟨_, z2, rfl, by omega, by omega, ho2.mono (by omega), hz2, ?_, ?_, hbb⟩
              · have := HS.out
                rw [H2.out] at this
                rw [V2.out, ← this]; simp
              · have := L2.out; omega
            case measure => simp [intOf]
        · go_wp2_with fail
          go_roundw
          case rel =>
            have hm : m = -1 := by omega
            subst hm
            refine ⟨_, zs, rfl, hown, hz, hbl, ?_⟩
            refine .inr (.inl ⟨by omega, ?_, ?_⟩)
            · rw [hv.out]; simp [p2]
            · have := hl.out; omega
          case measure => simp [intOf]
    · have hv' := hid hv
      clear hv
      go_wp2_with fail
      go_loopw [3, 5] (fun out i w1 => WordRel (w.alloc (.cells #[.int .u64 x, .int .u64 y] 33)) y x 128 out i w1) (fun _ i _ => (intOf i + 1).toNat)
      case atStart =>
        refine ⟨_, _, rfl, by omega, by omega, hown, hz, ?_, by omega, hbl⟩
        have h := word_none hx hx1
        rw [hv'.out]
        show y = y * p2 0 + x / p2 64
        rw [h]; simp [p2]
      case round =>
        obtain ⟨m, zs, rfl, hm0, hm1, hown, hz, hv0, hl0, hbl⟩ := hrel
        have hwr := hbl.size
        have hv := hid hv0
        have hlz : zs.length ≤ 1000 := by omega
        have hl := hid hl0
        have hcell : wr.cell? ⟨w.heap.size, 0, none⟩ = some (.int .u64 x) := by rw [hbl.cell (p := ⟨w.heap.size, 0, none⟩) (by simp)]; simp
        clear hv0 hl0
        by_cases h1 : 0 ≤ m
        · obtain ⟨j, rfl⟩ := Int.eq_ofNat_of_zero_le h1
          go_wp2_with fail
          refine (sum_any _ hown hown hz hz (by omega) (by omega)).mono ?_
          rintro e w2 ⟨v2, z2, rfl, ho2, hz2, hv2, hl2, hb2⟩
          have hw2 := hb2.size
          have V2 : Hid (Rk.val z2 = (y * p2 (63 - (j : Int)).toNat + x / p2 ((j : Int) + 1).toNat) * 2) := by show _ = _; rw [hv2, hv.out]; omega
          have L2 : Hid ((z2.length : Int) + 2 * j ≤ 128 + 127) := by show _ ≤ _; have := hl.out; omega
          have hl3 : z2.length ≤ 1001 := by omega
          have hcell2 : w2.cell? ⟨w.heap.size, 0, none⟩ = some (.int .u64 x) := by rw [hb2.cell (p := ⟨w.heap.size, 0, none⟩) (by simp at hwr; show w.heap.size < _; omega)]; exact hcell
          have hws := word_step (V := y) (x := x) (k := j) (by omega)
          have e1 : (63 - (j : Int)).toNat = 64 - (j + 1) := by omega
          have e2 : ((j : Int) + 1).toNat = j + 1 := by omega
          have e3 : (63 - ((j : Int) - 1)).toNat = 64 - j := by omega
          have e4 : ((j : Int) - 1 + 1).toNat = j := by omega
          have HS : Hid ((y * p2 (63 - (j : Int)).toNat + x / p2 ((j : Int) + 1).toNat) * 2 + x / 2 ^ j % 2 = y * p2 (63 - ((j : Int) - 1)).toNat + x / p2 ((j : Int) - 1 + 1).toNat) := by
            show _ = _
            rw [e1, e2, e3, e4, ← p2_pow]; exact hws
          clear hv2 hl2 hws e1 e2 e3 e4 hcell
          have hbb := hbl.trans (hb2.mono hwr)
          have hr00 : 0 ≤ x / 2 ^ j := Int.ediv_nonneg hx (Int.le_of_lt (Int.pow_pos (by omega)))
          have hr01 : 0 ≤ x / 2 ^ j % 2 ∧ x / 2 ^ j % 2 ≤ 1 := by omega
          by_cases h2 : x / 2 ^ j % 2 = 1
          · have H2 := hid h2
            have hb3 : (x / 2 ^ j % 2 == 1) = true := by simpa using h2
            clear h2
            go_wp2_with fail
            refine (sum_any _ (ho2.alloc _) (own_lit w2 1) hz2 (Dig.cons (by omega) Dig.nil) (by omega) (by simp)).mono ?_
            rintro e w3 ⟨v3, z3, rfl, ho3, hz3, hv3, hl4, hb4⟩
            have hw3 := hb4.size
            simp at hw3
            have V3 := hid hv3
            have L3 := hid hl4
            clear hv3 hl4
            go_wp2_with fail
            go_roundw
            case rel =>
              refine ⟨_, z3, rfl, by omega, by omega, ho3.mono (Nat.le_trans (Nat.le_trans hwr hw2) (by simp)), hz3, ?_, ?_, (hbb.alloc (by omega) _).trans (hb4.mono (Nat.le_trans (Nat.le_trans hwr hw2) (by simp)))⟩
              · have := HS.out
                rw [H2.out] at this
                rw [V3.out, V2.out, ← this]; simp [Rk.val]
              · have := L3.out; have := L2.out; simp at *; omega
            case measure => simp [intOf]
          · have H2 : Hid (x / 2 ^ j % 2 = 0) := by show _ = _; omega
            have hb3 : (x / 2 ^ j % 2 == 1) = false := by simpa using h2
            clear h2
            go_wp2_with fail
            go_roundw
            case rel =>
              refine ⟨_, z2, rfl, by omega, by omega, ho2.mono (by omega), hz2, ?_, ?_, hbb⟩
              · have := HS.out
                rw [H2.out] at this
                rw [V2.out, ← this]; simp
              · have := L2.out; omega
            case measure => simp [intOf]
        · go_wp2_with fail
          go_roundw
          case rel =>
            have hm : m = -1 := by omega
            subst hm
            refine ⟨_, zs, rfl, hown, hz, hbl, ?_⟩
            refine .inr (.inr ⟨by omega, ?_, ?_⟩)
            · rw [hv.out]
              show y * p2 64 + x / p2 0 = wide x y
              rw [p2_64]; simp [p2, wide]
            · have := hl.out; omega
          case measure => simp [intOf]
    · have Hv := hid hv
      clear hv
      go_wp2_with fail
      go_ret
      have hs : w.heap.size ≤ w.heap.size + 1 := by omega
      exact ⟨_, zs, rfl, hown.mono (by simp), hz, Hv.out, hl, ((Below.refl _ _).alloc (Nat.le_refl _) _).trans (hbl.mono (by simp))⟩
end Go.Proofs.Ytllbnlkjjhjlgaa
