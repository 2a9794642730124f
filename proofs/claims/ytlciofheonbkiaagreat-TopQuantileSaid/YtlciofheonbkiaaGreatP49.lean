/- Texts laid together. -/
import Derived.Test.YtlciofheonbkiaaGreatRows
import Derived.Laws.FloatArith
import Derived.Test.YtlciofheonbkiaaGreatP23
import Derived.Laws.Cover2
import Derived.Test.YtlciofheonbkiaaGreatP47
import Derived.Test.YtlciofheonbkiaaGreatP48
namespace Go.Proofs.YtlciofheonbkiaaGreat
set_option maxRecDepth 100000
namespace Fl
open Go Ieee
theorem dbl : Ieee.double.signWeight = 2 ^ 63 ∧ Ieee.double.binade = 2 ^ 52 ∧ Ieee.double.infRung = 2047 * 2 ^ 52 ∧ Ieee.double.leastPlace = -1074 ∧ Ieee.double.fractionBits = 52 := by decide
theorem cut_none (n : Nat) (s : Bool) : Toward.even.cut s n 0 = n := by
  unfold Toward.cut
  simp [Nat.mod_one]
theorem nearest_pos {n : Nat} (h0 : 0 < n) (h : n < 2 ^ 53) : Ieee.double.nearest false n 0 = (n.log2 + 1022) * 2 ^ 52 + n * 2 ^ (52 - n.log2) := by
  obtain ⟨d1, d2, d3, d4, d5⟩ := dbl
  have hb : n.log2 < 53 := (Nat.log2_lt (by omega)).2 h
  unfold Format.nearest
  rw [if_neg (by omega), d2, d3, d4, d5]
  have e1 : max ((0 : Int) + (n.log2 : Nat) - (52 : Nat)) (-1074) = (n.log2 : Int) - 52 := by omega
  simp only [e1]
  have e2 : ((n.log2 : Int) - 52 - 0).toNat = 0 := by omega
  have e3 : ((0 : Int) - ((n.log2 : Int) - 52)).toNat = 52 - n.log2 := by omega
  have e4 : ((n.log2 : Int) - 52 - -1074).toNat = n.log2 + 1022 := by omega
  rw [e2, e3, e4, cut_none, Nat.shiftLeft_eq]
  unfold Format.word
  simp only [Bool.false_eq_true, if_false]
  have k1 : n * 2 ^ (52 - n.log2) < 2 ^ 53 := by
    have h1 : n < 2 ^ (n.log2 + 1) := Nat.lt_log2_self
    calc n * 2 ^ (52 - n.log2) < 2 ^ (n.log2 + 1) * 2 ^ (52 - n.log2) := Nat.mul_lt_mul_of_pos_right h1 (Nat.pow_pos (by omega))
      _ = 2 ^ 53 := by rw [← Nat.pow_add]; congr 1; omega
  generalize n * 2 ^ (52 - n.log2) = m at *
  generalize n.log2 = b at *
  exact Nat.min_eq_left (by omega)
theorem read_near {n : Nat} (h0 : 0 < n) (h : n < 2 ^ 53) : Ieee.double.read (Ieee.double.nearest false n 0) = .number false (n * 2 ^ (52 - n.log2)) ((n.log2 : Int) - 52) := by
  obtain ⟨d1, d2, d3, d4, d5⟩ := dbl
  have hb : n.log2 < 53 := (Nat.log2_lt (by omega)).2 h
  rw [nearest_pos h0 h]
  have k1 : n * 2 ^ (52 - n.log2) < 2 ^ 53 := by
    have h1 : n < 2 ^ (n.log2 + 1) := Nat.lt_log2_self
    calc n * 2 ^ (52 - n.log2) < 2 ^ (n.log2 + 1) * 2 ^ (52 - n.log2) := Nat.mul_lt_mul_of_pos_right h1 (Nat.pow_pos (by omega))
      _ = 2 ^ 53 := by rw [← Nat.pow_add]; congr 1; omega
  have k2 : 2 ^ 52 ≤ n * 2 ^ (52 - n.log2) := by
    have h1 : 2 ^ n.log2 ≤ n := Nat.log2_self_le (by omega)
    calc 2 ^ 52 = 2 ^ n.log2 * 2 ^ (52 - n.log2) := by rw [← Nat.pow_add]; congr 1; omega
      _ ≤ n * 2 ^ (52 - n.log2) := Nat.mul_le_mul_right _ h1
  generalize n * 2 ^ (52 - n.log2) = m at *
  generalize n.log2 = b at *
  obtain ⟨f, rfl⟩ : ∃ f, m = 2 ^ 52 + f := ⟨m - 2 ^ 52, by omega⟩
  have hf : f < 2 ^ 52 := by omega
  unfold Format.read
  rw [d1, d2, d3, d4]
  have r0 : (b + 1022) * 2 ^ 52 + (2 ^ 52 + f) = (b + 1023) * 2 ^ 52 + f := by omega
  rw [r0]
  have r1 : ((b + 1023) * 2 ^ 52 + f) % 2 ^ 63 = (b + 1023) * 2 ^ 52 + f := Nat.mod_eq_of_lt (by omega)
  have r2 : ((b + 1023) * 2 ^ 52 + f) / 2 ^ 63 = 0 := Nat.div_eq_of_lt (by omega)
  have r3 : ((b + 1023) * 2 ^ 52 + f) % 2 ^ 52 = f := by rw [Nat.add_comm, Nat.add_mul_mod_self_right, Nat.mod_eq_of_lt hf]
  have r4 : ((b + 1023) * 2 ^ 52 + f) / 2 ^ 52 = b + 1023 := by rw [Nat.add_comm, Nat.add_mul_div_right _ _ (Nat.pow_pos (by decide)), Nat.div_eq_of_lt hf, Nat.zero_add]
  simp only [r1, r2, r3, r4]
  rw [if_neg (by omega), if_pos (by omega)]
  congr 1
  omega
theorem cut_zero (n k : Nat) (s : Bool) (h : k ≤ (n * 2 ^ k).log2 + 2) : Toward.zero.cut s (n * 2 ^ k) k = n := by
  unfold Toward.cut
  simp only [Nat.min_eq_left h, Nat.shiftLeft_eq, Nat.one_mul]
  simp [Nat.mul_div_cancel _ (Nat.pow_pos (n := k) (show 0 < 2 by omega))]
theorem toInt_near {n : Nat} (h : n < 2 ^ 53) : (Ieee.double.read (Ieee.double.nearest false n 0)).toInt .zero = some (n : Int) := by
  by_cases h0 : n = 0
  · subst h0; decide +kernel
  · have hb : n.log2 < 53 := (Nat.log2_lt (by omega)).2 h
    rw [read_near (by omega) h]
    unfold Datum.toInt Datum.integral
    have e1 : ((n.log2 : Int) - 52).toNat = 0 := by omega
    have e2 : (-((n.log2 : Int) - 52)).toNat = 52 - n.log2 := by omega
    simp only [e1, e2, Nat.shiftLeft_zero]
    rw [cut_zero n (52 - n.log2) false (by
      by_cases q : n.log2 = 0
      · rw [q]
        have hn : n = 1 := by
          have h1 : n < 2 ^ (n.log2 + 1) := Nat.lt_log2_self
          rw [q] at h1; omega
        subst hn; decide
      · have k2 : 2 ^ 52 ≤ n * 2 ^ (52 - n.log2) := by
          have h1 : 2 ^ n.log2 ≤ n := Nat.log2_self_le (by omega)
          calc 2 ^ 52 = 2 ^ n.log2 * 2 ^ (52 - n.log2) := by rw [← Nat.pow_add]; congr 1; omega
            _ ≤ n * 2 ^ (52 - n.log2) := Nat.mul_le_mul_right _ h1
        have : 52 ≤ (n * 2 ^ (52 - n.log2)).log2 := (Nat.le_log2 (by omega)).2 k2
        omega)]
    simp [signed]
theorem scaled {n b : Nat} (hb : b = n.log2) (h : n < 2 ^ 53) (h0 : 0 < n) (base : Int) (hl : base ≤ (b : Int) - 52) (hm : base ≤ 0) : (n * 2 ^ (52 - b)) <<< ((b : Int) - 52 - base).toNat = n * 2 ^ (-base).toNat := by
  have hb2 : n.log2 < 53 := (Nat.log2_lt (by omega)).2 h
  rw [Nat.shiftLeft_eq, Nat.mul_assoc, ← Nat.pow_add]
  congr 2
  omega
theorem cmp_scaled (n m k : Nat) : compare ((n * 2 ^ k : Nat) : Int) ((m * 2 ^ k : Nat) : Int) = compare (n : Int) (m : Int) := by
  have hp : 0 < 2 ^ k := Nat.pow_pos (by omega)
  rcases Nat.lt_trichotomy n m with h | h | h
  · have h2 : n * 2 ^ k < m * 2 ^ k := Nat.mul_lt_mul_of_pos_right h hp
    rw [Int.compare_eq_lt.2 (by omega), Int.compare_eq_lt.2 (by omega)]
  · subst h; simp
  · have h2 : m * 2 ^ k < n * 2 ^ k := Nat.mul_lt_mul_of_pos_right h hp
    rw [Int.compare_eq_gt.2 (by omega), Int.compare_eq_gt.2 (by omega)]
theorem read0 : Ieee.double.read (Ieee.double.nearest false 0 0) = .number false 0 (-1074) := by decide +kernel
theorem order_near {n m : Nat} (h : n < 2 ^ 53) (h' : m < 2 ^ 53) : Ieee.double.order (Ieee.double.nearest false n 0) (Ieee.double.nearest false m 0) = some (compare (n : Int) (m : Int)) := by
  unfold Format.order
  by_cases hn : n = 0
  · subst hn
    by_cases hm : m = 0
    · subst hm; decide +kernel
    · have hb : m.log2 < 53 := (Nat.log2_lt (by omega)).2 h'
      rw [read0, read_near (by omega) h']
      unfold Datum.order
      have e1 : min (-1074 : Int) ((m.log2 : Int) - 52) = -1074 := by omega
      simp only [e1, signed, Bool.false_eq_true, if_false]
      rw [scaled rfl h' (by omega) (-1074) (by omega) (by omega), Nat.zero_shiftLeft]
      have := cmp_scaled 0 m (-(-1074 : Int)).toNat
      rw [Nat.zero_mul] at this
      rw [this]
  · have hb : n.log2 < 53 := (Nat.log2_lt (by omega)).2 h
    by_cases hm : m = 0
    · subst hm
      rw [read0, read_near (by omega) h]
      unfold Datum.order
      have e1 : min ((n.log2 : Int) - 52) (-1074 : Int) = -1074 := by omega
      simp only [e1, signed, Bool.false_eq_true, if_false]
      rw [scaled rfl h (by omega) (-1074) (by omega) (by omega), Nat.zero_shiftLeft]
      have := cmp_scaled n 0 (-(-1074 : Int)).toNat
      rw [Nat.zero_mul] at this
      rw [this]
    · have hb' : m.log2 < 53 := (Nat.log2_lt (by omega)).2 h'
      rw [read_near (by omega) h, read_near (by omega) h']
      unfold Datum.order
      generalize eb : min ((n.log2 : Int) - 52) ((m.log2 : Int) - 52) = base
      simp only [signed, Bool.false_eq_true, if_false, eb]
      rw [scaled rfl h (by omega) base (by omega) (by omega), scaled rfl h' (by omega) base (by omega) (by omega), cmp_scaled]
end Fl
end Go.Proofs.YtlciofheonbkiaaGreat

namespace Go.Proofs.YtlciofheonbkiaaGreat
open Go.RowKit
def FB (n : Int) : Nat := floatOfInt .f64 n
theorem FB_eq {n : Int} (h : 0 ≤ n) : FB n = Ieee.double.nearest false n.toNat 0 := by
  unfold FB floatOfInt FloatKind.nearest FloatKind.encode
  have e : decide (n < 0) = false := decide_eq_false (by omega)
  show Ieee.double.write (.number (decide (n < 0)) n.natAbs 0) = _
  rw [e]
  show Ieee.double.nearest false n.natAbs 0 = _
  congr 1
  omega
theorem FB_order {n m : Int} (h0 : 0 ≤ n) (h1 : n ≤ 281474976710655) (h2 : 0 ≤ m) (h3 : m ≤ 281474976710655) : FloatKind.f64.format.order (FB n) (FB m) = some (compare n m) := by
  rw [FB_eq h0, FB_eq h2]
  have h := Fl.order_near (n := n.toNat) (m := m.toNat) (by omega) (by omega)
  rw [Int.toNat_of_nonneg h0, Int.toNat_of_nonneg h2] at h
  exact h
theorem FB_zero : FB 0 = 0 := by decide +kernel
theorem FB_last : FB 281474976710655 = 4823355200913801184 := by decide +kernel
theorem FB_int {n : Int} (h0 : 0 ≤ n) (h1 : n ≤ 281474976710655) : floatToIntVal .f64 (FB n) .i64 = some n := by
  unfold floatToIntVal
  have h : (FloatKind.f64.decode (FB n)).toInt .zero = some n := by
    rw [FB_eq h0]
    have h := Fl.toInt_near (n := n.toNat) (by omega)
    rw [Int.toNat_of_nonneg h0] at h
    exact h
  have hb : IntKind.i64.min ≤ n ∧ n ≤ IntKind.i64.max := by
    constructor <;> simp [IntKind.min, IntKind.max, IntKind.bits, IntKind.signed] <;> omega
  rw [h]
  exact if_pos hb
section
variable (W : World)
theorem run_i2f (n : Int) : (convert 3 158 (.int .i64 n)).run Tryz.prog W = .ok (.float .f64 (FB n)) W :=
  run_convert_int_float W 3 158 .i64 .f64 n (by rw [Tryz.underlying3]; rfl) Tryz.underlying158
theorem run_f2i {n : Int} (h0 : 0 ≤ n) (h1 : n ≤ 281474976710655) : (convert 158 3 (.float .f64 (FB n))).run Tryz.prog W = .ok (.int .i64 n) W :=
  run_convert_float_int W 158 3 .f64 .i64 (FB n) n (by rw [Tryz.underlying158]; rfl) Tryz.underlying3 (FB_int h0 h1)
end
theorem sp_whole {n : Int} (w : World) (h0 : 0 ≤ n) (h1 : n ≤ 281474976710655) : Calls Tryz.prog 159 #[.float .f64 (FB n)] w (Ret (.bool true) w) := by
  have o1 : FloatKind.f64.format.order (FB n) 0 = some Ordering.gt ∨ FloatKind.f64.format.order (FB n) 0 = some Ordering.eq := by
    have h := FB_order h0 h1 (show (0 : Int) ≤ 0 by omega) (by omega)
    rw [FB_zero] at h
    rw [h]
    rcases Int.lt_trichotomy n 0 with q | q | q
    · omega
    · subst q; exact .inr rfl
    · rw [Int.compare_eq_gt.2 q]; exact .inl rfl
  have o2 : FloatKind.f64.format.order (FB n) 4823355200913801184 = some Ordering.lt ∨ FloatKind.f64.format.order (FB n) 4823355200913801184 = some Ordering.eq := by
    have h := FB_order h0 h1 (show (0 : Int) ≤ 281474976710655 by omega) (by omega)
    rw [FB_last] at h
    rw [h]
    rcases Int.lt_trichotomy n 281474976710655 with q | q | q
    · rw [Int.compare_eq_lt.2 q]; exact .inl rfl
    · subst q; exact .inr rfl
    · omega
  have o3 : FloatKind.f64.format.order (FB n) (FB n) = some Ordering.eq := by
    rw [FB_order h0 h1 h0 h1]; simp
  have c4 := fun W => run_i2f W n
  have c5 := fun W => run_f2i W h0 h1
  generalize FB n = F at *
  rcases o1 with o1 | o1 <;> rcases o2 with o2 | o2
  all_goals
    go_enter Tryz.func159, Tryz.ntmps159
    go_wp2_with fail
    go_ret
    exact ⟨rfl, rfl⟩
theorem sp_made {lo hi : Int} (w : World) : Calls Tryz.prog 96 #[.int .i64 lo, .int .i64 hi] w (Ret (.complex .f64 (FB lo) (FB hi)) w) := by
  have c1 := fun W => run_i2f W lo
  have c2 := fun W => run_i2f W hi
  generalize FB lo = F at *
  generalize FB hi = G at *
  go_enter Tryz.func96, Tryz.ntmps96
  go_wp2_with fail
  go_ret
  exact ⟨rfl, rfl⟩
theorem sp_of {lo hi : Int} (w : World) (h0 : 0 ≤ lo) (h1 : lo ≤ hi) (h2 : hi ≤ 281474976710655) : Calls Tryz.prog 47 #[.int .i64 lo, .int .i64 hi] w (Ret (.tuple #[.complex .f64 (FB lo) (FB hi), .bool true]) w) := by
  have MA := hid (sp_made (lo := lo) (hi := hi) w)
  have z1 : decide (lo < 0) = false := decide_eq_false (by omega)
  have z2 : decide (hi < lo) = false := decide_eq_false (by omega)
  have z3 : decide (281474976710655 < hi) = false := decide_eq_false (by omega)
  generalize FB lo = F at *
  generalize FB hi = G at *
  go_enter Tryz.func47, Tryz.ntmps47
  go_wp2_with fail
  refine MA.out.mono ?_
  rintro e w2 ⟨rfl, rfl⟩
  go_wp2_with fail
  go_ret2
  exact ⟨rfl, rfl⟩
theorem sp_right {lo hi : Int} (w : World) (h0 : 0 ≤ lo) (h1 : lo ≤ hi) (h2 : hi ≤ 281474976710655) : Calls Tryz.prog 101 #[.complex .f64 (FB lo) (FB hi)] w (Ret (.bool true) w) := by
  have W1 := hid (sp_whole w h0 (show lo ≤ 281474976710655 by omega))
  have W2 := hid (sp_whole w (show 0 ≤ hi by omega) h2)
  have o1 : FloatKind.f64.format.order (FB lo) (FB hi) = some Ordering.lt ∨ FloatKind.f64.format.order (FB lo) (FB hi) = some Ordering.eq := by
    rw [FB_order h0 (by omega) (by omega) h2]
    rcases Int.lt_trichotomy lo hi with q | q | q
    · rw [Int.compare_eq_lt.2 q]; exact .inl rfl
    · subst q; right; simp
    · omega
  generalize FB lo = F at *
  generalize FB hi = G at *
  rcases o1 with o1 | o1
  all_goals
    go_enter Tryz.func101, Tryz.ntmps101
    go_wp2_with fail
    refine W1.out.mono ?_
    rintro e w2 ⟨rfl, rfl⟩
    go_wp2_with fail
    refine W2.out.mono ?_
    rintro e w2 ⟨rfl, rfl⟩
    go_wp2_with fail
    go_ret
    exact ⟨rfl, rfl⟩
theorem sp_ends {lo hi : Int} (w : World) (h0 : 0 ≤ lo) (h1 : lo ≤ hi) (h2 : hi ≤ 281474976710655) : Calls Tryz.prog 51 #[.complex .f64 (FB lo) (FB hi)] w (Ret (.tuple #[.int .i64 lo, .int .i64 hi, .bool true]) w) := by
  have RI := hid (sp_right w h0 h1 h2)
  have c1 := fun W => run_f2i W h0 (show lo ≤ 281474976710655 by omega)
  have c2 := fun W => run_f2i W (show 0 ≤ hi by omega) h2
  generalize FB lo = F at *
  generalize FB hi = G at *
  go_enter Tryz.func51, Tryz.ntmps51
  go_wp2_with fail
  refine RI.out.mono ?_
  rintro e w2 ⟨rfl, rfl⟩
  go_wp2_with fail
  go_ret3
  exact ⟨rfl, rfl⟩
theorem sp_holds {lo hi x : Int} (w : World) (h0 : 0 ≤ lo) (h1 : lo ≤ hi) (h2 : hi ≤ 281474976710655) (x1 : lo ≤ x) (x2 : x ≤ hi) : Calls Tryz.prog 19 #[.complex .f64 (FB lo) (FB hi), .int .i64 x] w (Ret (.bool true) w) := by
  have EN := hid (sp_ends w h0 h1 h2)
  have z1 : decide (lo ≤ x) = true := decide_eq_true x1
  have z2 : decide (x ≤ hi) = true := decide_eq_true x2
  generalize FB lo = F at *
  generalize FB hi = G at *
  go_enter Tryz.func19, Tryz.ntmps19
  go_wp2_with fail
  refine EN.out.mono ?_
  rintro e w2 ⟨rfl, rfl⟩
  go_wp2_with fail
  go_ret
  exact ⟨rfl, rfl⟩
end Go.Proofs.YtlciofheonbkiaaGreat

namespace Go.Proofs.YtlciofheonbkiaaGreat
set_option maxRecDepth 100000
open Go.RowKit Nl
def Nl.wrongV (n r : Int) : Int := if n = 0 then 7 else if r < 1 ∨ n < r then 2 else 0
theorem q_wrong {w : World} {dg q g h m : Nat} {kind l k : Int} {zs : List Nd} (d : DgV w dg q g h kind l k m zs) (r : Int) :
    Calls Tryz.prog 40 #[.pointer (some ⟨dg, 0, none⟩), .int .i64 r] w (Ret (.int .i64 (wrongV (sumL zs) r)) w) := by
  have DN := hid (dg_n d)
  obtain ⟨S, eS⟩ : ∃ S, sumL zs = S := ⟨_, rfl⟩
  rw [eS] at DN ⊢
  clear eS d
  unfold wrongV
  by_cases h0 : S = 0
  · subst h0
    rw [if_pos rfl]
    go_enter Tryz.func40, Tryz.ntmps40
    go_wp2_with fail
    refine DN.out.mono ?_
    rintro e w2 ⟨rfl, rfl⟩
    go_wp2_with fail
    go_ret
    exact ⟨rfl, rfl⟩
  · have z0 : (S == 0) = false := by simpa using h0
    rw [if_neg h0]
    by_cases h1 : r < 1
    · have z1 : decide (r < 1) = true := decide_eq_true h1
      rw [if_pos (.inl h1)]
      clear h0
      go_enter Tryz.func40, Tryz.ntmps40
      go_wp2_with fail
      refine DN.out.mono ?_
      rintro e w2 ⟨rfl, rfl⟩
      go_wp2_with fail
      go_ret
      exact ⟨rfl, rfl⟩
    · have z1 : decide (r < 1) = false := decide_eq_false h1
      by_cases h2 : S < r
      · have z2 : decide (S < r) = true := decide_eq_true h2
        rw [if_pos (.inr h2)]
        clear h0
        go_enter Tryz.func40, Tryz.ntmps40
        go_wp2_with fail
        refine DN.out.mono ?_
        rintro e w2 ⟨rfl, rfl⟩
        go_wp2_with fail
        refine DN.out.mono ?_
        rintro e w2 ⟨rfl, rfl⟩
        go_wp2_with fail
        go_ret
        exact ⟨rfl, rfl⟩
      · have z2 : decide (S < r) = false := decide_eq_false h2
        rw [if_neg (by omega)]
        clear h0
        go_enter Tryz.func40, Tryz.ntmps40
        go_wp2_with fail
        refine DN.out.mono ?_
        rintro e w2 ⟨rfl, rfl⟩
        go_wp2_with fail
        refine DN.out.mono ?_
        rintro e w2 ⟨rfl, rfl⟩
        go_wp2_with fail
        go_ret
        exact ⟨rfl, rfl⟩
theorem Nl.endL_sum (f : Bool) (l : Int) (zs : List (Int × Int)) : sumL (endL f l zs) = sumL zs := by
  induction zs with
  | nil => rfl
  | cons y r ih =>
    show sumL (endV f l y :: endL f l r) = _
    simp only [sumL, ih]; rfl
theorem Nl.endL_pos {f : Bool} {l : Int} {zs : List (Int × Int)} (h : Pos zs) : ∀ z ∈ endL f l zs, 0 ≤ z.2 := fun z hz => by
  obtain ⟨u, hu, rfl⟩ := List.mem_map.1 hz
  exact h u hu
def AtP (l : Int) (zs : List Nd) (r : Int) (w : World) (e : Ending) (w' : World) : Prop :=
  ∃ y, e = .returned (.tuple #[.int .i64 y, .int .i64 0]) ∧ r ≤ gsum (rankF y) (endL false l zs) ∧ gsum (rankF (y - 1)) (endL false l zs) < r ∧ (∃ z ∈ endL false l zs, z.1 = y) ∧ Below w.heap.size w w'
theorem q_at_no {w : World} {dg q g h m : Nat} {kind l k : Int} {zs : List Nd} (d : DgV w dg q g h kind l k m zs) (r : Int) (hw : wrongV (sumL zs) r ≠ 0) :
    Calls Tryz.prog 12 #[.pointer (some ⟨dg, 0, none⟩), .int .i64 r] w fun e w' => e = .returned (.tuple #[.int .i64 0, .int .i64 (wrongV (sumL zs) r)]) ∧ Below w.heap.size w w' := by
  have WR := hid (q_wrong d r)
  generalize wrongV (sumL zs) r = c at *
  have z : (c != 0) = true := by simpa using hw
  clear d hw
  go_enter Tryz.func12, Tryz.ntmps12
  go_wp2_with fail
  refine WR.out.mono ?_
  rintro e w2 ⟨rfl, rfl⟩
  go_wp2_with fail
  go_ret2
  exact ⟨rfl, Below.refl _ _⟩
theorem q_at {w : World} {dg q g h m : Nat} {kind l k : Int} {zs : List Nd} (d : DgV w dg q g h kind l k m zs) (r : Int) (hm : m ≤ 100000) (hz : zs.length ≤ 90000) (r1 : 1 ≤ r) (r2 : r ≤ sumL zs) :
    Calls Tryz.prog 12 #[.pointer (some ⟨dg, 0, none⟩), .int .i64 r] w (AtP l zs r w) := by
  have WR := hid (q_wrong d r)
  have hw : wrongV (sumL zs) r = 0 := by unfold wrongV; rw [if_neg (by omega), if_neg (by omega)]
  rw [hw] at WR
  have hpos := d.inv.roll.strict.pos
  have hmost := d.inv.roll.most
  have EN := hid (q_ends false d hm hz)
  have RE := hid (fun W B v (o : OwnE W B v (endL false l zs)) => q_reach (r := r) o (endL_pos hpos) r1 (by rw [endL_sum]; exact r2) (by rw [endL_sum]; exact hmost) (by rw [endL_len]; exact hz))
  clear d hw hpos hmost r1 r2
  go_enter Tryz.func12, Tryz.ntmps12
  go_wp2_with fail
  refine WR.out.mono ?_
  rintro e w2 ⟨rfl, rfl⟩
  go_wp2_with fail
  refine EN.out.mono ?_
  rintro e w3 ⟨v, rfl, ho, hb⟩
  have RE3 := RE.out _ _ _ ho
  go_wp2_with fail
  refine RE3.mono ?_
  rintro e w4 ⟨y, rfl, p1, p2, p3, hb4⟩
  have PP : Hid (AtP l zs r w (.returned (.tuple #[.int .i64 y, .int .i64 0])) w4) := ⟨y, rfl, p1, p2, p3, hb.trans hb4⟩
  clear p1 p2 p3 RE3 ho
  go_wp2_with fail
  go_ret2
  exact PP.out
theorem Nl.ends_bd {l id : Int} (h : rightB l id = true) : 0 ≤ endsLo l id ∧ endsHi l id ≤ 281474976710655 := by
  obtain ⟨n, i, d, rfl, rfl, hd, hdn, hn1, hn2, h1, h2⟩ := right_nat h
  obtain ⟨a1, a2⟩ := ends_nat hd hdn
  rw [a1, a2]
  have e1 : 2 ^ d * 2 ^ (n - d) = 2 ^ n := by rw [← Nat.pow_add]; congr 1; omega
  have e2 : 2 ^ (d + 1) * 2 ^ (n - d) = 2 ^ n * 2 := by rw [Nat.pow_succ, Nat.mul_right_comm, e1]
  have k1 : 2 ^ d * 2 ^ (n - d) ≤ i * 2 ^ (n - d) := Nat.mul_le_mul_right _ h1
  have k2 : (i + 1) * 2 ^ (n - d) ≤ 2 ^ (d + 1) * 2 ^ (n - d) := Nat.mul_le_mul_right _ h2
  have k3 : 2 ^ n ≤ 2 ^ 48 := Nat.pow_le_pow_right (by omega) hn2
  rw [e1] at k1
  rw [e2] at k2
  generalize i * 2 ^ (n - d) = A at *
  generalize (i + 1) * 2 ^ (n - d) = B at *
  generalize 2 ^ n = T at *
  omega
def SpanP (l : Int) (zs : List Nd) (r : Int) (w : World) (e : Ending) (w' : World) : Prop :=
  ∃ yf yl, e = .returned (.tuple #[.complex .f64 (FB yf) (FB yl), .int .i64 0]) ∧ 0 ≤ yf ∧ yf ≤ yl ∧ yl ≤ 281474976710655 ∧ gsum (rankF (yf - 1)) (endL true l zs) < r ∧ r ≤ gsum (rankF yl) (endL false l zs) ∧ Below w.heap.size w w'
theorem q_span {w : World} {dg q g h m : Nat} {kind l k : Int} {zs : List Nd} (d : DgV w dg q g h kind l k m zs) (r : Int) (hm : m ≤ 100000) (hz : zs.length ≤ 90000) (r1 : 1 ≤ r) (r2 : r ≤ sumL zs) :
    Calls Tryz.prog 15 #[.pointer (some ⟨dg, 0, none⟩), .int .i64 r] w (SpanP l zs r w) := by
  have WR := hid (q_wrong d r)
  have hw : wrongV (sumL zs) r = 0 := by unfold wrongV; rw [if_neg (by omega), if_neg (by omega)]
  rw [hw] at WR
  have hpos := d.inv.roll.strict.pos
  have hmost := d.inv.roll.most
  have EN := hid (fun f W (y : DgV W dg q g h kind l k m zs) => q_ends f y hm hz)
  have RE := hid (fun f W B v (o : OwnE W B v (endL f l zs)) => q_reach (r := r) o (endL_pos hpos) r1 (by rw [endL_sum]; exact r2) (by rw [endL_sum]; exact hmost) (by rw [endL_len]; exact hz))
  have IDS := hid (fun z (h : z ∈ zs) => d.inv.roll.ids z h)
  have HP := hid hpos
  have HD := hid d
  have EN1 := hid (EN.out true w d)
  clear d hw hpos hmost r1 r2
  go_enter Tryz.func15, Tryz.ntmps15
  go_wp2_with fail
  refine WR.out.mono ?_
  rintro e w2 ⟨rfl, rfl⟩
  go_wp2_with fail
  refine EN1.out.mono ?_
  rintro e w3 ⟨v, rfl, ho, hb⟩
  have RE3 := hid (RE.out true _ _ _ ho)
  clear ho EN1
  go_wp2_with fail
  refine RE3.out.mono ?_
  rintro e w4 ⟨yf, rfl, p1, p2, ⟨zf, hzf, ezf⟩, hb4⟩
  have hbA := hb.trans hb4
  have EN4 := hid (EN.out false w4 (HD.out.below hbA nlr))
  clear RE3
  go_wp2_with fail
  refine EN4.out.mono ?_
  rintro e w5 ⟨v', rfl, ho', hb5⟩
  have RE5 := hid (RE.out false _ _ _ ho')
  clear ho' EN4
  go_wp2_with fail
  refine RE5.out.mono ?_
  rintro e w6 ⟨yl, rfl, p1', p2', ⟨zl, hzl, ezl⟩, hb6⟩
  have hbB := hbA.trans ((hb5.trans hb6).mono hbA.size)
  have b1 : 0 ≤ yf := by
    obtain ⟨u, hu, rfl⟩ := List.mem_map.1 hzf
    have := (ends_bd (IDS.out u hu)).1
    rw [← ezf]
    exact this
  have b2 : yl ≤ 281474976710655 := by
    obtain ⟨u, hu, rfl⟩ := List.mem_map.1 hzl
    have := (ends_bd (IDS.out u hu)).2
    rw [← ezl]
    exact this
  have b3 : yf ≤ yl := by
    refine Int.not_lt.1 fun q => ?_
    have h1 := rank_mono (x := yl) (y := yf - 1) (by omega) (endL_pos (f := true) (l := l) HP.out)
    have h2 : gsum (rankF yl) (endL false l zs) ≤ gsum (rankF yl) (endL true l zs) := by
      rw [rank_endsF, rank_endsT]
      have key : ∀ ys : List Nd, (∀ y ∈ ys, y ∈ zs) → gsum (lowF l yl) ys ≤ gsum (highF l yl) ys := fun ys => by
        induction ys with
        | nil => intro _; exact Int.le_refl _
        | cons y t ih =>
          intro hy
          have i1 := ih (fun z hz => hy z (by simp [hz]))
          have i2 := ends_le (IDS.out y (hy y (by simp)))
          have i3 := HP.out y (hy y (by simp))
          simp only [gsum]
          unfold lowF highF at *
          split <;> split <;> omega
      exact key zs (fun _ h => h)
    omega
  have OF := hid (sp_of w6 b1 b3 b2)
  have PP : Hid (∀ s, s = Value.complex .f64 (FB yf) (FB yl) → SpanP l zs r w (.returned (.tuple #[s, .int .i64 0])) w6) := fun s hs => ⟨yf, yl, by rw [hs], b1, b3, b2, p2, p1', hbB⟩
  clear RE5 p1 p2 p1' p2' hzf hzl ezf ezl b1 b2 b3
  generalize FB yf = F at *
  generalize FB yl = G at *
  go_wp2_with fail
  refine OF.out.mono ?_
  rintro e w7 ⟨rfl, rfl⟩
  go_wp2_with fail
  go_ret2
  exact PP.out _ rfl
end Go.Proofs.YtlciofheonbkiaaGreat
