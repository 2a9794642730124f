/- Decimal digits, and the number that a text begins with (no program in sight). -/
import Derived.Test.YthdljlclcepnhaaGreatBA
namespace Go.Proofs.YthdljlclcepnhaaGreat
namespace Sh

/-- A number's decimal digits. -/
def decL (n : Nat) : List UInt8 := if _h : n < 10 then [UInt8.ofNat (48 + n)] else decL (n / 10) ++ [UInt8.ofNat (48 + n % 10)]
termination_by n
decreasing_by omega
theorem decL_low {n : Nat} (h : n < 10) : decL n = [UInt8.ofNat (48 + n)] := by rw [decL]; rw [dif_pos h]
theorem decL_big {n : Nat} (h : ¬ n < 10) : decL n = decL (n / 10) ++ [UInt8.ofNat (48 + n % 10)] := by rw [decL]; rw [dif_neg h]
theorem decL_ne (n : Nat) : decL n ≠ [] := by
  by_cases h : n < 10
  · rw [decL_low h]; simp
  · rw [decL_big h]; simp
/-- So many digits as its size asks for. -/
theorem decL_len (k : Nat) : ∀ n : Nat, n < 10 ^ (k + 1) → (decL n).length ≤ k + 1 := by
  induction k with
  | zero => intro n h; rw [decL_low (by simpa using h)]; simp
  | succ k ih =>
    intro n h
    by_cases h10 : n < 10
    · rw [decL_low h10]; simp
    · rw [decL_big h10, List.length_append]
      have := ih (n / 10) (by rw [Nat.pow_succ] at h; omega)
      simp; omega
theorem head_app {l r : List UInt8} (h : l ≠ []) : (l ++ r).head? = l.head? := by
  cases l with
  | nil => exact absurd rfl h
  | cons c t => rfl
def isDig (c : UInt8) : Bool := decide (48 ≤ c.toNat ∧ c.toNat ≤ 57)
theorem dig_of {d : Nat} (h : d < 10) : (UInt8.ofNat (48 + d)).toNat = 48 + d := by
  simp [UInt8.toNat_ofNat']; omega
/-- The number and the size of the digits that a text begins with; none: it is too great. -/
def numL (n size : Nat) : List UInt8 → Option (Nat × Nat)
  | [] => some (n, size)
  | c :: r => if isDig c then (if 9223372036854775807 < 10 * n + (c.toNat - 48) then none else numL (10 * n + (c.toNat - 48)) (size + 1) r) else some (n, size)
/-- What Number tells. -/
def numV (l : List UInt8) : Nat × Nat × Bool :=
  match numL 0 0 l with
  | none => (0, 0, false)
  | some (n, size) => if size = 0 ∨ (1 < size ∧ l.head? = some 48) then (0, 0, false) else (n, size, true)
theorem numL_app {n size : Nat} : ∀ (l r : List UInt8), numL n size (l ++ r) = match l with
    | [] => numL n size r
    | c :: t => if isDig c then (if 9223372036854775807 < 10 * n + (c.toNat - 48) then none else numL (10 * n + (c.toNat - 48)) (size + 1) (t ++ r)) else some (n, size) := by
  intro l r
  cases l with
  | nil => rfl
  | cons c t => rfl
/-- What is left of a number behind its first digits. -/
theorem numL_dec : ∀ (m n size : Nat) (r : List UInt8), n = 0 → m ≤ 9223372036854775807 → (∀ c t, r = c :: t → isDig c = false) → numL n size (decL m ++ r) = some (m, size + (decL m).length) := by
  have key : ∀ (k m size : Nat) (r : List UInt8), m ≤ k → m ≤ 9223372036854775807 → numL 0 size (decL m ++ r) = numL m (size + (decL m).length) r := by
    intro k
    induction k with
    | zero =>
      intro m size r hm _
      obtain rfl : m = 0 := by omega
      rw [decL_low (by omega)]
      rfl
    | succ k ih =>
      intro m size r hm hb
      by_cases h : m < 10
      · rw [decL_low h]
        simp only [List.cons_append, List.nil_append, numL, List.length_singleton]
        have e := dig_of h
        rw [if_pos (by simp only [isDig, e, decide_eq_true_eq]; omega), e, if_neg (by omega)]
        rw [show 10 * 0 + (48 + m - 48) = m by omega]
      · rw [decL_big h, List.append_assoc, ih (m / 10) size _ (by omega) (by omega)]
        simp only [List.cons_append, List.nil_append, numL]
        have e := dig_of (show m % 10 < 10 by omega)
        rw [if_pos (by simp only [isDig, e, decide_eq_true_eq]; omega), e, if_neg (by omega)]
        rw [show 10 * (m / 10) + (48 + m % 10 - 48) = m by omega, List.length_append]
        simp [Nat.add_assoc]
  intro m n size r hn hm hr
  subst hn
  rw [key m m size r (Nat.le_refl _) hm]
  cases r with
  | nil => rfl
  | cons c t => rw [numL, hr c t rfl]; rfl
theorem dec_head : ∀ (k n : Nat), n ≤ k → (decL n).head? = some 48 → n = 0 := by
  intro k
  induction k with
  | zero => intro n hn _; omega
  | succ k ih =>
    intro n hn h
    by_cases h10 : n < 10
    · rw [decL_low h10] at h
      simp only [List.head?_cons, Option.some.injEq] at h
      have e := dig_of h10
      rw [h] at e
      simp at e; omega
    · rw [decL_big h10] at h
      have hne := decL_ne (n / 10)
      rw [head_app hne] at h
      have := ih (n / 10) (by omega) h
      omega
/-- A number's digits are read as it. -/
theorem numV_dec {m : Nat} {r : List UInt8} (hm : m ≤ 9223372036854775807) (hr : ∀ c t, r = c :: t → isDig c = false) : numV (decL m ++ r) = (m, (decL m).length, true) := by
  unfold numV
  rw [numL_dec m 0 0 r rfl hm hr]
  simp only [Nat.zero_add]
  have hl : 0 < (decL m).length := List.length_pos_iff.2 (decL_ne m)
  rw [if_neg]
  rintro (h | ⟨h1, h2⟩)
  · omega
  · rw [head_app (decL_ne m)] at h2
    have := dec_head m m (Nat.le_refl _) h2
    subst this
    rw [decL_low (by omega)] at h1
    simp at h1
end Sh
end Go.Proofs.YthdljlclcepnhaaGreat
