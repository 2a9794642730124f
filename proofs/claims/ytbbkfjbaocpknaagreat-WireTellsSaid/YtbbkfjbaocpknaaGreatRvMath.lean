/- Bytes are read back as numbers (no program in sight). -/
import Derived.Test.YtbbkfjbaocpknaaGreatWA
namespace Go.Proofs.YtbbkfjbaocpknaaGreat
namespace Vy

/-- The number that bytes begin with, and what is behind it. -/
def getA : List UInt8 → Option (Nat × List UInt8)
  | [] => none
  | c :: t => if c.toNat < 128 then some (c.toNat, t) else match getA t with
    | none => none
    | some (n, r) => if n = 0 then none else some (c.toNat % 128 + 128 * n, r)
theorem of_nat (c : UInt8) : UInt8.ofNat c.toNat = c := by apply UInt8.toNat_inj.1; exact of_low (UInt8.toNat_lt c)
theorem getA_iff : ∀ (s : List UInt8) (n : Nat) (r : List UInt8), getA s = some (n, r) ↔ s = vyL n ++ r
  | [], n, r => by
    have h : vyL n ++ r ≠ [] := by
      by_cases h1 : n < 128
      · rw [vy_low h1]; simp
      · rw [vy_big h1]; simp
    constructor
    · intro e; cases e
    · intro e; exact absurd e.symm h
  | c :: t, n, r => by
    have hc := UInt8.toNat_lt c
    by_cases h : c.toNat < 128
    · rw [getA, if_pos h]
      constructor
      · intro e
        obtain ⟨rfl, rfl⟩ : c.toNat = n ∧ t = r := by simpa using e
        rw [vy_low h, of_nat]; rfl
      · intro e
        by_cases h1 : n < 128
        · rw [vy_low h1] at e
          obtain ⟨rfl, rfl⟩ : c = UInt8.ofNat n ∧ t = r := by simpa using e
          rw [of_low (by omega)]
        · rw [vy_big h1] at e
          obtain ⟨rfl, -⟩ : c = UInt8.ofNat (128 + n % 128) ∧ t = vyL (n / 128) ++ r := by simpa using e
          rw [of_low (by omega)] at h
          omega
    · rw [getA, if_neg h]
      constructor
      · intro e
        cases hg : getA t with
        | none => rw [hg] at e; cases e
        | some x =>
          obtain ⟨m, q⟩ := x
          rw [hg] at e
          simp only at e
          split at e
          · cases e
          · obtain ⟨rfl, rfl⟩ : c.toNat % 128 + 128 * m = n ∧ q = r := by simpa using e
            have ht := (getA_iff t m q).1 hg
            rw [vy_big (by omega), show (c.toNat % 128 + 128 * m) / 128 = m by omega, show 128 + (c.toNat % 128 + 128 * m) % 128 = c.toNat by omega, of_nat, ht]
            rfl
      · intro e
        by_cases h1 : n < 128
        · rw [vy_low h1] at e
          obtain ⟨rfl, -⟩ : c = UInt8.ofNat n ∧ t = r := by simpa using e
          rw [of_low (by omega)] at h
          omega
        · rw [vy_big h1] at e
          obtain ⟨rfl, ht⟩ : c = UInt8.ofNat (128 + n % 128) ∧ t = vyL (n / 128) ++ r := by simpa using e
          rw [(getA_iff t (n / 128) r).2 ht]
          simp only
          rw [if_neg (by omega), of_low (by omega)]
          rw [show (128 + n % 128) % 128 + 128 * (n / 128) = n by omega]
/-- Bytes behind which the number goes on. -/
def contB (a : List UInt8) : Prop := ∀ c ∈ a, 128 ≤ c.toNat
def valL : List UInt8 → Nat
  | [] => 0
  | c :: t => c.toNat % 128 + 128 * valL t
theorem val_snoc (a : List UInt8) (c : UInt8) : valL (a ++ [c]) = valL a + (c.toNat % 128) * 128 ^ a.length := by
  induction a with
  | nil => simp [valL]
  | cons d a ih =>
    simp only [List.cons_append, valL, ih, List.length_cons, Nat.pow_succ]
    rw [Nat.mul_add, show c.toNat % 128 * (128 ^ a.length * 128) = 128 * (c.toNat % 128 * 128 ^ a.length) by rw [Nat.mul_comm (128 ^ a.length), Nat.mul_left_comm], Nat.add_assoc]
theorem val_lt (a : List UInt8) : valL a < 128 ^ a.length := by
  induction a with
  | nil => simp [valL]
  | cons d a ih =>
    simp only [valL, List.length_cons, Nat.pow_succ]
    omega
/-- It ends with a byte that isn't 0. -/
theorem getA_end {a : List UInt8} {c : UInt8} {r : List UInt8} (ha : contB a) (hc : c.toNat < 128) (h0 : a = [] ∨ c.toNat ≠ 0) : getA (a ++ c :: r) = some (valL a + c.toNat * 128 ^ a.length, r) := by
  induction a with
  | nil => simp [getA, hc, valL]
  | cons d a ih =>
    have hd := ha d (by simp)
    have hn : c.toNat ≠ 0 := h0.elim (fun h => by cases h) id
    have ha' : contB a := fun x hx => ha x (by simp [hx])
    rw [List.cons_append, getA, if_neg (by omega), ih ha' (.inr hn)]
    simp only
    have hp : 0 < 128 ^ a.length := Nat.pow_pos (by decide)
    have hq : 0 < c.toNat * 128 ^ a.length := Nat.mul_pos (by omega) hp
    rw [if_neg (by omega)]
    simp only [valL, List.length_cons, Nat.pow_succ]
    rw [show c.toNat * (128 ^ a.length * 128) = 128 * (c.toNat * 128 ^ a.length) by rw [Nat.mul_comm (128 ^ a.length), Nat.mul_left_comm], Nat.mul_add, Nat.add_assoc]
theorem getA_zero {a : List UInt8} {c : UInt8} {r : List UInt8} (ha : contB a) (hc : c.toNat = 0) (h0 : a ≠ []) : getA (a ++ c :: r) = none := by
  induction a with
  | nil => exact absurd rfl h0
  | cons d a ih =>
    have hd := ha d (by simp)
    have ha' : contB a := fun x hx => ha x (by simp [hx])
    rw [List.cons_append, getA, if_neg (by omega)]
    by_cases h : a = []
    · subst h
      simp [getA, hc]
    · rw [ih ha' h]
theorem getA_short {a : List UInt8} (ha : contB a) : getA a = none := by
  induction a with
  | nil => rfl
  | cons d a ih =>
    have hd := ha d (by simp)
    rw [getA, if_neg (by omega), ih (fun x hx => ha x (by simp [hx]))]
theorem getA_long {a r : List UInt8} (ha : contB a) (h0 : a ≠ []) {n : Nat} {q : List UInt8} (h : getA (a ++ r) = some (n, q)) : 128 ^ a.length ≤ n := by
  induction a generalizing n q with
  | nil => exact absurd rfl h0
  | cons d a ih =>
    have hd := ha d (by simp)
    rw [List.cons_append, getA, if_neg (by omega)] at h
    cases hg : getA (a ++ r) with
    | none => rw [hg] at h; cases h
    | some x =>
      obtain ⟨m, q'⟩ := x
      rw [hg] at h
      simp only at h
      split at h
      · cases h
      · obtain ⟨rfl, -⟩ : d.toNat % 128 + 128 * m = n ∧ q' = q := by simpa using h
        rw [List.length_cons, Nat.pow_succ]
        by_cases h1 : a = []
        · subst h1; simp; omega
        · have := ih (fun x hx => ha x (by simp [hx])) h1 hg
          omega
/-- A number that is an int. -/
def getF (s : List UInt8) : Option (Nat × List UInt8) := match getA s with
  | none => none
  | some (n, r) => if n ≤ 9223372036854775807 then some (n, r) else none
theorem getF_iff {s : List UInt8} {n : Nat} {r : List UInt8} : getF s = some (n, r) ↔ s = vyL n ++ r ∧ n ≤ 9223372036854775807 := by
  rw [← getA_iff]
  unfold getF
  cases hg : getA s with
  | none => simp
  | some x =>
    obtain ⟨m, q⟩ := x
    simp only
    split
    · constructor
      · intro e
        obtain ⟨rfl, rfl⟩ : m = n ∧ q = r := by simpa using e
        exact ⟨rfl, by assumption⟩
      · intro e
        exact e.1
    · constructor
      · intro e; cases e
      · intro e
        obtain ⟨rfl, rfl⟩ : m = n ∧ q = r := by simpa using e.1
        omega
theorem getF_none {s : List UInt8} (h : getA s = none) : getF s = none := by unfold getF; rw [h]
theorem getF_nine {a r : List UInt8} (ha : contB a) (h9 : a.length = 9) : getF (a ++ r) = none := by
  unfold getF
  cases hg : getA (a ++ r) with
  | none => rfl
  | some x =>
    obtain ⟨m, q⟩ := x
    have := getA_long ha (by intro e; rw [e] at h9; simp at h9) hg
    rw [h9] at this
    simp only
    rw [if_neg (by omega)]
theorem getF_end {a : List UInt8} {c : UInt8} {r : List UInt8} (ha : contB a) (hc : c.toNat < 128) (h0 : a = [] ∨ c.toNat ≠ 0) (h9 : a.length ≤ 8) : getF (a ++ c :: r) = some (valL a + c.toNat * 128 ^ a.length, r) ∧ valL a + c.toNat * 128 ^ a.length ≤ 9223372036854775807 := by
  have h1 := val_lt a
  have h2 : c.toNat * 128 ^ a.length ≤ 127 * 128 ^ a.length := Nat.mul_le_mul_right _ (by omega)
  have h3 : 128 ^ a.length ≤ 128 ^ 8 := Nat.pow_le_pow_right (by decide) h9
  have h4 : valL a + c.toNat * 128 ^ a.length ≤ 9223372036854775807 := by omega
  refine ⟨?_, h4⟩
  unfold getF
  rw [getA_end ha hc h0]
  simp only
  rw [if_pos h4]
theorem getF_bd {s : List UInt8} {n : Nat} {r : List UInt8} (h : getF s = some (n, r)) : n ≤ 9223372036854775807 := (getF_iff.1 h).2
/-- So many numbers that rise behind the last one. -/
def fallsF : Nat → Int → List UInt8 → Option (List Int × List UInt8)
  | 0, _, s => some ([], s)
  | m + 1, last, s => match getF s with
    | none => none
    | some (n, r) => if n = 0 ∨ 9223372036854775807 - last < n then none else match fallsF m (last + n) r with
      | none => none
      | some (l, q) => some ((last + n) :: l, q)
/-- The bytes of the steps between numbers. -/
def gapsF : Int → List Int → List UInt8
  | _, [] => []
  | last, a :: l => vyL (a - last).toNat ++ gapsF a l
def riseF : Int → List Int → Prop
  | _, [] => True
  | last, a :: l => last < a ∧ a ≤ 9223372036854775807 ∧ riseF a l
theorem fallsF_iff : ∀ (m : Nat) (last : Int) (s : List UInt8) (l : List Int) (r : List UInt8), 0 ≤ last → last ≤ 9223372036854775807 → (fallsF m last s = some (l, r) ↔ l.length = m ∧ riseF last l ∧ s = gapsF last l ++ r)
  | 0, last, s, l, r => by
    intro _ _
    rw [fallsF]
    constructor
    · intro e
      obtain ⟨rfl, rfl⟩ : [] = l ∧ s = r := by simpa using e
      exact ⟨rfl, trivial, rfl⟩
    · rintro ⟨h1, -, h3⟩
      obtain rfl := List.length_eq_zero_iff.1 h1
      rw [h3]; rfl
  | m + 1, last, s, l, r => by
    intro h1 h2
    rw [fallsF]
    constructor
    · intro e
      cases hg : getF s with
      | none => rw [hg] at e; cases e
      | some x =>
        obtain ⟨n, t⟩ := x
        rw [hg] at e
        simp only at e
        split at e
        · cases e
        · rename_i hn
          have hn : ¬ (n = 0) ∧ ¬ (9223372036854775807 - last < n) := ⟨fun h => hn (.inl h), fun h => hn (.inr h)⟩
          cases hf : fallsF m (last + n) t with
          | none => rw [hf] at e; cases e
          | some y =>
            obtain ⟨l', q⟩ := y
            rw [hf] at e
            obtain ⟨rfl, rfl⟩ : (last + n) :: l' = l ∧ q = r := by simpa using e
            obtain ⟨a, b, c⟩ := (fallsF_iff m (last + n) t l' q (by omega) (by omega)).1 hf
            refine ⟨by rw [List.length_cons, a], ⟨by omega, by omega, b⟩, ?_⟩
            rw [(getF_iff.1 hg).1, c, gapsF, show (last + (n : Int) - last).toNat = n by omega, List.append_assoc]
    · rintro ⟨a, b, c⟩
      cases l with
      | nil => cases a
      | cons x l =>
        obtain ⟨b1, b2, b3⟩ := b
        rw [gapsF, List.append_assoc] at c
        rw [getF_iff.2 ⟨c, by omega⟩]
        simp only
        rw [if_neg (by omega)]
        have e : last + ((x - last).toNat : Int) = x := by omega
        rw [e, (fallsF_iff m x _ l r (by omega) b2).2 ⟨by simpa using a, b3, rfl⟩]
/-- So many numbers, of which each is one at least and none is more than what is left. -/
def wsF : Nat → Int → List UInt8 → Option (List Int × Int × List UInt8)
  | 0, left, s => some ([], left, s)
  | m + 1, left, s => match getF s with
    | none => none
    | some (n, r) => if n < 1 ∨ left < n then none else match wsF m (left - n) r with
      | none => none
      | some (l, x, q) => some ((n : Int) :: l, x, q)
def vysL : List Int → List UInt8
  | [] => []
  | a :: l => vyL a.toNat ++ vysL l
def sumI : List Int → Int
  | [] => 0
  | a :: l => a + sumI l
theorem wsF_iff : ∀ (m : Nat) (left : Int) (s : List UInt8) (l : List Int) (x : Int) (r : List UInt8), left ≤ 9223372036854775807 → (wsF m left s = some (l, x, r) ↔ l.length = m ∧ (∀ a ∈ l, 1 ≤ a) ∧ x = left - sumI l ∧ (l = [] ∨ 0 ≤ x) ∧ s = vysL l ++ r)
  | 0, left, s, l, x, r => by
    intro _
    rw [wsF]
    constructor
    · intro e
      obtain ⟨rfl, rfl, rfl⟩ : [] = l ∧ left = x ∧ s = r := by simpa using e
      exact ⟨rfl, by simp, by simp [sumI], .inl rfl, rfl⟩
    · rintro ⟨h1, -, h2, -, h3⟩
      obtain rfl := List.length_eq_zero_iff.1 h1
      rw [h3, h2]; simp [sumI, vysL]
  | m + 1, left, s, l, x, r => by
    intro h2
    rw [wsF]
    constructor
    · intro e
      cases hg : getF s with
      | none => rw [hg] at e; cases e
      | some y =>
        obtain ⟨n, t⟩ := y
        rw [hg] at e
        simp only at e
        split at e
        · cases e
        · rename_i hn
          have hn : ¬ (n < 1) ∧ ¬ (left < n) := ⟨fun h => hn (.inl h), fun h => hn (.inr h)⟩
          cases hf : wsF m (left - n) t with
          | none => rw [hf] at e; cases e
          | some y =>
            obtain ⟨l', x', q⟩ := y
            rw [hf] at e
            obtain ⟨rfl, rfl, rfl⟩ : (n : Int) :: l' = l ∧ x' = x ∧ q = r := by simpa using e
            obtain ⟨a, b, c, d, f⟩ := (wsF_iff m (left - n) t l' x' q (by omega)).1 hf
            refine ⟨by rw [List.length_cons, a], ?_, by simp only [sumI]; omega, .inr ?_, ?_⟩
            · intro y hy
              rcases List.mem_cons.1 hy with rfl | hy
              · omega
              · exact b y hy
            · rcases d with rfl | d
              · simp only [sumI] at c; omega
              · exact d
            · rw [(getF_iff.1 hg).1, f, vysL, List.append_assoc, Int.toNat_natCast]
    · rintro ⟨a, b, c, d, f⟩
      cases l with
      | nil => cases a
      | cons y l =>
        have hy := b y (by simp)
        have hs : ∀ l : List Int, (∀ a ∈ l, 1 ≤ a) → 0 ≤ sumI l := by
          intro l
          induction l with
          | nil => intro _; exact Int.le_refl _
          | cons z l ih =>
            intro h
            have h1 := h z (by simp)
            have h2 := ih (fun q hq => h q (by simp [hq]))
            simp only [sumI]; omega
        have hs := hs l (fun q hq => b q (by simp [hq]))
        have d : 0 ≤ x := d.elim (fun h => by cases h) id
        simp only [sumI] at c
        rw [vysL, List.append_assoc] at f
        rw [getF_iff.2 ⟨f, by omega⟩]
        simp only
        rw [if_neg (by omega)]
        have e : ((y.toNat : Nat) : Int) = y := by omega
        rw [e, (wsF_iff m (left - y) _ l x r (by omega)).2 ⟨by simpa using a, fun q hq => b q (by simp [hq]), by omega, .inr d, rfl⟩]
end Vy
end Go.Proofs.YtbbkfjbaocpknaaGreat
