/- Texts laid together. -/
import Derived.Test.YtdnlejboijkcfaaGreatDoorP20
import Derived.Deep.LoopGhost
import Derived.WalkMore
import Derived.Laws.BitsAllLaws
import Derived.Test.YtdnlejboijkcfaaGreatDoorP02
/- Texts laid together: RvMath, WtMath, RvMath2, Rv1, Rv2. -/
/- Bytes are read back as numbers (no program in sight). -/
namespace Go.Proofs.YtdnlejboijkcfaaGreatDoor
set_option maxHeartbeats 8000000
set_option maxRecDepth 100000
namespace Vy
def getA : List UInt8 → Option (Nat × List UInt8)
  | [] => none
  | c :: t => if c.toNat < 128 then some (c.toNat, t) else match getA t with
    | none => none
    | some (n, r) => if n = 0 then none else some (c.toNat % 128 + 128 * n, r)
theorem of_nat (c : UInt8) : UInt8.ofNat c.toNat = c := by apply UInt8.toNat_inj.1; exact of_low (UInt8.toNat_lt c)
theorem getA_iff : ∀ (s : List UInt8) (n : Nat) (r : List UInt8), getA s = some (n, r) ↔ s = vyL n ++ r
  | [], n, r => by
    have h : vyL n ++ r ≠ [] := by
      by_cases h1 : n < 128
      · rw [vy_low h1]; simp
      · rw [vy_big h1]; simp
    constructor
    · intro e; cases e
    · intro e; exact absurd e.symm h
  | c :: t, n, r => by
    have hc := UInt8.toNat_lt c
    by_cases h : c.toNat < 128
    · rw [getA, if_pos h]
      constructor
      · intro e
        obtain ⟨rfl, rfl⟩ : c.toNat = n ∧ t = r := by simpa using e
        rw [vy_low h, of_nat]; rfl
      · intro e
        by_cases h1 : n < 128
        · rw [vy_low h1] at e
          obtain ⟨rfl, rfl⟩ : c = UInt8.ofNat n ∧ t = r := by simpa using e
          rw [of_low (by omega)]
        · rw [vy_big h1] at e
          obtain ⟨rfl, -⟩ : c = UInt8.ofNat (128 + n % 128) ∧ t = vyL (n / 128) ++ r := by simpa using e
          rw [of_low (by omega)] at h
          omega
    · rw [getA, if_neg h]
      constructor
      · intro e
        cases hg : getA t with
        | none => rw [hg] at e; cases e
        | some x =>
          obtain ⟨m, q⟩ := x
          rw [hg] at e
          simp only at e
          split at e
          · cases e
          · obtain ⟨rfl, rfl⟩ : c.toNat % 128 + 128 * m = n ∧ q = r := by simpa using e
            have ht := (getA_iff t m q).1 hg
            rw [vy_big (by omega), show (c.toNat % 128 + 128 * m) / 128 = m by omega, show 128 + (c.toNat % 128 + 128 * m) % 128 = c.toNat by omega, of_nat, ht]
            rfl
      · intro e
        by_cases h1 : n < 128
        · rw [vy_low h1] at e
          obtain ⟨rfl, -⟩ : c = UInt8.ofNat n ∧ t = r := by simpa using e
          rw [of_low (by omega)] at h
          omega
        · rw [vy_big h1] at e
          obtain ⟨rfl, ht⟩ : c = UInt8.ofNat (128 + n % 128) ∧ t = vyL (n / 128) ++ r := by simpa using e
          rw [(getA_iff t (n / 128) r).2 ht]
          simp only
          rw [if_neg (by omega), of_low (by omega)]
          rw [show (128 + n % 128) % 128 + 128 * (n / 128) = n by omega]
def contB (a : List UInt8) : Prop := ∀ c ∈ a, 128 ≤ c.toNat
def valL : List UInt8 → Nat
  | [] => 0
  | c :: t => c.toNat % 128 + 128 * valL t
theorem val_snoc (a : List UInt8) (c : UInt8) : valL (a ++ [c]) = valL a + (c.toNat % 128) * 128 ^ a.length := by
  induction a with
  | nil => simp [valL]
  | cons d a ih =>
    simp only [List.cons_append, valL, ih, List.length_cons, Nat.pow_succ]
    rw [Nat.mul_add, show c.toNat % 128 * (128 ^ a.length * 128) = 128 * (c.toNat % 128 * 128 ^ a.length) by rw [Nat.mul_comm (128 ^ a.length), Nat.mul_left_comm], Nat.add_assoc]
theorem val_lt (a : List UInt8) : valL a < 128 ^ a.length := by
  induction a with
  | nil => simp [valL]
  | cons d a ih =>
    simp only [valL, List.length_cons, Nat.pow_succ]
    omega
theorem getA_end {a : List UInt8} {c : UInt8} {r : List UInt8} (ha : contB a) (hc : c.toNat < 128) (h0 : a = [] ∨ c.toNat ≠ 0) : getA (a ++ c :: r) = some (valL a + c.toNat * 128 ^ a.length, r) := by
  induction a with
  | nil => simp [getA, hc, valL]
  | cons d a ih =>
    have hd := ha d (by simp)
    have hn : c.toNat ≠ 0 := h0.elim (fun h => by cases h) id
    have ha' : contB a := fun x hx => ha x (by simp [hx])
    rw [List.cons_append, getA, if_neg (by omega), ih ha' (.inr hn)]
    simp only
    have hp : 0 < 128 ^ a.length := Nat.pow_pos (by decide)
    have hq : 0 < c.toNat * 128 ^ a.length := Nat.mul_pos (by omega) hp
    rw [if_neg (by omega)]
    simp only [valL, List.length_cons, Nat.pow_succ]
    rw [show c.toNat * (128 ^ a.length * 128) = 128 * (c.toNat * 128 ^ a.length) by rw [Nat.mul_comm (128 ^ a.length), Nat.mul_left_comm], Nat.mul_add, Nat.add_assoc]
theorem getA_zero {a : List UInt8} {c : UInt8} {r : List UInt8} (ha : contB a) (hc : c.toNat = 0) (h0 : a ≠ []) : getA (a ++ c :: r) = none := by
  induction a with
  | nil => exact absurd rfl h0
  | cons d a ih =>
    have hd := ha d (by simp)
    have ha' : contB a := fun x hx => ha x (by simp [hx])
    rw [List.cons_append, getA, if_neg (by omega)]
    by_cases h : a = []
    · subst h
      simp [getA, hc]
    · rw [ih ha' h]
theorem getA_short {a : List UInt8} (ha : contB a) : getA a = none := by
  induction a with
  | nil => rfl
  | cons d a ih =>
    have hd := ha d (by simp)
    rw [getA, if_neg (by omega), ih (fun x hx => ha x (by simp [hx]))]
theorem getA_long {a r : List UInt8} (ha : contB a) (h0 : a ≠ []) {n : Nat} {q : List UInt8} (h : getA (a ++ r) = some (n, q)) : 128 ^ a.length ≤ n := by
  induction a generalizing n q with
  | nil => exact absurd rfl h0
  | cons d a ih =>
    have hd := ha d (by simp)
    rw [List.cons_append, getA, if_neg (by omega)] at h
    cases hg : getA (a ++ r) with
    | none => rw [hg] at h; cases h
    | some x =>
      obtain ⟨m, q'⟩ := x
      rw [hg] at h
      simp only at h
      split at h
      · cases h
      · obtain ⟨rfl, -⟩ : d.toNat % 128 + 128 * m = n ∧ q' = q := by simpa using h
        rw [List.length_cons, Nat.pow_succ]
        by_cases h1 : a = []
        · subst h1; simp; omega
        · have := ih (fun x hx => ha x (by simp [hx])) h1 hg
          omega
def getF (s : List UInt8) : Option (Nat × List UInt8) := match getA s with
  | none => none
  | some (n, r) => if n ≤ 9223372036854775807 then some (n, r) else none
theorem getF_iff {s : List UInt8} {n : Nat} {r : List UInt8} : getF s = some (n, r) ↔ s = vyL n ++ r ∧ n ≤ 9223372036854775807 := by
  rw [← getA_iff]
  unfold getF
  cases hg : getA s with
  | none => simp
  | some x =>
    obtain ⟨m, q⟩ := x
    simp only
    split
    · constructor
      · intro e
        obtain ⟨rfl, rfl⟩ : m = n ∧ q = r := by simpa using e
        exact ⟨rfl, by assumption⟩
      · intro e
        exact e.1
    · constructor
      · intro e; cases e
      · intro e
        obtain ⟨rfl, rfl⟩ : m = n ∧ q = r := by simpa using e.1
        omega
theorem getF_none {s : List UInt8} (h : getA s = none) : getF s = none := by unfold getF; rw [h]
theorem getF_nine {a r : List UInt8} (ha : contB a) (h9 : a.length = 9) : getF (a ++ r) = none := by
  unfold getF
  cases hg : getA (a ++ r) with
  | none => rfl
  | some x =>
    obtain ⟨m, q⟩ := x
    have := getA_long ha (by intro e; rw [e] at h9; simp at h9) hg
    rw [h9] at this
    simp only
    rw [if_neg (by omega)]
theorem getF_end {a : List UInt8} {c : UInt8} {r : List UInt8} (ha : contB a) (hc : c.toNat < 128) (h0 : a = [] ∨ c.toNat ≠ 0) (h9 : a.length ≤ 8) : getF (a ++ c :: r) = some (valL a + c.toNat * 128 ^ a.length, r) ∧ valL a + c.toNat * 128 ^ a.length ≤ 9223372036854775807 := by
  have h1 := val_lt a
  have h2 : c.toNat * 128 ^ a.length ≤ 127 * 128 ^ a.length := Nat.mul_le_mul_right _ (by omega)
  have h3 : 128 ^ a.length ≤ 128 ^ 8 := Nat.pow_le_pow_right (by decide) h9
  have h4 : valL a + c.toNat * 128 ^ a.length ≤ 9223372036854775807 := by omega
  refine ⟨?_, h4⟩
  unfold getF
  rw [getA_end ha hc h0]
  simp only
  rw [if_pos h4]
theorem getF_bd {s : List UInt8} {n : Nat} {r : List UInt8} (h : getF s = some (n, r)) : n ≤ 9223372036854775807 := (getF_iff.1 h).2
def fallsF : Nat → Int → List UInt8 → Option (List Int × List UInt8)
  | 0, _, s => some ([], s)
  | m + 1, last, s => match getF s with
    | none => none
    | some (n, r) => if n = 0 ∨ 9223372036854775807 - last < n then none else match fallsF m (last + n) r with
      | none => none
      | some (l, q) => some ((last + n) :: l, q)
def gapsF : Int → List Int → List UInt8
  | _, [] => []
  | last, a :: l => vyL (a - last).toNat ++ gapsF a l
def riseF : Int → List Int → Prop
  | _, [] => True
  | last, a :: l => last < a ∧ a ≤ 9223372036854775807 ∧ riseF a l
theorem fallsF_iff : ∀ (m : Nat) (last : Int) (s : List UInt8) (l : List Int) (r : List UInt8), 0 ≤ last → last ≤ 9223372036854775807 → (fallsF m last s = some (l, r) ↔ l.length = m ∧ riseF last l ∧ s = gapsF last l ++ r)
  | 0, last, s, l, r => by
    intro _ _
    rw [fallsF]
    constructor
    · intro e
      obtain ⟨rfl, rfl⟩ : [] = l ∧ s = r := by simpa using e
      exact ⟨rfl, trivial, rfl⟩
    · rintro ⟨h1, -, h3⟩
      obtain rfl := List.length_eq_zero_iff.1 h1
      rw [h3]; rfl
  | m + 1, last, s, l, r => by
    intro h1 h2
    rw [fallsF]
    constructor
    · intro e
      cases hg : getF s with
      | none => rw [hg] at e; cases e
      | some x =>
        obtain ⟨n, t⟩ := x
        rw [hg] at e
        simp only at e
        split at e
        · cases e
        · rename_i hn
          have hn : ¬ (n = 0) ∧ ¬ (9223372036854775807 - last < n) := ⟨fun h => hn (.inl h), fun h => hn (.inr h)⟩
          cases hf : fallsF m (last + n) t with
          | none => rw [hf] at e; cases e
          | some y =>
            obtain ⟨l', q⟩ := y
            rw [hf] at e
            obtain ⟨rfl, rfl⟩ : (last + n) :: l' = l ∧ q = r := by simpa using e
            obtain ⟨a, b, c⟩ := (fallsF_iff m (last + n) t l' q (by omega) (by omega)).1 hf
            refine ⟨by rw [List.length_cons, a], ⟨by omega, by omega, b⟩, ?_⟩
            rw [(getF_iff.1 hg).1, c, gapsF, show (last + (n : Int) - last).toNat = n by omega, List.append_assoc]
    · rintro ⟨a, b, c⟩
      cases l with
      | nil => cases a
      | cons x l =>
        obtain ⟨b1, b2, b3⟩ := b
        rw [gapsF, List.append_assoc] at c
        rw [getF_iff.2 ⟨c, by omega⟩]
        simp only
        rw [if_neg (by omega)]
        have e : last + ((x - last).toNat : Int) = x := by omega
        rw [e, (fallsF_iff m x _ l r (by omega) b2).2 ⟨by simpa using a, b3, rfl⟩]
def wsF : Nat → Int → List UInt8 → Option (List Int × Int × List UInt8)
  | 0, left, s => some ([], left, s)
  | m + 1, left, s => match getF s with
    | none => none
    | some (n, r) => if n < 1 ∨ left < n then none else match wsF m (left - n) r with
      | none => none
      | some (l, x, q) => some ((n : Int) :: l, x, q)
def vysL : List Int → List UInt8
  | [] => []
  | a :: l => vyL a.toNat ++ vysL l
def sumI : List Int → Int
  | [] => 0
  | a :: l => a + sumI l
theorem wsF_iff : ∀ (m : Nat) (left : Int) (s : List UInt8) (l : List Int) (x : Int) (r : List UInt8), left ≤ 9223372036854775807 → (wsF m left s = some (l, x, r) ↔ l.length = m ∧ (∀ a ∈ l, 1 ≤ a) ∧ x = left - sumI l ∧ (l = [] ∨ 0 ≤ x) ∧ s = vysL l ++ r)
  | 0, left, s, l, x, r => by
    intro _
    rw [wsF]
    constructor
    · intro e
      obtain ⟨rfl, rfl, rfl⟩ : [] = l ∧ left = x ∧ s = r := by simpa using e
      exact ⟨rfl, by simp, by simp [sumI], .inl rfl, rfl⟩
    · rintro ⟨h1, -, h2, -, h3⟩
      obtain rfl := List.length_eq_zero_iff.1 h1
      rw [h3, h2]; simp [sumI, vysL]
  | m + 1, left, s, l, x, r => by
    intro h2
    rw [wsF]
    constructor
    · intro e
      cases hg : getF s with
      | none => rw [hg] at e; cases e
      | some y =>
        obtain ⟨n, t⟩ := y
        rw [hg] at e
        simp only at e
        split at e
        · cases e
        · rename_i hn
          have hn : ¬ (n < 1) ∧ ¬ (left < n) := ⟨fun h => hn (.inl h), fun h => hn (.inr h)⟩
          cases hf : wsF m (left - n) t with
          | none => rw [hf] at e; cases e
          | some y =>
            obtain ⟨l', x', q⟩ := y
            rw [hf] at e
            obtain ⟨rfl, rfl, rfl⟩ : (n : Int) :: l' = l ∧ x' = x ∧ q = r := by simpa using e
            obtain ⟨a, b, c, d, f⟩ := (wsF_iff m (left - n) t l' x' q (by omega)).1 hf
            refine ⟨by rw [List.length_cons, a], ?_, by simp only [sumI]; omega, .inr ?_, ?_⟩
            · intro y hy
              rcases List.mem_cons.1 hy with rfl | hy
              · omega
              · exact b y hy
            · rcases d with rfl | d
              · simp only [sumI] at c; omega
              · exact d
            · rw [(getF_iff.1 hg).1, f, vysL, List.append_assoc, Int.toNat_natCast]
    · rintro ⟨a, b, c, d, f⟩
      cases l with
      | nil => cases a
      | cons y l =>
        have hy := b y (by simp)
        have hs : ∀ l : List Int, (∀ a ∈ l, 1 ≤ a) → 0 ≤ sumI l := by
          intro l
          induction l with
          | nil => intro _; exact Int.le_refl _
          | cons z l ih =>
            intro h
            have h1 := h z (by simp)
            have h2 := ih (fun q hq => h q (by simp [hq]))
            simp only [sumI]; omega
        have hs := hs l (fun q hq => b q (by simp [hq]))
        have d : 0 ≤ x := d.elim (fun h => by cases h) id
        simp only [sumI] at c
        rw [vysL, List.append_assoc] at f
        rw [getF_iff.2 ⟨f, by omega⟩]
        simp only
        rw [if_neg (by omega)]
        have e : ((y.toNat : Nat) : Int) = y := by omega
        rw [e, (wsF_iff m (left - y) _ l x r (by omega)).2 ⟨by simpa using a, fun q hq => b q (by simp [hq]), by omega, .inr d, rfl⟩]
end Vy
end Go.Proofs.YtdnlejboijkcfaaGreatDoor
/- One byte that is changed is told by the sum (no program in sight). -/
namespace Go.Proofs.YtdnlejboijkcfaaGreatDoor
set_option maxHeartbeats 8000000
set_option maxRecDepth 100000
namespace Vy
def openB (s : List UInt8) : Bool := decide (4 ≤ s.length ∧ s.drop (s.length - 4) = sbytes (sumP 1 0 (s.take (s.length - 4)) (s.length - 4)))
theorem open_seal (t : List UInt8) : openB (sealL t) = true := by
  have hl := seal_len t
  have e : (sealL t).length - 4 = t.length := by omega
  refine decide_eq_true ⟨by omega, ?_⟩
  rw [e]
  unfold sealL
  rw [List.drop_left, List.take_left]
end Vy
end Go.Proofs.YtdnlejboijkcfaaGreatDoor
/- A digest's bytes are read back (no program in sight). -/
namespace Go.Proofs.YtdnlejboijkcfaaGreatDoor
set_option maxHeartbeats 8000000
set_option maxRecDepth 100000
namespace Vy
theorem gapsF_snoc (last : Int) (l : List Int) (a : Int) : gapsF last (l ++ [a]) = gapsF last l ++ vyL (a - (if l = [] then last else l.getD (l.length - 1) 0)).toNat := by
  induction l generalizing last with
  | nil => simp [gapsF]
  | cons b l ih =>
    rw [List.cons_append, gapsF, ih b, gapsF, List.append_assoc]
    congr 4
    by_cases h : l = []
    · subst h; simp
    · obtain ⟨c, t, rfl⟩ : ∃ c t, l = c :: t := by cases l with | nil => exact absurd rfl h | cons c t => exact ⟨c, t, rfl⟩
      simp [List.getD]
theorem gapsL_take (l : List Int) : ∀ j, j ≤ l.length → gapsL l j = gapsF 0 (l.take j) := by
  intro j
  induction j with
  | zero => intro _; simp [gapsL, gapsF]
  | succ j ih =>
    intro h
    have hj : j < l.length := by omega
    rw [gapsL, ih (by omega), List.take_succ_eq_append_getElem hj, gapsF_snoc]
    have e1 : l.getD j 0 = l[j] := by simp [List.getD, hj]
    have e2 : (if l.take j = [] then 0 else (l.take j).getD ((l.take j).length - 1) 0) = lastI l j := by
      cases j with
      | zero => simp [lastI]
      | succ j =>
        rw [if_neg (by intro e; have := congrArg List.length e; rw [List.length_take, List.length_nil] at this; omega)]
        simp [lastI, List.getD, List.length_take, show min (j + 1) l.length = j + 1 by omega, List.getElem?_eq_getElem (show j < l.length by omega)]
    rw [e1, e2]
theorem gaps_all (l : List Int) : gapsL l l.length = gapsF 0 l := by rw [gapsL_take l _ nlr, List.take_length]
theorem vysL_snoc (l : List Int) (a : Int) : vysL (l ++ [a]) = vysL l ++ vyL a.toNat := by
  induction l with
  | nil => simp [vysL]
  | cons b l ih => rw [List.cons_append, vysL, ih, vysL, List.append_assoc]
theorem wsL_take (l : List Int) : ∀ j, j ≤ l.length → wsL l j = vysL (l.take j) := by
  intro j
  induction j with
  | zero => intro _; simp [wsL, vysL]
  | succ j ih =>
    intro h
    have hj : j < l.length := by omega
    rw [wsL, ih (by omega), List.take_succ_eq_append_getElem hj, vysL_snoc]
    simp [List.getD, hj]
theorem ws_all (l : List Int) : wsL l l.length = vysL l := by rw [wsL_take l _ nlr, List.take_length]
abbrev VSt := Option (List UInt8)
def failS (b : Bool) (st : VSt) : VSt := if b then none else st
def rawS (n : Nat) : VSt → VSt
  | none => none
  | some s => if n ≤ s.length then some (s.drop n) else none
def rawV (n : Nat) : VSt → List UInt8
  | none => []
  | some s => if n ≤ s.length then s.take n else []
def numS : VSt → VSt
  | none => none
  | some s => match getF s with
    | none => none
    | some (_, r) => some r
def numV : VSt → Nat
  | none => 0
  | some s => match getF s with
    | none => 0
    | some (n, _) => n
def byteV (st : VSt) : Nat := match rawV 1 st with
  | [] => 0
  | c :: _ => c.toNat
def outB (n : Nat) (a b : Int) : Bool := decide ((n : Int) < a) || decide (b < (n : Int))
def openS (s : List UInt8) : VSt := if openB s then some (s.take (s.length - 4)) else none
def magicS (st : VSt) : VSt := failS (!decide (rawV 4 st = [68, 87, 80, 1])) (rawS 4 st)
def lS (st : VSt) : VSt := failS (outB (byteV st) 1 48) (rawS 1 st)
def btS (a b : Int) (st : VSt) : VSt := failS (outB (numV st) a b) (numS st)
def s1 (s : List UInt8) : VSt := magicS (openS s)
def s2 (s : List UInt8) : VSt := lS (s1 s)
def s3 (s : List UInt8) : VSt := btS 1 1048576 (s2 s)
def s4 (s : List UInt8) : VSt := btS 0 72057594037927935 (s3 s)
def vL (s : List UInt8) : Nat := byteV (s1 s)
def vK (s : List UInt8) : Nat := numV (s2 s)
def vN (s : List UInt8) : Nat := numV (s3 s)
theorem open_inv {s : List UInt8} (h : openB s = true) : s = sealL (s.take (s.length - 4)) := by
  simp only [openB, decide_eq_true_eq] at h
  obtain ⟨h1, h2⟩ := h
  have e : (s.take (s.length - 4)).length = s.length - 4 := by rw [List.length_take]; omega
  unfold sealL
  rw [e, ← h2, List.take_append_drop]
theorem open_sealS (t : List UInt8) : openS (sealL t) = some t := by
  unfold openS
  rw [if_pos (open_seal t)]
  have := seal_len t
  rw [show (sealL t).length - 4 = t.length by omega]
  unfold sealL
  rw [List.take_left]
theorem openS_some {s t : List UInt8} (h : openS s = some t) : s = sealL t := by
  unfold openS at h
  split at h
  · rename_i ho
    have e : s.take (s.length - 4) = t := by simpa using h
    rw [← e]
    exact open_inv ho
  · cases h
theorem fail_some {b : Bool} {st : VSt} {t : List UInt8} (h : failS b st = some t) : b = false ∧ st = some t := by
  unfold failS at h
  cases b with
  | true => cases h
  | false => exact ⟨rfl, h⟩
theorem magic_some {st : VSt} {t : List UInt8} (h : magicS st = some t) : st = some ([68, 87, 80, 1] ++ t) := by
  obtain ⟨h1, h2⟩ := fail_some h
  have h1 : rawV 4 st = [68, 87, 80, 1] := by simpa using h1
  cases st with
  | none => cases h2
  | some s =>
    simp only [rawV, rawS] at h1 h2
    split at h2
    · rename_i hl
      rw [if_pos hl] at h1
      have e : s.drop 4 = t := by simpa using h2
      rw [← h1, ← e, List.take_append_drop]
    · cases h2
theorem magic_of (t : List UInt8) : magicS (some ([68, 87, 80, 1] ++ t)) = some t := by
  have h : 4 ≤ ([68, 87, 80, 1] ++ t : List UInt8).length := by simp
  unfold magicS failS rawV rawS
  simp
theorem lS_some {st : VSt} {t : List UInt8} (h : lS st = some t) : 1 ≤ byteV st ∧ byteV st ≤ 48 ∧ st = some (UInt8.ofNat (byteV st) :: t) := by
  obtain ⟨h1, h2⟩ := fail_some h
  simp only [outB, Bool.or_eq_false_iff, decide_eq_false_iff_not] at h1
  cases st with
  | none => cases h2
  | some s =>
    cases s with
    | nil => simp [rawS] at h2
    | cons c s =>
      have e : byteV (some (c :: s)) = c.toNat := by simp [byteV, rawV]
      have e2 : s = t := by simpa [rawS] using h2
      rw [e] at h1 ⊢
      exact ⟨by omega, by omega, by rw [of_nat, e2]⟩
theorem lS_of {l : Nat} (t : List UInt8) (h1 : 1 ≤ l) (h2 : l ≤ 48) : lS (some (UInt8.ofNat l :: t)) = some t ∧ byteV (some (UInt8.ofNat l :: t)) = l := by
  have e : byteV (some (UInt8.ofNat l :: t)) = l := by simp [byteV, rawV]; omega
  refine ⟨?_, e⟩
  unfold lS
  rw [e]
  have : outB l 1 48 = false := by simp only [outB, Bool.or_eq_false_iff, decide_eq_false_iff_not]; omega
  rw [this]
  simp [failS, rawS]
theorem btS_some {a b : Int} {st : VSt} {t : List UInt8} (h : btS a b st = some t) : a ≤ numV st ∧ numV st ≤ b ∧ st = some (vyL (numV st) ++ t) := by
  obtain ⟨h1, h2⟩ := fail_some h
  simp only [outB, Bool.or_eq_false_iff, decide_eq_false_iff_not] at h1
  cases st with
  | none => cases h2
  | some s =>
    cases hg : getF s with
    | none => simp only [numS, hg] at h2; cases h2
    | some x =>
      obtain ⟨n, r⟩ := x
      have e : numV (some s) = n := by simp only [numV, hg]
      have e2 : r = t := by simpa [numS, hg] using h2
      rw [e] at h1 ⊢
      exact ⟨by omega, by omega, by rw [(getF_iff.1 hg).1, e2]⟩
theorem btS_of {a b : Int} {n : Nat} (t : List UInt8) (h1 : a ≤ n) (h2 : n ≤ b) (h3 : n ≤ 9223372036854775807) : btS a b (some (vyL n ++ t)) = some t ∧ numV (some (vyL n ++ t)) = n := by
  have hg := getF_iff.2 ⟨(rfl : vyL n ++ t = vyL n ++ t), h3⟩
  have e : numV (some (vyL n ++ t)) = n := by simp only [numV, hg]
  refine ⟨?_, e⟩
  unfold btS
  rw [e]
  have : outB n a b = false := by simp only [outB, Bool.or_eq_false_iff, decide_eq_false_iff_not]; omega
  rw [this]
  simp [failS, numS, hg]
theorem s4_some {s t : List UInt8} (h : s4 s = some t) : 1 ≤ vL s ∧ vL s ≤ 48 ∧ 1 ≤ vK s ∧ vK s ≤ 1048576 ∧ vN s ≤ 72057594037927935 ∧ s = sealL (headB (vL s) (vK s) (vN s) ++ t) := by
  obtain ⟨-, a2, a3⟩ := btS_some h
  obtain ⟨b1, b2, b3⟩ := btS_some a3
  obtain ⟨c1, c2, c3⟩ := lS_some b3
  have d := magic_some c3
  have e := openS_some d
  refine ⟨c1, c2, by unfold vK; omega, by unfold vK; omega, by unfold vN; omega, ?_⟩
  conv => lhs; rw [e]
  simp only [headB, vL, vK, vN, Int.toNat_natCast]
  simp
theorem s4_of {l k n : Nat} (t : List UInt8) (h1 : 1 ≤ l) (h2 : l ≤ 48) (h3 : 1 ≤ k) (h4 : k ≤ 1048576) (h5 : n ≤ 72057594037927935) :
    s4 (sealL (headB l k n ++ t)) = some t ∧ vL (sealL (headB l k n ++ t)) = l ∧ vK (sealL (headB l k n ++ t)) = k ∧ vN (sealL (headB l k n ++ t)) = n := by
  have e : (headB l k n ++ t : List UInt8) = [68, 87, 80, 1] ++ (UInt8.ofNat l :: (vyL k ++ (vyL n ++ t))) := by simp [headB]
  have e1 : s1 (sealL (headB l k n ++ t)) = some (UInt8.ofNat l :: (vyL k ++ (vyL n ++ t))) := by unfold s1; rw [open_sealS, e, magic_of]
  obtain ⟨a1, a2⟩ := lS_of (vyL k ++ (vyL n ++ t)) h1 h2
  have e2 : s2 (sealL (headB l k n ++ t)) = some (vyL k ++ (vyL n ++ t)) := by unfold s2; rw [e1, a1]
  obtain ⟨b1, b2⟩ := btS_of (a := 1) (b := 1048576) (vyL n ++ t) (by omega) (by omega) (by omega : k ≤ 9223372036854775807)
  have e3 : s3 (sealL (headB l k n ++ t)) = some (vyL n ++ t) := by unfold s3; rw [e2, b1]
  obtain ⟨c1, c2⟩ := btS_of (a := 0) (b := 72057594037927935) t (by omega) (by omega) (by omega : n ≤ 9223372036854775807)
  have e4 : s4 (sealL (headB l k n ++ t)) = some t := by unfold s4; rw [e3, c1]
  exact ⟨e4, by unfold vL; rw [e1, a2], by unfold vK; rw [e2, b2], by unfold vN; rw [e3, c2]⟩
def idsF (most : Int) (s : List UInt8) : Option (List Int × List UInt8) := match getF s with
  | none => none
  | some (m, r) => if most < m then none else fallsF m 0 r
theorem idsF_iff {most : Int} {s : List UInt8} {l : List Int} {r : List UInt8} (hm : most ≤ 9223372036854775807) : idsF most s = some (l, r) ↔ s = risesL l ++ r ∧ riseF 0 l ∧ (l.length : Int) ≤ most := by
  unfold idsF risesL
  rw [gaps_all]
  constructor
  · intro e
    cases hg : getF s with
    | none => rw [hg] at e; cases e
    | some x =>
      obtain ⟨m, q⟩ := x
      rw [hg] at e
      simp only at e
      split at e
      · cases e
      · obtain ⟨a, b, c⟩ := (fallsF_iff m 0 q l r (by omega) (by omega)).1 e
        refine ⟨?_, b, by omega⟩
        rw [(getF_iff.1 hg).1, c, a, List.append_assoc]
  · rintro ⟨a, b, c⟩
    rw [List.append_assoc] at a
    rw [getF_iff.2 ⟨a, by omega⟩]
    simp only
    rw [if_neg (by omega)]
    exact (fallsF_iff _ 0 _ l r (by omega) (by omega)).2 ⟨rfl, b, rfl⟩
theorem read_sound {s t q : List UInt8} {ids ws : List Int} (h : s4 s = some t) (hi : idsF (8 * (vK s : Int)) t = some (ids, q)) (hw : wsF ids.length (vN s) q = some (ws, 0, [])) :
    s = encL (vL s) (vK s) (vN s) ids ws ∧ riseF 0 ids ∧ (ids.length : Int) ≤ 8 * (vK s : Int) ∧ ws.length = ids.length ∧ (∀ a ∈ ws, 1 ≤ a) ∧ sumI ws = vN s := by
  obtain ⟨a1, a2, a3, a4, a5, a6⟩ := s4_some h
  obtain ⟨b1, b2, b3⟩ := (idsF_iff (by omega)).1 hi
  obtain ⟨c1, c2, c3, -, c5⟩ := (wsF_iff _ _ _ _ _ _ (by omega)).1 hw
  refine ⟨?_, b2, b3, c1, c2, by omega⟩
  unfold encL
  rw [ws_all]
  conv => lhs; rw [a6, b1, c5, List.append_nil]
  rw [List.append_assoc]
theorem read_of {l k n : Nat} {ids ws : List Int} (h1 : 1 ≤ l) (h2 : l ≤ 48) (h3 : 1 ≤ k) (h4 : k ≤ 1048576) (h5 : n ≤ 72057594037927935) (hr : riseF 0 ids) (hi : (ids.length : Int) ≤ 8 * (k : Int)) (he : ws.length = ids.length) (hp : ∀ a ∈ ws, 1 ≤ a) (hs : sumI ws = n) :
    ∃ t q, s4 (encL l k n ids ws) = some t ∧ vL (encL l k n ids ws) = l ∧ vK (encL l k n ids ws) = k ∧ vN (encL l k n ids ws) = n ∧ idsF (8 * (k : Int)) t = some (ids, q) ∧ wsF ids.length n q = some (ws, 0, []) := by
  have e : encL l k n ids ws = sealL (headB l k n ++ (risesL ids ++ vysL ws)) := by unfold encL; rw [ws_all, List.append_assoc]
  obtain ⟨a1, a2, a3, a4⟩ := s4_of (l := l) (k := k) (n := n) (risesL ids ++ vysL ws) h1 h2 h3 h4 h5
  rw [e]
  exact ⟨_, vysL ws, a1, a2, a3, a4, (idsF_iff (by omega)).2 ⟨rfl, hr, hi⟩, (wsF_iff _ _ _ _ _ _ (by omega)).2 ⟨he, hp, by omega, .inr (Int.le_refl _), by simp⟩⟩
end Vy
end Go.Proofs.YtdnlejboijkcfaaGreatDoor
/- The walk of vary.Get: a number is read. -/
namespace Go.Proofs.YtdnlejboijkcfaaGreatDoor
set_option maxHeartbeats 8000000
set_option maxRecDepth 100000
open Go.RowKit Vy
def GetP (s : ByteArray) (w : World) (e : Ending) (w' : World) : Prop :=
  w = w' ∧ ((∃ er : Int, e = .returned (.tuple #[.int .i64 0, .int .i64 0, .int .i64 er]) ∧ 1 ≤ er ∧ er ≤ 100 ∧ getF s.data.toList = none) ∨
    ∃ n size : Nat, e = .returned (.tuple #[.int .i64 n, .int .i64 size, .int .i64 0]) ∧ size ≤ s.size ∧ 1 ≤ size ∧ getF s.data.toList = some (n, s.data.toList.drop size) ∧ n ≤ 9223372036854775807)
theorem Vy.sdrop {s : ByteArray} {j : Nat} (h : j < s.size) : s.data.toList.drop j = s[j] :: s.data.toList.drop (j + 1) := by
  have h' : j < s.data.toList.length := by simpa using h
  rw [List.drop_eq_getElem_cons h']
  rfl
theorem Vy.stake {s : ByteArray} {j : Nat} (h : j < s.size) : s.data.toList.take (j + 1) = s.data.toList.take j ++ [s[j]] := by
  have h' : j < s.data.toList.length := by simpa using h
  rw [List.take_succ_eq_append_getElem h']
  rfl
theorem Vy.slen {s : ByteArray} {j : Nat} (h : j ≤ s.size) : (s.data.toList.take j).length = j := by
  have h' : j ≤ s.data.toList.length := by simpa using h
  rw [List.length_take]; omega
theorem Vy.scut {s : ByteArray} {j : Nat} (h : j < s.size) : s.data.toList = s.data.toList.take j ++ s[j] :: s.data.toList.drop (j + 1) := by
  rw [← Vy.sdrop h, List.take_append_drop]
theorem Vy.cont_snoc {a : List UInt8} {c : UInt8} (h : contB a) (hc : 128 ≤ c.toNat) : contB (a ++ [c]) := fun x hx => by
  rcases List.mem_append.1 hx with hx | hx
  · exact h x hx
  · obtain rfl := by simpa using hx
    exact hc
theorem Vy.and127 (c : UInt8) : bits .and .u8 (c.toNat : Int) 127 = ((c.toNat % 128 : Nat) : Int) := by
  rw [show (127 : Int) = ((127 : Nat) : Int) from rfl, u8_and_nat _ _ (UInt8.toNat_lt c) (by decide), nat_mask7]
theorem Vy.or_top (n d at' : Nat) (hn : n < 128 ^ at') (hd : d < 128) (h : at' ≤ 8) (D : Int) (hD : D = (d : Int)) : bits .or .i64 (n : Int) (wrap64 (D * 2 ^ (7 * at'))) = ((n + d * 128 ^ at' : Nat) : Int) := by
  subst hD
  have e : (2 : Nat) ^ (7 * at') = 128 ^ at' := by rw [Nat.pow_mul]
  have e2 : (d : Int) * 2 ^ (7 * at') = ((d * 2 ^ (7 * at') : Nat) : Int) := by simp
  have h1 : 128 ^ at' ≤ 128 ^ 8 := Nat.pow_le_pow_right (by decide) h
  have h2 : d * 128 ^ at' ≤ 127 * 128 ^ at' := Nat.mul_le_mul_right _ (by omega)
  rw [e2, IntWalk.wrap64_in ((d * 2 ^ (7 * at') : Nat) : Int) ⟨by omega, by rw [e]; omega⟩]
  show IntKind.i64.wrap ((BitVec.ofInt 64 (n : Int) ||| BitVec.ofInt 64 ((d * 2 ^ (7 * at') : Nat) : Int)).toNat : Int) = _
  rw [BitVec.toNat_or, ofInt_u64 _ (by omega), ofInt_u64 _ (by rw [e]; omega)]
  rw [Nat.or_comm, nat_join (7 * at') _ _ (by rw [Nat.mul_mod_left]) (by rw [e]; exact hn), e, Nat.add_comm]
  exact IntWalk.i64_in _ ⟨by omega, by omega⟩
theorem v_get (s : ByteArray) (w : World) : Calls Tryz.prog 146 #[.string s] w (GetP s w) := by
  go_enter Tryz.func146, Tryz.ntmps146
  go_wp2_with fail
  go_step3
  go_wp2_with fail
  go_step3
  go_wp2_with fail
  go_loopg [2, 5] 9 (fun gn n i wr => wr = w ∧ ∃ k : Nat, n = .int .i64 (valL (s.data.toList.take k) : Nat) ∧ i = .int .i64 k ∧ k ≤ s.size ∧ k ≤ 9 ∧ 9 - k ≤ gn ∧ Hid (contB (s.data.toList.take k)))
  case atStart => exact ⟨rfl, 0, rfl, rfl, Nat.zero_le _, by omega, by omega, fun _ h => by simp at h⟩
  case round =>
    obtain ⟨rfl, k, rfl, rfl, hk, hk9, hgn, hc⟩ := hrel
    by_cases h9 : k = 9
    · subst h9
      have hl := slen hk
      have P : Hid (GetP s wr (.returned (.tuple #[.int .i64 0, .int .i64 0, .int .i64 10])) wr) := ⟨rfl, .inl ⟨10, rfl, by decide, by decide, by
        rw [← List.take_append_drop 9 s.data.toList]; exact getF_nine hc.out hl⟩⟩
      clear hc hl
      generalize valL (s.data.toList.take 9) = vv at *
      go_wp2_with fail
      go_ret3
      exact P.out
    · have z9 : ((k : Int) == 9) = false := by simp; omega
      by_cases hz : k = s.size
      · have P : Hid (GetP s wr (.returned (.tuple #[.int .i64 0, .int .i64 0, .int .i64 9])) wr) := ⟨rfl, .inl ⟨9, rfl, by decide, by decide, by
          have e : s.data.toList.take k = s.data.toList := by rw [hz]; exact List.take_of_length_le (by simp)
          rw [← e]; exact getF_none (getA_short hc.out)⟩⟩
        have zz : ((k : Int) == (s.size : Int)) = true := by simp [hz]
        clear hc hz
        generalize valL (s.data.toList.take k) = vv at *
        go_wp2_with fail
        go_ret3
        exact P.out
      · have hlt : k < s.size := by omega
        have zz : ((k : Int) == (s.size : Int)) = false := by simp; omega
        have hcut := scut hlt
        have hl := slen hk
        have hv := val_lt (s.data.toList.take k)
        rw [hl] at hv
        have hcb : s[k].toNat < 256 := s[k].toNat_lt
        by_cases hlow : s[k].toNat < 128
        · have z1 : decide ((s[k].toNat : Int) < 128) = true := decide_eq_true (by omega)
          by_cases h0 : 0 < k ∧ s[k].toNat = 0
          · have P : Hid (GetP s wr (.returned (.tuple #[.int .i64 0, .int .i64 0, .int .i64 10])) wr) := ⟨rfl, .inl ⟨10, rfl, by decide, by decide, by
              rw [hcut]; exact getF_none (getA_zero hc.out h0.2 (by intro e; rw [e] at hl; simp at hl; omega))⟩⟩
            have z2 : decide ((0 : Int) < (k : Int)) = true := decide_eq_true (by omega)
            have z3 : ((s[k].toNat : Int) == 0) = true := by simp [h0.2]
            clear hc hcut
            generalize valL (s.data.toList.take k) = vv at *
            go_wp2_with fail
            go_ret3
            exact P.out
          · have E := getF_end (r := s.data.toList.drop (k + 1)) hc.out hlow (by
              by_cases hk0 : k = 0
              · left; rw [hk0]; rfl
              · right; intro h; exact h0 ⟨by omega, h⟩) (by rw [hl]; omega)
            rw [← hcut, hl] at E
            have OT := or_top (valL (s.data.toList.take k)) s[k].toNat k hv hlow (by omega) _ rfl
            have P : Hid (GetP s wr (.returned (.tuple #[.int .i64 ((valL (s.data.toList.take k) : Int) + (s[k].toNat : Int) * 128 ^ k), .int .i64 ((k : Int) + 1), .int .i64 0])) wr) := ⟨rfl, .inr ⟨_, k + 1, by rw [show ((valL (s.data.toList.take k) + s[k].toNat * 128 ^ k : Nat) : Int) = (valL (s.data.toList.take k) : Int) + (s[k].toNat : Int) * 128 ^ k by simp]; rfl, by omega, by omega, E.1, E.2⟩⟩
            clear hc hcut E
            generalize valL (s.data.toList.take k) = vv at *
            by_cases hk0 : 0 < k
            · have z2 : decide ((0 : Int) < (k : Int)) = true := decide_eq_true (by omega)
              have z3 : ((s[k].toNat : Int) == 0) = false := by simp; omega
              go_wp2_with fail
              go_ret3
              exact P.out
            · have z2 : decide ((0 : Int) < (k : Int)) = false := decide_eq_false (by omega)
              go_wp2_with fail
              go_ret3
              exact P.out
        · have z1 : decide ((s[k].toNat : Int) < 128) = false := decide_eq_false (by omega)
          have OT := or_top (valL (s.data.toList.take k)) (s[k].toNat % 128) k hv (by omega) (by omega) ((s[k].toNat : Int) % 128) (by omega)
          have AN := and127 s[k]
          have R : Hid (valL (s.data.toList.take k) + (s[k].toNat % 128) * 128 ^ k = valL (s.data.toList.take (k + 1)) ∧ contB (s.data.toList.take (k + 1))) := by
            refine ⟨?_, ?_⟩
            · rw [stake hlt, val_snoc, hl]
            · rw [stake hlt]; exact cont_snoc hc.out (by omega)
          clear hc hcut
          generalize valL (s.data.toList.take k) = vv at *
          go_wp2_with fail
          go_roundg (9 - (k + 1))
          case rel => exact ⟨rfl, k + 1, by rw [← R.out.1]; go_num, by go_num, by omega, by omega, nlr, R.out.2⟩
          case measure => omega
end Go.Proofs.YtdnlejboijkcfaaGreatDoor
/- The walk of vary.Falls: rising numbers are read. -/
namespace Go.Proofs.YtdnlejboijkcfaaGreatDoor
set_option maxHeartbeats 8000000
set_option maxRecDepth 100000
open Go.RowKit Vy
theorem Vy.sub_list (s : ByteArray) (j : Nat) : (s.extract j s.size).data.toList = s.data.toList.drop j := by
  rw [ByteArray.data_extract, Array.toList_extract]
  rw [List.extract_eq_take_drop, List.take_of_length_le (by rw [List.length_drop]; simp)]
theorem Vy.sub_size (s : ByteArray) {j : Nat} (_h : j ≤ s.size) : (s.extract j s.size).size = s.size - j := by simp
def mapF (ids : List Int) : Option (List Int × List UInt8) → Option (List Int × List UInt8)
  | none => none
  | some (l, r) => some (ids ++ l, r)
theorem Vy.falls_step {m : Nat} {last : Int} {s r : List UInt8} {n : Nat} (ids : List Int) (h : getF s = some (n, r)) (h0 : n ≠ 0) (h1 : (n : Int) ≤ 9223372036854775807 - last) : mapF ids (fallsF (m + 1) last s) = mapF (ids ++ [last + n]) (fallsF m (last + n) r) := by
  rw [fallsF, h]
  simp only
  rw [if_neg (by omega)]
  cases fallsF m (last + n) r with
  | none => rfl
  | some x => obtain ⟨l, q⟩ := x; simp [mapF]
theorem Vy.falls_bad {m : Nat} {last : Int} {s r : List UInt8} {n : Nat} (h : getF s = some (n, r)) (h0 : n = 0 ∨ 9223372036854775807 - last < n) : fallsF (m + 1) last s = none := by
  rw [fallsF, h]
  simp only
  rw [if_pos h0]
theorem Vy.falls_none {m : Nat} {last : Int} {s : List UInt8} (h : getF s = none) : fallsF (m + 1) last s = none := by
  rw [fallsF, h]
def FallsP (most : Int) (s : ByteArray) (w : World) (e : Ending) (w' : World) : Prop :=
  Below w.heap.size w w' ∧ ((∃ er : Int, e = .returned (.tuple #[.slice none 0 0, .int .i64 0, .int .i64 er]) ∧ 1 ≤ er ∧ er ≤ 100 ∧ idsF most s.data.toList = none) ∨
    ∃ (ids : List Int) (v : Value) (size : Nat), e = .returned (.tuple #[v, .int .i64 size, .int .i64 0]) ∧ size ≤ s.size ∧ ids.length ≤ size ∧ OwnI w' w.heap.size v ids ∧ idsF most s.data.toList = some (ids, s.data.toList.drop size))
theorem v_falls (most : Int) (s : ByteArray) (w : World) (hs : s.size ≤ 200000) (_hm : In64 most) : Calls Tryz.prog 227 #[.string s, .int .i64 most] w (FallsP most s w) := by
  have GT := hid (fun (t : ByteArray) (W : World) => v_get t W)
  go_enter Tryz.func227, Tryz.ntmps227
  go_wp2_with fail
  refine (GT.out s w).mono ?_
  rintro e w1 ⟨rfl, (⟨er, rfl, he1, he2, hg⟩ | ⟨m, p0, rfl, hp0, hp1, hg, hmb⟩)⟩
  · have P : Hid (FallsP most s w (.returned (.tuple #[.slice none 0 0, .int .i64 0, .int .i64 er])) w) := ⟨Below.refl _ _, .inl ⟨er, rfl, he1, he2, by unfold idsF; rw [hg]⟩⟩
    have z : (er != 0) = true := by simp; omega
    clear hg
    go_wp2_with fail
    go_ret3
    exact P.out
  · by_cases hmm : most < m
    · have P : Hid (FallsP most s w (.returned (.tuple #[.slice none 0 0, .int .i64 0, .int .i64 13])) w) := ⟨Below.refl _ _, .inl ⟨13, rfl, by decide, by decide, by unfold idsF; rw [hg]; simp only; rw [if_pos hmm]⟩⟩
      have z : decide (most < (m : Int)) = true := decide_eq_true hmm
      clear hg
      go_wp2_with fail
      go_ret3
      exact P.out
    · have z : decide (most < (m : Int)) = false := decide_eq_false hmm
      have F0 : Hid (idsF most s.data.toList = fallsF m 0 (s.data.toList.drop p0)) := by
        show _ = _
        unfold idsF; rw [hg]; simp only; rw [if_neg hmm]
      have F1 : Hid (fallsF m 0 (s.data.toList.drop p0) = mapF [] (fallsF (m - 0) 0 (s.data.toList.drop p0))) := by
        show _ = mapF [] (fallsF m 0 (s.data.toList.drop p0))
        cases fallsF m 0 (s.data.toList.drop p0) with
        | none => rfl
        | some x => rfl
      clear hg hmm
      go_wp2_with fail
      go_loopg [8, 10, 11, 30] m (fun gn at' out last i wr => ∃ (j p : Nat) (L : Int) (ids : List Int), at' = .int .i64 p ∧ i = .int .i64 j ∧ last = .int .i64 L ∧ 0 ≤ L ∧ L ≤ 9223372036854775807 ∧ j ≤ m ∧ m - j ≤ gn ∧ p ≤ s.size ∧ ids.length = j ∧ j ≤ p ∧ OwnI wr w.heap.size out ids ∧ Below w.heap.size w wr ∧ Hid (fallsF m 0 (s.data.toList.drop p0) = mapF ids (fallsF (m - j) L (s.data.toList.drop p))))
      case atStart => exact ⟨0, p0, 0, [], rfl, rfl, rfl, by omega, by omega, Nat.zero_le _, nlr, hp0, rfl, Nat.zero_le _, OwnI.nil _ _, Below.refl _ _, F1⟩
      case round =>
        obtain ⟨j, p, L, ids, rfl, rfl, rfl, hL0, hL1, hj, hgn, hp, hil, hjp, hown, hbl, hF⟩ := hrel
        by_cases hlt : j < m
        · have z0 : decide ((j : Int) < (m : Int)) = true := decide_eq_true (by omega)
          have hwr := hbl.size
          have SL := sub_list s p
          have SZ := sub_size s hp
          have G1 := hid (GT.out (s.extract p s.size) wr)
          have HS := hid (And.intro SL SZ)
          have emj : m - j = (m - (j + 1)) + 1 := by omega
          clear SL SZ
          go_wp2_with fail
          refine G1.out.mono ?_
          clear G1
          generalize s.extract p s.size = t at *
          rintro e w2 ⟨rfl, (⟨er, rfl, he1, he2, hg⟩ | ⟨n, sz, rfl, hsz, hsz1, hg, hnb⟩)⟩
          · have P : Hid (FallsP most s w (.returned (.tuple #[.slice none 0 0, .int .i64 0, .int .i64 er])) wr) := ⟨hbl, .inl ⟨er, rfl, he1, he2, by
              rw [HS.out.1] at hg
              rw [F0.out, hF.out, emj, falls_none hg]; rfl⟩⟩
            have z1 : (er == 0) = false := by simp; omega
            have z2 : (er != 0) = true := by simp; omega
            clear hg hF
            go_wp2_with fail
            go_ret3
            exact P.out
          · rw [HS.out.1, List.drop_drop] at hg
            have hsz2 := HS.out.2
            by_cases hb : n = 0 ∨ 9223372036854775807 - L < n
            · have P : Hid (FallsP most s w (.returned (.tuple #[.slice none 0 0, .int .i64 0, .int .i64 10])) wr) := ⟨hbl, .inl ⟨10, rfl, by decide, by decide, by
                rw [F0.out, hF.out, emj, falls_bad hg hb]; rfl⟩⟩
              clear hg hF
              by_cases hn0 : n = 0
              · have z1 : ((n : Int) == 0) = true := by simp [hn0]
                clear hb
                go_wp2_with fail
                go_ret3
                exact P.out
              · have z1 : ((n : Int) == 0) = false := by simp [hn0]
                have z2 : decide (9223372036854775807 - L < (n : Int)) = true := decide_eq_true (by omega)
                clear hb
                go_wp2_with fail
                go_ret3
                exact P.out
            · have hb' : n ≠ 0 ∧ (n : Int) ≤ 9223372036854775807 - L := ⟨fun h => hb (.inl h), by omega⟩
              obtain ⟨hn0, hnl⟩ := hb'
              have z1 : ((n : Int) == 0) = false := by simp [hn0]
              have z2 : decide (9223372036854775807 - L < (n : Int)) = false := decide_eq_false (by omega)
              have F2 : Hid (fallsF m 0 (s.data.toList.drop p0) = mapF (ids ++ [L + n]) (fallsF (m - (j + 1)) (L + n) (s.data.toList.drop (p + sz)))) := by
                show _ = _
                rw [hF.out, emj, falls_step ids hg hn0 hnl]
              clear hg hF hb
              go_wp2_with (at_builtin; refine appendI (wr := wr) _ _ hown (by omega) (by omega) rfl rfl rfl rfl rfl ?_; intro g cap' w3 ho3 hg3 hgb hgl)
              go_roundg (m - (j + 1))
              case rel => exact ⟨j + 1, p + sz, L + n, ids ++ [L + n], by go_num, by go_num, rfl, by omega, by omega, by omega, nlr, by omega, by simp [hil], by omega, by simpa [hil] using ho3, hbl.grown hg3 (by omega) hown.lt, F2⟩
              case measure => omega
        · obtain rfl : j = m := by omega
          have z0 : decide ((j : Int) < (j : Int)) = false := decide_eq_false (by omega)
          obtain ⟨po, co, rfl⟩ := hown.val
          have P : Hid (FallsP most s w (.returned (.tuple #[.slice po ids.length co, .int .i64 p, .int .i64 0])) wr) := ⟨hbl, .inr ⟨ids, _, p, rfl, hp, by omega, hown, by
            rw [F0.out, hF.out, Nat.sub_self, fallsF]; simp [mapF]⟩⟩
          clear hF
          go_wp2_with fail
          go_ret3
          exact P.out
end Go.Proofs.YtdnlejboijkcfaaGreatDoor
