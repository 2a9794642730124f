/- Plain facts on lists of digits to the base 1000 (no program in sight). -/
namespace Go.Proofs.Ytaihjcefgokjkaa
namespace Rk

/-- The number of a list of digits, the lowest first. -/
def val : List Int → Int
  | [] => 0
  | x :: r => x + 1000 * val r

/-- All are digits. -/
def Dig (xs : List Int) : Prop := ∀ x, x ∈ xs → 0 ≤ x ∧ x ≤ 999

theorem Dig.nil : Dig [] := by intro x h; cases h
theorem Dig.cons {x : Int} {r : List Int} (hx : 0 ≤ x ∧ x ≤ 999) (h : Dig r) : Dig (x :: r) := by
  intro y hy; cases hy with
  | head => exact hx
  | tail _ hm => exact h y hm
theorem Dig.head {x : Int} {r : List Int} (h : Dig (x :: r)) : 0 ≤ x ∧ x ≤ 999 := h x (by simp)
theorem Dig.tail {x : Int} {r : List Int} (h : Dig (x :: r)) : Dig r := fun y hy => h y (by simp [hy])
theorem Dig.snoc {xs : List Int} {c : Int} (h : Dig xs) (hc : 0 ≤ c ∧ c ≤ 999) : Dig (xs ++ [c]) := by
  intro y hy
  rcases List.mem_append.1 hy with hy | hy
  · exact h y hy
  · simp at hy; subst hy; exact hc
theorem Dig.drop {xs : List Int} (h : Dig xs) (i : Nat) : Dig (xs.drop i) := fun y hy => h y (List.mem_of_mem_drop hy)
theorem Dig.getD {xs : List Int} (h : Dig xs) (i : Nat) : 0 ≤ xs.getD i 0 ∧ xs.getD i 0 ≤ 999 := by
  by_cases hi : i < xs.length
  · have : xs.getD i 0 = xs[i] := by simp [List.getD, List.getElem?_eq_getElem hi]
    rw [this]; exact h _ (List.getElem_mem hi)
  · have : xs.getD i 0 = 0 := by simp [List.getD, List.getElem?_eq_none (Nat.le_of_not_lt hi)]
    rw [this]; omega

/-- 1000 to the power k. -/
def pw : Nat → Int
  | 0 => 1
  | k + 1 => 1000 * pw k
theorem pw_pos (k : Nat) : 1 ≤ pw k := by
  induction k with
  | zero => simp [pw]
  | succ k ih => simp only [pw]; omega
theorem pw_succ (k : Nat) : pw (k + 1) = 1000 * pw k := rfl
theorem pw_mono {a b : Nat} (h : a ≤ b) : pw a ≤ pw b := by
  induction b with
  | zero => have : a = 0 := by omega
            subst this; exact Int.le_refl _
  | succ b ih =>
    by_cases e : a = b + 1
    · subst e; exact Int.le_refl _
    · have := ih (by omega); have := pw_pos b; rw [pw_succ]; omega

theorem val_snoc (xs : List Int) (c : Int) : val (xs ++ [c]) = val xs + pw xs.length * c := by
  induction xs with
  | nil => simp [val, pw]
  | cons x r ih =>
    simp only [List.cons_append, val, ih, List.length_cons, pw_succ]
    grind

theorem val_bd {xs : List Int} (h : Dig xs) : 0 ≤ val xs ∧ val xs < pw xs.length := by
  induction xs with
  | nil => simp [val, pw]
  | cons x r ih =>
    have h1 := h.head; have h2 := ih h.tail
    simp only [val, List.length_cons, pw_succ]
    omega

theorem val_drop (xs : List Int) (i : Nat) : val (xs.drop i) = xs.getD i 0 + 1000 * val (xs.drop (i + 1)) := by
  induction xs generalizing i with
  | nil => simp [val]
  | cons x r ih =>
    cases i with
    | zero => simp [val]
    | succ i => simpa using ih i

theorem val_cut (xs : List Int) (i : Nat) : val xs = val (xs.take i) + pw (xs.take i).length * val (xs.drop i) := by
  induction xs generalizing i with
  | nil => simp [val]
  | cons x r ih =>
    cases i with
    | zero => simp [val, pw]
    | succ i =>
      simp only [List.take_succ_cons, List.drop_succ_cons, val, List.length_cons, pw_succ]
      rw [ih i]; grind

theorem Dig.take {xs : List Int} (h : Dig xs) (i : Nat) : Dig (xs.take i) := fun y hy => h y (List.mem_of_mem_take hy)

theorem val_drop_len (xs : List Int) (i : Nat) (h : xs.length ≤ i) : val (xs.drop i) = 0 := by
  rw [List.drop_eq_nil_of_le h]; rfl

/-- val of what is cut off at i, whatever the length. -/
theorem val_cut_any {xs : List Int} (h : Dig xs) (i : Nat) : ∃ lo, 0 ≤ lo ∧ lo < pw i ∧ val xs = lo + pw i * val (xs.drop i) := by
  by_cases hi : i ≤ xs.length
  · refine ⟨val (xs.take i), (val_bd (h.take i)).1, ?_, ?_⟩
    · have := (val_bd (h.take i)).2
      rw [List.length_take, Nat.min_eq_left hi] at this; exact this
    · have := val_cut xs i
      rw [List.length_take, Nat.min_eq_left hi] at this; exact this
  · refine ⟨val xs, (val_bd h).1, ?_, ?_⟩
    · have := (val_bd h).2; have := pw_mono (a := xs.length) (b := i) (by omega); omega
    · rw [val_drop_len xs i (by omega)]; simp

theorem lt_of_drop_lt {xs ys : List Int} (hx : Dig xs) (hy : Dig ys) (i : Nat) (h : val (xs.drop i) < val (ys.drop i)) : val xs < val ys := by
  obtain ⟨a, a0, a1, ea⟩ := val_cut_any hx i
  obtain ⟨b, b0, b1, eb⟩ := val_cut_any hy i
  rw [ea, eb]
  have : pw i * val (xs.drop i) + pw i ≤ pw i * val (ys.drop i) := by
    have h1 : val (xs.drop i) + 1 ≤ val (ys.drop i) := by omega
    have := Int.mul_le_mul_of_nonneg_left h1 (show 0 ≤ pw i from by have := pw_pos i; omega)
    rw [Int.mul_add, Int.mul_one] at this; exact this
  omega

/-- Which is greater: -1, 0, 1. -/
def sgn (a b : Int) : Int := if a < b then -1 else if b < a then 1 else 0

/-- One digit more, of what is left. -/
theorem step_digits {xs : List Int} {m n : Int} (hd : Dig xs) (hm : 0 < m) (h : val xs + pw xs.length * m = n) :
    Dig (xs ++ [m % 1000]) ∧ val (xs ++ [m % 1000]) + pw (xs ++ [m % 1000]).length * (m / 1000) = n ∧ pw ((xs ++ [m % 1000]).length - 1) ≤ n ∧ 0 ≤ m / 1000 ∧ m / 1000 < m ∧ m ≤ n := by
  have h0 := (val_bd hd).1
  have hp := pw_pos xs.length
  have hle : pw xs.length * 1 ≤ pw xs.length * m := Int.mul_le_mul_of_nonneg_left (by omega) (by omega)
  have hle2 : 1 * m ≤ pw xs.length * m := Int.mul_le_mul_of_nonneg_right (by omega) (by omega)
  refine ⟨hd.snoc ⟨by omega, by omega⟩, ?_, ?_, by omega, by omega, by omega⟩
  · rw [val_snoc, List.length_append]
    simp only [List.length_cons, List.length_nil, pw_succ, Nat.zero_add]
    have e : m = m % 1000 + 1000 * (m / 1000) := by omega
    rw [← h]
    generalize m % 1000 = r at *
    generalize m / 1000 = q at *
    subst e
    grind
  · simp only [List.length_append, List.length_cons, List.length_nil, Nat.zero_add, Nat.add_sub_cancel]; omega

theorem len_digits {xs : List Int} {n : Int} (hn : n ≤ 9223372036854775807) (h : xs ≠ [] → pw (xs.length - 1) ≤ n) : xs.length ≤ 7 := by
  by_cases hx : xs = []
  · subst hx; simp
  · have h1 := h hx
    refine Nat.le_of_not_lt fun hlt => ?_
    have := pw_mono (a := 7) (b := xs.length - 1) (by omega)
    have h7 : pw 7 = 1000000000000000000000 := by decide
    omega

/-- One digit of a sum. -/
theorem step_sum {xs ys zs : List Int} {c n : Int} {k : Nat} (hx : Dig xs) (hy : Dig ys) (hz : Dig zs) (hk : zs.length = k) (hc : 0 ≤ c ∧ c ≤ 1)
    (h : val zs + pw k * (c + val (xs.drop k) + val (ys.drop k)) = n) :
    Dig (zs ++ [(c + xs.getD k 0 + ys.getD k 0) % 1000]) ∧ 0 ≤ (c + xs.getD k 0 + ys.getD k 0) / 1000 ∧ (c + xs.getD k 0 + ys.getD k 0) / 1000 ≤ 1 ∧
    val (zs ++ [(c + xs.getD k 0 + ys.getD k 0) % 1000]) + pw (k + 1) * ((c + xs.getD k 0 + ys.getD k 0) / 1000 + val (xs.drop (k + 1)) + val (ys.drop (k + 1))) = n := by
  have h1 := hx.getD k
  have h2 := hy.getD k
  rw [val_drop xs k, val_drop ys k] at h
  generalize xs.getD k 0 = a at *
  generalize ys.getD k 0 = b at *
  generalize val (xs.drop (k + 1)) = u at *
  generalize val (ys.drop (k + 1)) = v at *
  refine ⟨hz.snoc ⟨by omega, by omega⟩, by omega, by omega, ?_⟩
  rw [val_snoc, hk, pw_succ]
  have e : c + a + b = (c + a + b) % 1000 + 1000 * ((c + a + b) / 1000) := by omega
  generalize (c + a + b) % 1000 = r at *
  generalize (c + a + b) / 1000 = q at *
  have : c + (a + 1000 * u) + (b + 1000 * v) = r + 1000 * (q + u + v) := by omega
  rw [this] at h
  rw [← h]; grind

/-- One digit of a product by one digit. -/
theorem step_row {xs zs : List Int} {c d n : Int} {k m : Nat} (hx : Dig xs) (hz : Dig zs) (hd : 0 ≤ d ∧ d ≤ 999) (hk : zs.length = m) (hc : 0 ≤ c ∧ c ≤ 998)
    (h : val zs + pw m * (c + val (xs.drop k) * d) = n) :
    Dig (zs ++ [(c + xs.getD k 0 * d) % 1000]) ∧ 0 ≤ (c + xs.getD k 0 * d) / 1000 ∧ (c + xs.getD k 0 * d) / 1000 ≤ 998 ∧
    val (zs ++ [(c + xs.getD k 0 * d) % 1000]) + pw (m + 1) * ((c + xs.getD k 0 * d) / 1000 + val (xs.drop (k + 1)) * d) = n := by
  have h1 := hx.getD k
  rw [val_drop xs k] at h
  generalize xs.getD k 0 = a at *
  generalize val (xs.drop (k + 1)) = u at *
  have m0 : 0 ≤ a * d := Int.mul_nonneg h1.1 hd.1
  have m1 : a * d ≤ 999 * 999 := Int.mul_le_mul h1.2 hd.2 hd.1 (by omega)
  refine ⟨hz.snoc ⟨by omega, by omega⟩, by omega, by omega, ?_⟩
  rw [val_snoc, hk, pw_succ]
  have e : c + a * d = (c + a * d) % 1000 + 1000 * ((c + a * d) / 1000) := by omega
  generalize (c + a * d) % 1000 = r at *
  generalize (c + a * d) / 1000 = q at *
  have : c + (a + 1000 * u) * d = r + 1000 * (q + u * d) := by grind
  rw [this] at h
  rw [← h]; grind

theorem sgn_lt {xs ys : List Int} (hx : Dig xs) (hy : Dig ys) {k : Nat} (h : val (xs.drop (k + 1)) = val (ys.drop (k + 1))) (hd : xs.getD k 0 < ys.getD k 0) : sgn (val xs) (val ys) = -1 := by
  have := lt_of_drop_lt hx hy k (by rw [val_drop xs k, val_drop ys k]; omega)
  unfold sgn; rw [if_pos this]
theorem sgn_gt {xs ys : List Int} (hx : Dig xs) (hy : Dig ys) {k : Nat} (h : val (xs.drop (k + 1)) = val (ys.drop (k + 1))) (hd : ys.getD k 0 < xs.getD k 0) : sgn (val xs) (val ys) = 1 := by
  have := lt_of_drop_lt hy hx k (by rw [val_drop xs k, val_drop ys k]; omega)
  unfold sgn; rw [if_neg (by omega), if_pos this]
theorem sgn_eq {a b : Int} (h : a = b) : sgn a b = 0 := by unfold sgn; rw [if_neg (by omega), if_neg (by omega)]

theorem val_zeros (k : Nat) : val (List.replicate k 0) = 0 := by
  induction k with
  | zero => rfl
  | succ k ih => simp only [List.replicate_succ, val, ih]; omega
theorem dig_zeros (k : Nat) : Dig (List.replicate k 0) := by
  intro x hx; have := List.eq_of_mem_replicate hx; subst this; omega
theorem take_snoc_getD (ys : List Int) (k : Nat) (hk : k < ys.length) : ys.take (k + 1) = ys.take k ++ [ys.getD k 0] := by
  rw [List.take_add_one, List.getElem?_eq_getElem hk]; simp [List.getD, List.getElem?_eq_getElem hk]

/-- 2 to the power e. -/
def p2 : Nat → Int
  | 0 => 1
  | e + 1 => 2 * p2 e
theorem p2_pos (e : Nat) : 1 ≤ p2 e := by
  induction e with
  | zero => simp [p2]
  | succ e ih => simp only [p2]; omega
theorem p2_62 : p2 62 = 4611686018427387904 := by decide
/-- The bit that comes next in the search for a quotient, and what is still open: t. -/
def BitOf (b t : Int) : Prop := (b = 0 ∧ t = 1) ∨ ∃ e, b = p2 e ∧ t = 2 * p2 e
theorem BitOf.next {b t : Int} (h : BitOf b t) (hb : 0 < b) : t = 2 * b ∧ BitOf (b / 2) b := by
  rcases h with ⟨h1, _⟩ | ⟨e, h1, h2⟩
  · omega
  · refine ⟨by omega, ?_⟩
    cases e with
    | zero => left; subst h1; simp [p2]
    | succ e => right; exact ⟨e, by subst h1; simp only [p2]; omega, by subst h1; rfl⟩
theorem BitOf.end' {b t : Int} (h : BitOf b t) (hb : ¬ 0 < b) : t = 1 := by
  rcases h with ⟨_, h2⟩ | ⟨e, h1, _⟩
  · exact h2
  · have := p2_pos e; omega

/-- What the search for a quotient has come to. -/
def Quoted (x n q t : Int) : Prop := 0 ≤ q ∧ q + t - 1 ≤ 9223372036854775807 ∧ q * n ≤ x ∧ (q + t - 1 = 9223372036854775807 ∨ x < (q + t) * n)
theorem sgn_le {a b : Int} : sgn a b ≤ 0 ↔ a ≤ b := by
  unfold sgn
  by_cases c : a < b
  · rw [if_pos c]; omega
  · rw [if_neg c]
    by_cases c2 : b < a
    · rw [if_pos c2]; omega
    · rw [if_neg c2]; omega
theorem sgn_neg {a b : Int} : sgn a b < 0 ↔ a < b := by
  unfold sgn
  by_cases c : a < b
  · rw [if_pos c]; omega
  · rw [if_neg c]
    by_cases c2 : b < a
    · rw [if_pos c2]; omega
    · rw [if_neg c2]; omega
theorem Quoted.take {x n q b : Int} (h : Quoted x n q (2 * b)) (hb : 0 < b) (hs : (q + b) * n ≤ x) : Quoted x n (q + b) b := by
  obtain ⟨h1, h2, h3, h4⟩ := h
  have e : q + b + b = q + 2 * b := by omega
  exact ⟨by omega, by omega, hs, by rw [e]; exact h4⟩
theorem Quoted.pass {x n q b : Int} (h : Quoted x n q (2 * b)) (hb : 0 < b) (hs : x < (q + b) * n) : Quoted x n q b := by
  obtain ⟨h1, h2, h3, h4⟩ := h
  exact ⟨by omega, by omega, h3, .inr hs⟩
/-- The quotient that is told. -/
def quo (x n : Int) : Int := if 9223372036854775807 < x / n then 0 else x / n
def quoRest (x n : Int) : Bool := if 9223372036854775807 < x / n then false else decide (0 < x % n)
def quoOk (x n : Int) : Bool := decide (x / n ≤ 9223372036854775807)
theorem Quoted.far {x n q : Int} (hn : 0 < n) (h : Quoted x n q 1) (hs : q * n + n ≤ x) : 9223372036854775807 < x / n := by
  obtain ⟨h1, h2, h3, h4⟩ := h
  have e : q * n + n = (q + 1) * n := by rw [Int.add_mul, Int.one_mul]
  rw [e] at hs
  have : q + 1 ≤ x / n := (Int.le_ediv_iff_mul_le hn).2 hs
  omega
theorem Quoted.near {x n q : Int} (hn : 0 < n) (h : Quoted x n q 1) (hs : ¬ q * n + n ≤ x) : x / n = q ∧ q ≤ 9223372036854775807 ∧ (q * n < x ↔ 0 < x % n) := by
  obtain ⟨h1, h2, h3, h4⟩ := h
  have e : q * n + n = (q + 1) * n := by rw [Int.add_mul, Int.one_mul]
  have a : q ≤ x / n := (Int.le_ediv_iff_mul_le hn).2 h3
  have b : x / n < q + 1 := (Int.ediv_lt_iff_lt_mul hn).2 (by omega)
  have c : x / n = q := by omega
  refine ⟨c, by omega, ?_⟩
  have d := Int.emod_add_mul_ediv x n
  rw [c, Int.mul_comm] at d
  omega

theorem pw7 : pw 7 = 1000000000000000000000 := by decide
theorem pw6 : pw 6 = 1000000000000000000 := by decide

end Rk
end Go.Proofs.Ytaihjcefgokjkaa
