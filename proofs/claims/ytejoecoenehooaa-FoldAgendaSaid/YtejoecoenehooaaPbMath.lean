/- A table that is looked through (no program in sight): looking, putting, taking. -/
import Derived.Test.YtejoecoenehooaaNdMath2
import Derived.Test.YtejoecoenehooaaProbe1
namespace Go.Proofs.Ytejoecoenehooaa
namespace Nl

/-- The first from d on, of f. -/
def least (p : Nat → Bool) : Nat → Nat → Nat
  | 0, d => d
  | f + 1, d => if p d then d else least p f (d + 1)
theorem least_at {p : Nat → Bool} {f d m : Nat} (h1 : d ≤ m) (h2 : m < d + f) (h3 : p m = true) (h4 : ∀ k, d ≤ k → k < m → p k = false) : least p f d = m := by
  induction f generalizing d with
  | zero => omega
  | succ f ih =>
    rw [least]
    by_cases h : d = m
    · subst h; rw [if_pos h3]
    · rw [if_neg (by rw [h4 d (Nat.le_refl _) (by omega)]; decide)]
      exact ih (by omega) (by omega) (fun k hk hk2 => h4 k (by omega) hk2)
theorem least_spec {p : Nat → Bool} {f d e : Nat} (h1 : d ≤ e) (h2 : e < d + f) (h3 : p e = true) : d ≤ least p f d ∧ least p f d ≤ e ∧ p (least p f d) = true ∧ ∀ k, d ≤ k → k < least p f d → p k = false := by
  induction f generalizing d with
  | zero => omega
  | succ f ih =>
    rw [least]
    by_cases h : p d = true
    · rw [if_pos h]; exact ⟨Nat.le_refl _, h1, h, fun k hk hk2 => by omega⟩
    · rw [if_neg h]
      have hd : d ≠ e := fun q => h (q ▸ h3)
      obtain ⟨i1, i2, i3, i4⟩ := ih (d := d + 1) (by omega) (by omega)
      refine ⟨by omega, i2, i3, fun k hk hk2 => ?_⟩
      by_cases hkd : k = d
      · subst hkd; simpa using h
      · exact i4 k (by omega) hk2

/-- How many steps from slot a on to slot i, of n. -/
def way (n a i : Nat) : Nat := (i + n - a) % n
theorem way_lt {n : Nat} (a i : Nat) (hn : 0 < n) : way n a i < n := Nat.mod_lt _ hn
theorem way_cases {n a i : Nat} (ha : a < n) (hi : i < n) : (a ≤ i ∧ way n a i = i - a) ∨ (i < a ∧ way n a i = i + n - a) := by
  unfold way
  by_cases h : a ≤ i
  · left
    refine ⟨h, ?_⟩
    rw [show i + n - a = (i - a) + n by omega, Nat.add_mod_right, Nat.mod_eq_of_lt (by omega)]
  · right
    exact ⟨by omega, Nat.mod_eq_of_lt (by omega)⟩
theorem mod_cases {n a k : Nat} (ha : a < n) (hk : k < n) : (a + k < n ∧ (a + k) % n = a + k) ∨ (n ≤ a + k ∧ (a + k) % n = a + k - n) := by
  by_cases h : a + k < n
  · exact .inl ⟨h, Nat.mod_eq_of_lt h⟩
  · right
    refine ⟨by omega, ?_⟩
    rw [Nat.mod_eq_sub_mod (by omega), Nat.mod_eq_of_lt (by omega)]
theorem way_at {n a i : Nat} (ha : a < n) (hi : i < n) : (a + way n a i) % n = i := by
  have hw := way_lt a i (show 0 < n by omega)
  rcases way_cases ha hi with ⟨h1, h2⟩ | ⟨h1, h2⟩ <;> rcases mod_cases ha hw with ⟨h3, h4⟩ | ⟨h3, h4⟩ <;> omega
theorem way_eq {n a i k : Nat} (ha : a < n) (hk : k < n) (h : (a + k) % n = i) : k = way n a i := by
  have hi : i < n := by rw [← h]; exact Nat.mod_lt _ (by omega)
  rcases way_cases ha hi with ⟨h1, h2⟩ | ⟨h1, h2⟩ <;> rcases mod_cases ha hk with ⟨h3, h4⟩ | ⟨h3, h4⟩ <;> omega
theorem add_mod_next {n a k : Nat} : ((a + k) % n + 1) % n = (a + (k + 1)) % n := by
  rw [Nat.mod_add_mod]; rfl
theorem mod_mod_add {n a k t : Nat} : ((a + k) % n + t) % n = (a + (k + t)) % n := by
  rw [Nat.mod_add_mod, Nat.add_assoc]
theorem way_next {n i e : Nat} (hi : i < n) (he : e < n) (hne : i ≠ e) : way n ((i + 1) % n) e + 1 = way n i e := by
  have h0 : 0 < n := by omega
  have h1 := way_at hi he
  have hw := way_lt i e h0
  have hz : way n i e ≠ 0 := fun h => by rw [h, Nat.add_zero, Nat.mod_eq_of_lt hi] at h1; exact hne h1
  have := way_eq (n := n) (a := (i + 1) % n) (i := e) (k := way n i e - 1) (Nat.mod_lt _ h0) (by omega) (by
    rw [mod_mod_add, show 1 + (way n i e - 1) = way n i e by omega]; exact h1)
  omega

/-- A slot's weight, its number. -/
def cntA (xs : List (Int × Int)) (i : Nat) : Int := (xs.getD i (0, 0)).2
def idA (xs : List (Int × Int)) (i : Nat) : Int := (xs.getD i (0, 0)).1
def homeA (b : Nat) (id : Int) : Nat := homeN b id.toNat
/-- Looking for a number ends here. -/
def stopB (xs : List (Int × Int)) (id : Int) (i : Nat) : Bool := decide (cntA xs i ≤ 0 ∨ idA xs i = id)
def lookD (xs : List (Int × Int)) (b : Nat) (id : Int) : Nat := least (fun d => stopB xs id ((homeA b id + d) % xs.length)) xs.length 0
def lookI (xs : List (Int × Int)) (b : Nat) (id : Int) : Nat := (homeA b id + lookD xs b id) % xs.length

theorem getD_set {α : Type} (xs : List α) (i j : Nat) (x d : α) (hi : i < xs.length) : (xs.set i x).getD j d = if i = j then x else xs.getD j d := by
  by_cases h : i = j
  · subst h; simp [List.getD, hi]
  · simp [List.getD, h]
theorem cntA_set (xs : List (Int × Int)) (i j : Nat) (x : Int × Int) (hi : i < xs.length) : cntA (xs.set i x) j = if i = j then x.2 else cntA xs j := by
  unfold cntA; rw [getD_set xs i j x _ hi]; split <;> rfl
theorem idA_set (xs : List (Int × Int)) (i j : Nat) (x : Int × Int) (hi : i < xs.length) : idA (xs.set i x) j = if i = j then x.1 else idA xs j := by
  unfold idA; rw [getD_set xs i j x _ hi]; split <;> rfl

/-- What holds of the slots: a power of two of them; weights not below 0; empty ones are (0, 0); each node is reached from its home; no number twice. -/
structure Tab (b : Nat) (xs : List (Int × Int)) : Prop where
  len : xs.length = 2 ^ b
  bits : b ≤ 62
  pos : ∀ i, 0 ≤ cntA xs i
  zero : ∀ i, cntA xs i = 0 → idA xs i = 0
  one : ∀ i, 0 < cntA xs i → 1 ≤ idA xs i
  reach : ∀ i, i < xs.length → 0 < cntA xs i → ∀ k, k < way xs.length (homeA b (idA xs i)) i → 0 < cntA xs ((homeA b (idA xs i) + k) % xs.length)
  dist : ∀ i j, i < xs.length → j < xs.length → 0 < cntA xs i → 0 < cntA xs j → idA xs i = idA xs j → i = j
theorem Tab.pos_len {b : Nat} {xs : List (Int × Int)} (t : Tab b xs) : 0 < xs.length := by rw [t.len]; exact Nat.pow_pos (by omega)
theorem Tab.home {b : Nat} {xs : List (Int × Int)} (t : Tab b xs) (id : Int) : homeA b id < xs.length := by rw [t.len]; exact homeN_lt t.bits _
theorem stopB_iff {xs : List (Int × Int)} {id : Int} {i : Nat} : stopB xs id i = true ↔ cntA xs i ≤ 0 ∨ idA xs i = id := by unfold stopB; simp
theorem stopB_not {xs : List (Int × Int)} {id : Int} {i : Nat} : stopB xs id i = false ↔ 0 < cntA xs i ∧ idA xs i ≠ id := by unfold stopB; simp
/-- Looking ends, if one slot is empty (or has the number). -/
theorem look_spec {b : Nat} {xs : List (Int × Int)} (t : Tab b xs) (id : Int) {e : Nat} (he : e < xs.length) (h : stopB xs id e = true) :
    lookD xs b id < xs.length ∧ stopB xs id (lookI xs b id) = true ∧ lookI xs b id < xs.length ∧ ∀ k, k < lookD xs b id → 0 < cntA xs ((homeA b id + k) % xs.length) ∧ idA xs ((homeA b id + k) % xs.length) ≠ id := by
  have hh := t.home id
  have h0 := t.pos_len
  have hw := way_lt (homeA b id) e h0
  obtain ⟨i1, i2, i3, i4⟩ := least_spec (p := fun d => stopB xs id ((homeA b id + d) % xs.length)) (f := xs.length) (d := 0) (e := way xs.length (homeA b id) e) (Nat.zero_le _) (by omega) (by
    show stopB xs id ((homeA b id + way xs.length (homeA b id) e) % xs.length) = true
    rw [way_at hh he]; exact h)
  refine ⟨?_, i3, Nat.mod_lt _ h0, fun k hk => stopB_not.1 (i4 k (Nat.zero_le _) hk)⟩
  unfold lookD; omega
/-- A node is found where it lies. -/
theorem look_found {b : Nat} {xs : List (Int × Int)} (t : Tab b xs) {i : Nat} (hi : i < xs.length) (hc : 0 < cntA xs i) : lookD xs b (idA xs i) = way xs.length (homeA b (idA xs i)) i ∧ lookI xs b (idA xs i) = i := by
  have hh := t.home (idA xs i)
  have h0 := t.pos_len
  have hw := way_lt (homeA b (idA xs i)) i h0
  have e : lookD xs b (idA xs i) = way xs.length (homeA b (idA xs i)) i := by
    unfold lookD
    refine least_at (Nat.zero_le _) (by omega) ?_ ?_
    · rw [way_at hh hi]; exact stopB_iff.2 (.inr rfl)
    · intro k _ hk
      rw [stopB_not]
      refine ⟨t.reach i hi hc k hk, fun q => ?_⟩
      have := t.dist _ i (Nat.mod_lt _ h0) hi (t.reach i hi hc k hk) hc q
      have := way_eq hh (by omega) this
      omega
  refine ⟨e, ?_⟩
  unfold lookI; rw [e]; exact way_at hh hi
/-- A number that is looked for in vain: nowhere. -/
theorem look_none {b : Nat} {xs : List (Int × Int)} (t : Tab b xs) (id : Int) (h : cntA xs (lookI xs b id) ≤ 0) : ∀ i, i < xs.length → 0 < cntA xs i → idA xs i ≠ id := by
  intro i hi hc q
  have := (look_found t hi hc).2
  rw [q] at this
  rw [this] at h
  omega
end Nl
end Go.Proofs.Ytejoecoenehooaa
