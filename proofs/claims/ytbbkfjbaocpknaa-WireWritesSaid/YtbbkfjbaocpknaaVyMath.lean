/- Numbers as bytes, seven bits each; sums of bytes; a digest's bytes (no program in sight). -/
import Derived.Test.YtbbkfjbaocpknaaBA
namespace Go.Proofs.Ytbbkfjbaocpknaa
namespace Vy

/-- A number's bytes. -/
def vyL (n : Nat) : List UInt8 := if _h : n < 128 then [UInt8.ofNat n] else UInt8.ofNat (128 + n % 128) :: vyL (n / 128)
termination_by n
decreasing_by omega
theorem vy_low {n : Nat} (h : n < 128) : vyL n = [UInt8.ofNat n] := by rw [vyL]; rw [dif_pos h]
theorem vy_big {n : Nat} (h : ¬ n < 128) : vyL n = UInt8.ofNat (128 + n % 128) :: vyL (n / 128) := by rw [vyL]; rw [dif_neg h]
theorem vy_len (k : Nat) : ∀ n : Nat, n < 128 ^ (k + 1) → (vyL n).length ≤ k + 1 := by
  induction k with
  | zero => intro n h; rw [vy_low (by simpa using h)]; simp
  | succ k ih =>
    intro n h
    by_cases h1 : n < 128
    · rw [vy_low h1]; simp
    · rw [vy_big h1, List.length_cons]
      have := ih (n / 128) (by rw [Nat.pow_succ] at h; omega)
      omega
theorem vy_len9 {n : Nat} (h : n ≤ 9223372036854775807) : (vyL n).length ≤ 9 := vy_len 8 n (by omega)
theorem of_low {n : Nat} (h : n < 256) : (UInt8.ofNat n).toNat = n := by simp [UInt8.toNat_ofNat']; omega
/-- The number ahead of the next one, of so many. -/
def lastI (l : List Int) : Nat → Int
  | 0 => 0
  | j + 1 => l.getD j 0
/-- The bytes of the steps between the first j numbers. -/
def gapsL (l : List Int) : Nat → List UInt8
  | 0 => []
  | j + 1 => gapsL l j ++ vyL (l.getD j 0 - lastI l j).toNat
/-- The bytes of the first j numbers. -/
def wsL (l : List Int) : Nat → List UInt8
  | 0 => []
  | j + 1 => wsL l j ++ vyL (l.getD j 0).toNat
theorem ws_len {l : List Int} (h : ∀ j, l.getD j 0 ≤ 9223372036854775807) : ∀ j, (wsL l j).length ≤ 9 * j := by
  intro j
  induction j with
  | zero => simp [wsL]
  | succ j ih =>
    simp only [wsL, List.length_append]
    have := vy_len9 (n := (l.getD j 0).toNat) (by have := h j; omega)
    omega
theorem gaps_len {l : List Int} (h : ∀ j, l.getD j 0 ≤ 9223372036854775807) (hp : ∀ j, 0 ≤ l.getD j 0) : ∀ j, (gapsL l j).length ≤ 9 * j := by
  intro j
  induction j with
  | zero => simp [gapsL]
  | succ j ih =>
    simp only [gapsL, List.length_append]
    have := vy_len9 (n := (l.getD j 0 - lastI l j).toNat) (by
      have h1 := h j
      have h2 : 0 ≤ lastI l j := by cases j with | zero => exact Int.le_refl _ | succ j => exact hp j
      omega)
    omega
/-- The sums of the first j bytes, begun with these. -/
def sumP (a b : Nat) (t : List UInt8) : Nat → Nat × Nat
  | 0 => (a, b)
  | j + 1 => (((sumP a b t j).1 + (t.getD j 0).toNat) % 65521, ((sumP a b t j).2 + ((sumP a b t j).1 + (t.getD j 0).toNat) % 65521) % 65521)
theorem sumP_lt {a b : Nat} {t : List UInt8} (ha : a < 65521) (hb : b < 65521) : ∀ j, (sumP a b t j).1 < 65521 ∧ (sumP a b t j).2 < 65521 := by
  intro j
  cases j with
  | zero => exact ⟨ha, hb⟩
  | succ j => exact ⟨Nat.mod_lt _ (by decide), Nat.mod_lt _ (by decide)⟩
/-- What comes of sums that aren't made less on the way. -/
theorem sumP_raw {a b : Nat} {t : List UInt8} {j L H c : Nat} (hL : L % 65521 = (sumP a b t j).1) (hH : H % 65521 = (sumP a b t j).2) (hc : (t.getD j 0).toNat = c) :
    (L + c) % 65521 = (sumP a b t (j + 1)).1 ∧ (H + (L + c)) % 65521 = (sumP a b t (j + 1)).2 := by
  simp only [sumP]
  rw [hc, ← hL, ← hH]
  constructor
  · simp [Nat.add_mod]
  · simp [Nat.add_mod]
def sbytes (p : Nat × Nat) : List UInt8 := [UInt8.ofNat (p.2 / 256), UInt8.ofNat (p.2 % 256), UInt8.ofNat (p.1 / 256), UInt8.ofNat (p.1 % 256)]
/-- A text with its sum behind it. -/
def sealL (t : List UInt8) : List UInt8 := t ++ sbytes (sumP 1 0 t t.length)
theorem seal_len (t : List UInt8) : (sealL t).length = t.length + 4 := by simp [sealL, sbytes]
def headB (l k n : Int) : List UInt8 := [68, 87, 80, 1] ++ [UInt8.ofNat l.toNat] ++ (vyL k.toNat ++ vyL n.toNat)
def risesL (ids : List Int) : List UInt8 := vyL ids.length ++ gapsL ids ids.length
/-- A digest's bytes. -/
def encL (l k n : Int) (ids ws : List Int) : List UInt8 := sealL (headB l k n ++ risesL ids ++ wsL ws ws.length)
theorem head_len {l k n : Int} (hk : k ≤ 1048576) (hn : n ≤ 9223372036854775807) : (headB l k n).length ≤ 17 := by
  have h1 := vy_len 2 k.toNat (by omega)
  have h2 := vy_len9 (n := n.toNat) (by omega)
  simp [headB]; omega
theorem rises_len {ids : List Int} (h : ∀ j, ids.getD j 0 ≤ 9223372036854775807) (hp : ∀ j, 0 ≤ ids.getD j 0) (hl : ids.length < 268435456) : (risesL ids).length ≤ 4 + 9 * ids.length := by
  have h1 := vy_len 3 ids.length (by omega)
  have h2 := gaps_len h hp ids.length
  simp [risesL]; omega
theorem enc_len {l k n : Int} {ids ws : List Int} (hk : k ≤ 1048576) (hn : n ≤ 9223372036854775807) (h : ∀ j, ids.getD j 0 ≤ 9223372036854775807) (hp : ∀ j, 0 ≤ ids.getD j 0) (hl : ids.length < 268435456) (hw : ∀ j, ws.getD j 0 ≤ 9223372036854775807) (e : ws.length = ids.length) : (encL l k n ids ws).length ≤ 32 + 18 * ids.length := by
  have h1 := head_len (l := l) hk hn
  have h2 := rises_len h hp hl
  have h3 := ws_len hw ws.length
  unfold encL
  rw [seal_len]
  simp only [List.length_append]
  omega
end Vy
end Go.Proofs.Ytbbkfjbaocpknaa
