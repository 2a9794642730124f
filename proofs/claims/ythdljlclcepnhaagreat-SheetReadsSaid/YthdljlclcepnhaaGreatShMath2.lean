/- The node that holds a run of values (no program in sight). -/
import Derived.Test.YthdljlclcepnhaaGreatRC
namespace Go.Proofs.YthdljlclcepnhaaGreat
open Go.RowKit Nl
namespace Sh

/-- The ends of a node, by its depth and its number. -/
theorem ends_rep {L : Int} {d i n : Nat} (hi : i < 2 ^ d) (hL : L = (n : Int)) : endsLo L ((2 ^ d + i : Nat) : Int) = ((2 ^ d + i : Nat) : Int) * 2 ^ (n - d) - 2 ^ n ∧ endsHi L ((2 ^ d + i : Nat) : Int) = (((2 ^ d + i : Nat) : Int) + 1) * 2 ^ (n - d) - 1 - 2 ^ n := by
  subst hL
  have e : depN ((2 ^ d + i : Nat) : Int) = d := by unfold depN; rw [dep_two hi]; simp
  unfold endsLo endsHi
  rw [e, Int.toNat_natCast]
  exact ⟨rfl, rfl⟩
/-- Is there a node that holds just the values from lo to hi? -/
def nodeB (L lo hi : Int) : Bool := leafB L lo && (List.range (L.toNat + 1)).any fun j => lo % 2 ^ j == 0 && hi + 1 == lo + 2 ^ j
def nodeV (L lo hi : Int) : Int := if nodeB L lo hi then (2 ^ L.toNat + lo) / (hi + 1 - lo) else 0
/-- One of the nodes above a leaf: j steps up. -/
def upV (L lo : Int) (j : Nat) : Int := (2 ^ L.toNat + lo) / 2 ^ j
def hitB (lo hi : Int) (j : Nat) : Bool := lo % 2 ^ j == 0 && hi + 1 == lo + 2 ^ j
theorem up_rep {n x j : Nat} (hx : x < 2 ^ n) (hj : j ≤ n) : upV (n : Int) (x : Int) j = ((2 ^ (n - j) + x / 2 ^ j : Nat) : Int) ∧ x / 2 ^ j < 2 ^ (n - j) := by
  obtain ⟨e1, e2⟩ := prune_rep hx (show n - j ≤ n by omega)
  rw [show n - (n - j) = j by omega] at e1 e2
  refine ⟨?_, e2⟩
  unfold upV
  rw [Int.toNat_natCast]
  have hp : 0 < 2 ^ j := Nat.pow_pos (by omega)
  have hs : 2 ^ n = 2 ^ j * 2 ^ (n - j) := by rw [← Nat.pow_add]; congr 1; omega
  have : (2 ^ n + x) / 2 ^ j = 2 ^ (n - j) + x / 2 ^ j := by
    conv => lhs; rw [hs]
    rw [Nat.mul_add_div hp]
  have c1 : (2 : Int) ^ n = ((2 ^ n : Nat) : Int) := by simp
  have c2 : (2 : Int) ^ j = ((2 ^ j : Nat) : Int) := by simp
  rw [c1, c2]
  exact_mod_cast this
/-- The ends of a node above a leaf. -/
theorem up_ends {n x j : Nat} (hx : x < 2 ^ n) (hj : j ≤ n) : endsLo (n : Int) (upV (n : Int) (x : Int) j) = ((x / 2 ^ j * 2 ^ j : Nat) : Int) ∧ endsHi (n : Int) (upV (n : Int) (x : Int) j) = ((x / 2 ^ j * 2 ^ j : Nat) : Int) + 2 ^ j - 1 := by
  obtain ⟨e1, e2⟩ := up_rep hx hj
  rw [e1]
  obtain ⟨h1, h2⟩ := ends_rep (L := (n : Int)) e2 rfl
  rw [h1, h2, show n - (n - j) = j by omega]
  have hs : 2 ^ n = 2 ^ (n - j) * 2 ^ j := by rw [← Nat.pow_add]; congr 1; omega
  have c1 : (2 : Int) ^ n = ((2 ^ (n - j) * 2 ^ j : Nat) : Int) := by rw [← hs]; simp
  have c2 : (2 : Int) ^ j = ((2 ^ j : Nat) : Int) := by simp
  rw [c1, c2]
  have m1 : (((2 ^ (n - j) + x / 2 ^ j : Nat) : Int) * ((2 ^ j : Nat) : Int)) = ((2 ^ (n - j) * 2 ^ j + x / 2 ^ j * 2 ^ j : Nat) : Int) := by
    rw [← Int.natCast_mul, Nat.add_mul]
  have m2 : ((((2 ^ (n - j) + x / 2 ^ j : Nat) : Int) + 1) * ((2 ^ j : Nat) : Int)) = ((2 ^ (n - j) * 2 ^ j + x / 2 ^ j * 2 ^ j : Nat) : Int) + ((2 ^ j : Nat) : Int) := by
    rw [Int.add_mul, m1, Int.one_mul]
  rw [m1, m2]
  generalize 2 ^ (n - j) * 2 ^ j = A at *
  generalize x / 2 ^ j * 2 ^ j = B at *
  constructor <;> omega
/-- When is the node j steps above a value's leaf the one that is asked for? -/
theorem up_hit {n x j : Nat} (hi : Int) (hx : x < 2 ^ n) (hj : j ≤ n) : (endsLo (n : Int) (upV (n : Int) (x : Int) j) = (x : Int) ∧ endsHi (n : Int) (upV (n : Int) (x : Int) j) = hi) ↔ hitB (x : Int) hi j = true := by
  obtain ⟨h1, h2⟩ := up_ends hx hj
  rw [h1, h2]
  unfold hitB
  simp only [Bool.and_eq_true, beq_iff_eq]
  have c2 : (2 : Int) ^ j = ((2 ^ j : Nat) : Int) := by simp
  rw [c2]
  have hp : 0 < 2 ^ j := Nat.pow_pos (by omega)
  have hd := Nat.div_add_mod x (2 ^ j)
  rw [Nat.mul_comm] at hd
  have c3 : (x : Int) % ((2 ^ j : Nat) : Int) = ((x % 2 ^ j : Nat) : Int) := by simp
  rw [c3]
  generalize x / 2 ^ j * 2 ^ j = B at *
  generalize x % 2 ^ j = m at *
  generalize 2 ^ j = P at *
  constructor
  · rintro ⟨a, b⟩; constructor <;> omega
  · rintro ⟨a, b⟩; constructor <;> omega
theorem hit_one {lo hi : Int} {j k : Nat} (h1 : hitB lo hi j = true) (h2 : hitB lo hi k = true) : j = k := by
  simp only [hitB, Bool.and_eq_true, beq_iff_eq] at h1 h2
  have e : (2 : Int) ^ j = 2 ^ k := by omega
  have c1 : (2 : Int) ^ j = ((2 ^ j : Nat) : Int) := by simp
  have c2 : (2 : Int) ^ k = ((2 ^ k : Nat) : Int) := by simp
  rw [c1, c2] at e
  have e : 2 ^ j = 2 ^ k := by exact_mod_cast e
  exact Nat.le_antisymm ((Nat.pow_le_pow_iff_right (show 1 < 2 by omega)).1 (Nat.le_of_eq e)) ((Nat.pow_le_pow_iff_right (show 1 < 2 by omega)).1 (Nat.le_of_eq e.symm))
theorem node_some {L lo hi : Int} {j : Nat} (hl : leafB L lo = true) (hj : j ≤ L.toNat) (h : hitB lo hi j = true) : nodeB L lo hi = true ∧ nodeV L lo hi = upV L lo j := by
  have hb : nodeB L lo hi = true := by
    unfold nodeB
    rw [hl, Bool.true_and, List.any_eq_true]
    exact ⟨j, List.mem_range.2 (by omega), h⟩
  refine ⟨hb, ?_⟩
  unfold nodeV upV
  rw [hb, if_pos rfl]
  simp only [hitB, Bool.and_eq_true, beq_iff_eq] at h
  rw [show hi + 1 - lo = 2 ^ j by omega]
theorem node_none {L lo hi : Int} (h : leafB L lo = false ∨ ∀ j, j ≤ L.toNat → hitB lo hi j = false) : nodeB L lo hi = false ∧ nodeV L lo hi = 0 := by
  have hb : nodeB L lo hi = false := by
    unfold nodeB
    rcases h with h | h
    · rw [h]; rfl
    · rw [Bool.and_eq_false_iff]; right
      rw [List.any_eq_false]
      intro j hj
      have := h j (by have := List.mem_range.1 hj; omega)
      unfold hitB at this
      rw [this]; simp
  exact ⟨hb, by unfold nodeV; rw [hb]; rfl⟩
/-- The node of what any node holds is that one. -/
theorem node_ends {L id : Int} (h : rightB L id = true) : nodeB L (endsLo L id) (endsHi L id) = true ∧ nodeV L (endsLo L id) (endsHi L id) = id := by
  obtain ⟨b1, b2, b3⟩ := right_pos1 h
  obtain ⟨d, i, rfl, hi, -⟩ := dep_rep b1
  obtain ⟨n, rfl⟩ := Int.eq_ofNat_of_zero_le (show 0 ≤ L by omega)
  rw [right_rep hi b2 b3] at h
  have hd := of_decide_eq_true h
  obtain ⟨h1, h2⟩ := ends_rep (L := (n : Int)) hi rfl
  have hs : 2 ^ n = 2 ^ d * 2 ^ (n - d) := by rw [← Nat.pow_add]; congr 1; omega
  have c1 : (2 : Int) ^ n = ((2 ^ d * 2 ^ (n - d) : Nat) : Int) := by rw [← hs]; simp
  have c2 : (2 : Int) ^ (n - d) = ((2 ^ (n - d) : Nat) : Int) := by simp
  have elo : endsLo (n : Int) ((2 ^ d + i : Nat) : Int) = ((i * 2 ^ (n - d) : Nat) : Int) := by
    rw [h1, c1, c2, ← Int.natCast_mul, Nat.add_mul]; omega
  have ehi : endsHi (n : Int) ((2 ^ d + i : Nat) : Int) + 1 = ((i * 2 ^ (n - d) : Nat) : Int) + 2 ^ (n - d) := by
    rw [h2, c1, c2, Int.add_mul, ← Int.natCast_mul, Nat.add_mul]; omega
  have hlt : i * 2 ^ (n - d) < 2 ^ n := by
    rw [hs]; exact Nat.mul_lt_mul_of_pos_right hi (Nat.pow_pos (by omega))
  have hleaf : leafB (n : Int) ((i * 2 ^ (n - d) : Nat) : Int) = true := by
    simp only [leafB, decide_eq_true_eq, Int.toNat_natCast]
    refine ⟨b2, b3, Int.natCast_nonneg _, ?_⟩
    have c3 : (2 : Int) ^ n = ((2 ^ n : Nat) : Int) := by simp
    rw [c3]; exact Int.ofNat_lt.2 hlt
  have hhit : hitB ((i * 2 ^ (n - d) : Nat) : Int) (endsHi (n : Int) ((2 ^ d + i : Nat) : Int)) (n - d) = true := by
    simp only [hitB, Bool.and_eq_true, beq_iff_eq]
    refine ⟨?_, ehi⟩
    rw [c2]
    have : (i * 2 ^ (n - d)) % 2 ^ (n - d) = 0 := Nat.mul_mod_left _ _
    exact_mod_cast this
  rw [elo]
  obtain ⟨k1, k2⟩ := node_some (hi := endsHi (n : Int) ((2 ^ d + i : Nat) : Int)) hleaf (show n - d ≤ (n : Int).toNat by simp) hhit
  refine ⟨k1, ?_⟩
  rw [k2, (up_rep hlt (show n - d ≤ n by omega)).1]
  have : i * 2 ^ (n - d) / 2 ^ (n - d) = i := Nat.mul_div_cancel _ (Nat.pow_pos (by omega))
  rw [this, show n - (n - d) = d by omega]
/-- Where the ways up from two leaves meet is the node, if there is one. -/
theorem node_meet {n x y k : Nat} (he : x / 2 ^ k = y / 2 ^ k) (hm : ∀ j, j < k → x / 2 ^ j ≠ y / 2 ^ j) : ∀ j, j ≤ n → hitB (x : Int) (y : Int) j = true → j = k := by
  intro j _ h
  simp only [hitB, Bool.and_eq_true, beq_iff_eq] at h
  have c2 : (2 : Int) ^ j = ((2 ^ j : Nat) : Int) := by simp
  rw [c2] at h
  obtain ⟨h1, h2⟩ := h
  have h1 : x % 2 ^ j = 0 := by exact_mod_cast h1
  have h2 : y + 1 = x + 2 ^ j := by exact_mod_cast h2
  have hp : 0 < 2 ^ j := Nat.pow_pos (by omega)
  have hd := Nat.div_add_mod x (2 ^ j)
  have ej : x / 2 ^ j = y / 2 ^ j := by
    symm
    refine (Nat.div_eq_iff hp).2 ⟨?_, ?_⟩
    · rw [Nat.mul_comm]; omega
    · rw [Nat.mul_comm]; omega
  by_cases hjk : j < k
  · exact absurd ej (hm j hjk)
  by_cases hkj : k < j
  · exfalso
    have hq : 0 < 2 ^ k := Nat.pow_pos (by omega)
    have hpk : 2 ^ (k + 1) ≤ 2 ^ j := Nat.pow_le_pow_right (by omega) (by omega)
    rw [Nat.pow_succ] at hpk
    have d1 := Nat.div_add_mod x (2 ^ k)
    have d2 := Nat.div_add_mod y (2 ^ k)
    rw [he] at d1
    have m1 := Nat.mod_lt x hq
    have m2 := Nat.mod_lt y hq
    have hxk : x % 2 ^ k = 0 := by
      have : 2 ^ k ∣ 2 ^ j := Nat.pow_dvd_pow 2 (by omega)
      exact Nat.mod_eq_zero_of_dvd (Nat.dvd_trans this (Nat.dvd_of_mod_eq_zero h1))
    omega
  · omega
end Sh
end Go.Proofs.YthdljlclcepnhaaGreat
