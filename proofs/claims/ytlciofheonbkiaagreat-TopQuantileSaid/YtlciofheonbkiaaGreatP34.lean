/- Texts laid together. -/
import Derived.Test.YtlciofheonbkiaaGreatP15
import Derived.Test.YtlciofheonbkiaaGreatP14
import Derived.Test.YtlciofheonbkiaaGreatP02
/- Texts laid together: RcMath, RcMath2. -/
/- Nodes that move to another universe (no program in sight). -/
namespace Go.Proofs.YtlciofheonbkiaaGreat
open Go.RowKit
namespace Nl
theorem dep_rep {id : Int} (h : 1 ≤ id) : ∃ d i : Nat, id = ((2 ^ d + i : Nat) : Int) ∧ i < 2 ^ d ∧ depV id = (d : Int) := by
  obtain ⟨n, rfl⟩ := Int.eq_ofNat_of_zero_le (show 0 ≤ id by omega)
  obtain ⟨d1, d2, d3⟩ := dep_pow (i := n) (by omega)
  refine ⟨depN (n : Int), n - 2 ^ depN (n : Int), ?_, ?_, d1⟩
  · have : n = 2 ^ depN (n : Int) + (n - 2 ^ depN (n : Int)) := by omega
    exact_mod_cast this
  · rw [Nat.pow_succ] at d3; omega
theorem dep_two {d i : Nat} (h : i < 2 ^ d) : depV ((2 ^ d + i : Nat) : Int) = (d : Int) := by
  have h1 : 1 ≤ 2 ^ d := Nat.one_le_two_pow
  obtain ⟨e, j, h2, h3, h4⟩ := dep_rep (id := ((2 ^ d + i : Nat) : Int)) (by omega)
  have h5 : 2 ^ d + i = 2 ^ e + j := by exact_mod_cast h2
  have a1 : 2 ^ d < 2 ^ (e + 1) := by rw [Nat.pow_succ]; omega
  have a2 : 2 ^ e < 2 ^ (d + 1) := by rw [Nat.pow_succ]; omega
  have a3 := (Nat.pow_lt_pow_iff_right (a := 2) (by omega)).1 a1
  have a4 := (Nat.pow_lt_pow_iff_right (a := 2) (by omega)).1 a2
  rw [h4]
  have : d = e := by omega
  rw [this]
def pruneV (t id : Int) : Int := id / 2 ^ (depN id - t.toNat)
theorem prune_rep {t : Nat} {d i : Nat} (h : i < 2 ^ d) (ht : t ≤ d) : pruneV (t : Int) ((2 ^ d + i : Nat) : Int) = ((2 ^ t + i / 2 ^ (d - t) : Nat) : Int) ∧ i / 2 ^ (d - t) < 2 ^ t := by
  have e : depN ((2 ^ d + i : Nat) : Int) = d := by unfold depN; rw [dep_two h]; simp
  unfold pruneV
  rw [e, Int.toNat_natCast]
  have hp : 0 < 2 ^ (d - t) := Nat.pow_pos (by omega)
  have hs : 2 ^ d = 2 ^ t * 2 ^ (d - t) := by rw [← Nat.pow_add]; congr 1; omega
  have c1 : (2 : Int) ^ (d - t) = ((2 ^ (d - t) : Nat) : Int) := by simp
  constructor
  · rw [c1]
    have : (2 ^ d + i) / 2 ^ (d - t) = 2 ^ t + i / 2 ^ (d - t) := by
      rw [hs, Nat.mul_comm (2 ^ t), Nat.mul_add_div hp]
    exact_mod_cast this
  · exact (Nat.div_lt_iff_lt_mul hp).2 (by rw [← hs]; exact h)
theorem right_rep {l : Int} {d i : Nat} (h : i < 2 ^ d) (h1 : 1 ≤ l) (h2 : l ≤ 48) : rightB l ((2 ^ d + i : Nat) : Int) = decide ((d : Int) ≤ l) := by
  have hp : 1 ≤ 2 ^ d := Nat.one_le_two_pow
  rw [rightB_dep ⟨h1, h2⟩ (by omega), dep_two h]
theorem right_pos1 {l id : Int} (h : rightB l id = true) : 1 ≤ id ∧ 1 ≤ l ∧ l ≤ 48 := by
  simp only [rightB, decide_eq_true_eq] at h; omega
end Nl
end Go.Proofs.YtlciofheonbkiaaGreat
/- What moved nodes stand for, and moves in two steps (no program in sight). -/
namespace Go.Proofs.YtlciofheonbkiaaGreat
open Go.RowKit
namespace Nl
theorem leaf_rep {l v : Int} (h : leafB l v = true) : ∃ n : Nat, l.toNat = n ∧ ∃ x : Nat, v = x ∧ x < 2 ^ n ∧ (2 : Int) ^ l.toNat + v = ((2 ^ n + x : Nat) : Int) := by
  simp only [leafB, decide_eq_true_eq] at h
  obtain ⟨x, rfl⟩ := Int.eq_ofNat_of_zero_le (show 0 ≤ v by omega)
  have c1 : (2 : Int) ^ l.toNat = ((2 ^ l.toNat : Nat) : Int) := by simp
  refine ⟨l.toNat, rfl, x, rfl, ?_, by rw [c1]; omega⟩
  have := h.2.2.2
  rw [c1] at this; omega
end Nl
end Go.Proofs.YtlciofheonbkiaaGreat

/- The node that holds a run of values (no program in sight). -/
namespace Go.Proofs.YtlciofheonbkiaaGreat
open Go.RowKit Nl
namespace Sh
theorem ends_rep {L : Int} {d i n : Nat} (hi : i < 2 ^ d) (hL : L = (n : Int)) : endsLo L ((2 ^ d + i : Nat) : Int) = ((2 ^ d + i : Nat) : Int) * 2 ^ (n - d) - 2 ^ n ∧ endsHi L ((2 ^ d + i : Nat) : Int) = (((2 ^ d + i : Nat) : Int) + 1) * 2 ^ (n - d) - 1 - 2 ^ n := by
  subst hL
  have e : depN ((2 ^ d + i : Nat) : Int) = d := by unfold depN; rw [dep_two hi]; simp
  unfold endsLo endsHi
  rw [e, Int.toNat_natCast]
  exact ⟨rfl, rfl⟩
def nodeB (L lo hi : Int) : Bool := leafB L lo && (List.range (L.toNat + 1)).any fun j => lo % 2 ^ j == 0 && hi + 1 == lo + 2 ^ j
def nodeV (L lo hi : Int) : Int := if nodeB L lo hi then (2 ^ L.toNat + lo) / (hi + 1 - lo) else 0
def upV (L lo : Int) (j : Nat) : Int := (2 ^ L.toNat + lo) / 2 ^ j
def hitB (lo hi : Int) (j : Nat) : Bool := lo % 2 ^ j == 0 && hi + 1 == lo + 2 ^ j
theorem up_rep {n x j : Nat} (hx : x < 2 ^ n) (hj : j ≤ n) : upV (n : Int) (x : Int) j = ((2 ^ (n - j) + x / 2 ^ j : Nat) : Int) ∧ x / 2 ^ j < 2 ^ (n - j) := by
  obtain ⟨e1, e2⟩ := prune_rep hx (show n - j ≤ n by omega)
  rw [show n - (n - j) = j by omega] at e1 e2
  refine ⟨?_, e2⟩
  unfold upV
  rw [Int.toNat_natCast]
  have hp : 0 < 2 ^ j := Nat.pow_pos (by omega)
  have hs : 2 ^ n = 2 ^ j * 2 ^ (n - j) := by rw [← Nat.pow_add]; congr 1; omega
  have : (2 ^ n + x) / 2 ^ j = 2 ^ (n - j) + x / 2 ^ j := by
    conv => lhs; rw [hs]
    rw [Nat.mul_add_div hp]
  have c1 : (2 : Int) ^ n = ((2 ^ n : Nat) : Int) := by simp
  have c2 : (2 : Int) ^ j = ((2 ^ j : Nat) : Int) := by simp
  rw [c1, c2]
  exact_mod_cast this
theorem up_ends {n x j : Nat} (hx : x < 2 ^ n) (hj : j ≤ n) : endsLo (n : Int) (upV (n : Int) (x : Int) j) = ((x / 2 ^ j * 2 ^ j : Nat) : Int) ∧ endsHi (n : Int) (upV (n : Int) (x : Int) j) = ((x / 2 ^ j * 2 ^ j : Nat) : Int) + 2 ^ j - 1 := by
  obtain ⟨e1, e2⟩ := up_rep hx hj
  rw [e1]
  obtain ⟨h1, h2⟩ := ends_rep (L := (n : Int)) e2 rfl
  rw [h1, h2, show n - (n - j) = j by omega]
  have hs : 2 ^ n = 2 ^ (n - j) * 2 ^ j := by rw [← Nat.pow_add]; congr 1; omega
  have c1 : (2 : Int) ^ n = ((2 ^ (n - j) * 2 ^ j : Nat) : Int) := by rw [← hs]; simp
  have c2 : (2 : Int) ^ j = ((2 ^ j : Nat) : Int) := by simp
  rw [c1, c2]
  have m1 : (((2 ^ (n - j) + x / 2 ^ j : Nat) : Int) * ((2 ^ j : Nat) : Int)) = ((2 ^ (n - j) * 2 ^ j + x / 2 ^ j * 2 ^ j : Nat) : Int) := by
    rw [← Int.natCast_mul, Nat.add_mul]
  have m2 : ((((2 ^ (n - j) + x / 2 ^ j : Nat) : Int) + 1) * ((2 ^ j : Nat) : Int)) = ((2 ^ (n - j) * 2 ^ j + x / 2 ^ j * 2 ^ j : Nat) : Int) + ((2 ^ j : Nat) : Int) := by
    rw [Int.add_mul, m1, Int.one_mul]
  rw [m1, m2]
  generalize 2 ^ (n - j) * 2 ^ j = A at *
  generalize x / 2 ^ j * 2 ^ j = B at *
  constructor <;> omega
theorem up_hit {n x j : Nat} (hi : Int) (hx : x < 2 ^ n) (hj : j ≤ n) : (endsLo (n : Int) (upV (n : Int) (x : Int) j) = (x : Int) ∧ endsHi (n : Int) (upV (n : Int) (x : Int) j) = hi) ↔ hitB (x : Int) hi j = true := by
  obtain ⟨h1, h2⟩ := up_ends hx hj
  rw [h1, h2]
  unfold hitB
  simp only [Bool.and_eq_true, beq_iff_eq]
  have c2 : (2 : Int) ^ j = ((2 ^ j : Nat) : Int) := by simp
  rw [c2]
  have hp : 0 < 2 ^ j := Nat.pow_pos (by omega)
  have hd := Nat.div_add_mod x (2 ^ j)
  rw [Nat.mul_comm] at hd
  have c3 : (x : Int) % ((2 ^ j : Nat) : Int) = ((x % 2 ^ j : Nat) : Int) := by simp
  rw [c3]
  generalize x / 2 ^ j * 2 ^ j = B at *
  generalize x % 2 ^ j = m at *
  generalize 2 ^ j = P at *
  constructor
  · rintro ⟨a, b⟩; constructor <;> omega
  · rintro ⟨a, b⟩; constructor <;> omega
theorem node_some {L lo hi : Int} {j : Nat} (hl : leafB L lo = true) (hj : j ≤ L.toNat) (h : hitB lo hi j = true) : nodeB L lo hi = true ∧ nodeV L lo hi = upV L lo j := by
  have hb : nodeB L lo hi = true := by
    unfold nodeB
    rw [hl, Bool.true_and, List.any_eq_true]
    exact ⟨j, List.mem_range.2 (by omega), h⟩
  refine ⟨hb, ?_⟩
  unfold nodeV upV
  rw [hb, if_pos rfl]
  simp only [hitB, Bool.and_eq_true, beq_iff_eq] at h
  rw [show hi + 1 - lo = 2 ^ j by omega]
theorem node_none {L lo hi : Int} (h : leafB L lo = false ∨ ∀ j, j ≤ L.toNat → hitB lo hi j = false) : nodeB L lo hi = false ∧ nodeV L lo hi = 0 := by
  have hb : nodeB L lo hi = false := by
    unfold nodeB
    rcases h with h | h
    · rw [h]; rfl
    · rw [Bool.and_eq_false_iff]; right
      rw [List.any_eq_false]
      intro j hj
      have := h j (by have := List.mem_range.1 hj; omega)
      unfold hitB at this
      rw [this]; simp
  exact ⟨hb, by unfold nodeV; rw [hb]; rfl⟩
theorem node_ends {L id : Int} (h : rightB L id = true) : nodeB L (endsLo L id) (endsHi L id) = true ∧ nodeV L (endsLo L id) (endsHi L id) = id := by
  obtain ⟨b1, b2, b3⟩ := right_pos1 h
  obtain ⟨d, i, rfl, hi, -⟩ := dep_rep b1
  obtain ⟨n, rfl⟩ := Int.eq_ofNat_of_zero_le (show 0 ≤ L by omega)
  rw [right_rep hi b2 b3] at h
  have hd := of_decide_eq_true h
  obtain ⟨h1, h2⟩ := ends_rep (L := (n : Int)) hi rfl
  have hs : 2 ^ n = 2 ^ d * 2 ^ (n - d) := by rw [← Nat.pow_add]; congr 1; omega
  have c1 : (2 : Int) ^ n = ((2 ^ d * 2 ^ (n - d) : Nat) : Int) := by rw [← hs]; simp
  have c2 : (2 : Int) ^ (n - d) = ((2 ^ (n - d) : Nat) : Int) := by simp
  have elo : endsLo (n : Int) ((2 ^ d + i : Nat) : Int) = ((i * 2 ^ (n - d) : Nat) : Int) := by
    rw [h1, c1, c2, ← Int.natCast_mul, Nat.add_mul]; omega
  have ehi : endsHi (n : Int) ((2 ^ d + i : Nat) : Int) + 1 = ((i * 2 ^ (n - d) : Nat) : Int) + 2 ^ (n - d) := by
    rw [h2, c1, c2, Int.add_mul, ← Int.natCast_mul, Nat.add_mul]; omega
  have hlt : i * 2 ^ (n - d) < 2 ^ n := by
    rw [hs]; exact Nat.mul_lt_mul_of_pos_right hi (Nat.pow_pos (by omega))
  have hleaf : leafB (n : Int) ((i * 2 ^ (n - d) : Nat) : Int) = true := by
    simp only [leafB, decide_eq_true_eq, Int.toNat_natCast]
    refine ⟨b2, b3, Int.natCast_nonneg _, ?_⟩
    have c3 : (2 : Int) ^ n = ((2 ^ n : Nat) : Int) := by simp
    rw [c3]; exact Int.ofNat_lt.2 hlt
  have hhit : hitB ((i * 2 ^ (n - d) : Nat) : Int) (endsHi (n : Int) ((2 ^ d + i : Nat) : Int)) (n - d) = true := by
    simp only [hitB, Bool.and_eq_true, beq_iff_eq]
    refine ⟨?_, ehi⟩
    rw [c2]
    have : (i * 2 ^ (n - d)) % 2 ^ (n - d) = 0 := Nat.mul_mod_left _ _
    exact_mod_cast this
  rw [elo]
  obtain ⟨k1, k2⟩ := node_some (hi := endsHi (n : Int) ((2 ^ d + i : Nat) : Int)) hleaf (show n - d ≤ (n : Int).toNat by simp) hhit
  refine ⟨k1, ?_⟩
  rw [k2, (up_rep hlt (show n - d ≤ n by omega)).1]
  have : i * 2 ^ (n - d) / 2 ^ (n - d) = i := Nat.mul_div_cancel _ (Nat.pow_pos (by omega))
  rw [this, show n - (n - d) = d by omega]
theorem node_meet {n x y k : Nat} (he : x / 2 ^ k = y / 2 ^ k) (hm : ∀ j, j < k → x / 2 ^ j ≠ y / 2 ^ j) : ∀ j, j ≤ n → hitB (x : Int) (y : Int) j = true → j = k := by
  intro j _ h
  simp only [hitB, Bool.and_eq_true, beq_iff_eq] at h
  have c2 : (2 : Int) ^ j = ((2 ^ j : Nat) : Int) := by simp
  rw [c2] at h
  obtain ⟨h1, h2⟩ := h
  have h1 : x % 2 ^ j = 0 := by exact_mod_cast h1
  have h2 : y + 1 = x + 2 ^ j := by exact_mod_cast h2
  have hp : 0 < 2 ^ j := Nat.pow_pos (by omega)
  have hd := Nat.div_add_mod x (2 ^ j)
  have ej : x / 2 ^ j = y / 2 ^ j := by
    symm
    refine (Nat.div_eq_iff hp).2 ⟨?_, ?_⟩
    · rw [Nat.mul_comm]; omega
    · rw [Nat.mul_comm]; omega
  by_cases hjk : j < k
  · exact absurd ej (hm j hjk)
  by_cases hkj : k < j
  · exfalso
    have hq : 0 < 2 ^ k := Nat.pow_pos (by omega)
    have hpk : 2 ^ (k + 1) ≤ 2 ^ j := Nat.pow_le_pow_right (by omega) (by omega)
    rw [Nat.pow_succ] at hpk
    have d1 := Nat.div_add_mod x (2 ^ k)
    have d2 := Nat.div_add_mod y (2 ^ k)
    rw [he] at d1
    have m1 := Nat.mod_lt x hq
    have m2 := Nat.mod_lt y hq
    have hxk : x % 2 ^ k = 0 := by
      have : 2 ^ k ∣ 2 ^ j := Nat.pow_dvd_pow 2 (by omega)
      exact Nat.mod_eq_zero_of_dvd (Nat.dvd_trans this (Nat.dvd_of_mod_eq_zero h1))
    omega
  · omega
end Sh
end Go.Proofs.YtlciofheonbkiaaGreat

/- The walks of twig.Ends, twig.Meet, sheet.Node and the reference's Node. -/
namespace Go.Proofs.YtlciofheonbkiaaGreat
set_option maxHeartbeats 8000000
set_option maxRecDepth 100000
open Go.RowKit Nl
theorem Sh.nat_rep {l id : Int} (h : rightB l id = true) : ∃ n d x : Nat, l = (n : Int) ∧ id = (x : Int) ∧ depV id = (d : Int) ∧ depOk id = true ∧ d ≤ n ∧ n ≤ 48 ∧ 1 ≤ n ∧ 2 ^ d ≤ x ∧ x < 2 ^ (d + 1) := by
  obtain ⟨b1, b2, b3⟩ := right_pos1 h
  obtain ⟨d, i, rfl, hi, hd⟩ := dep_rep b1
  obtain ⟨n, rfl⟩ := Int.eq_ofNat_of_zero_le (show 0 ≤ l by omega)
  rw [right_rep hi b2 b3] at h
  have h := of_decide_eq_true h
  refine ⟨n, d, 2 ^ d + i, rfl, rfl, hd, decide_eq_true b1, by omega, by omega, by omega, by omega, ?_⟩
  rw [Nat.pow_succ]; omega
theorem t_ends {l id : Int} (w : World) (h : rightB l id = true) :
    Calls Tryz.prog 67 #[.int .i64 l, .int .i64 id] w fun e w' => e = .returned (.tuple #[.int .i64 (endsLo l id), .int .i64 (endsHi l id), .bool true]) ∧ Below w.heap.size w w' := by
  obtain ⟨n, d, x, rfl, rfl, hd, hok, hdn, hn, hn1, hx1, hx2⟩ := Sh.nat_rep h
  obtain ⟨p1, p2⟩ := pow48 (n := d) (by omega)
  obtain ⟨m, em⟩ : ∃ m, n - d = m := ⟨_, rfl⟩
  obtain ⟨q1, q2⟩ := pow48 (n := m) (by omega)
  have hxb : (x : Int) < 562949953421312 := by
    have h1 : (2 : Nat) ^ (d + 1) ≤ 2 ^ 49 := Nat.pow_le_pow_right (by omega) (by omega)
    have h2 : (2 : Nat) ^ 49 = 562949953421312 := rfl
    omega
  have Rt0 := twig_right (n : Int) (x : Int) w (by omega) (by omega) (by omega) (by omega)
  rw [h] at Rt0
  have Rt := hid Rt0
  have Dp := hid (t_depth (x : Int) w ⟨by omega, by omega⟩)
  rw [hd, hok] at Dp
  have hsub : IntKind.i64.wrap ((n : Int) - (d : Int)) = (m : Int) := by rw [IntWalk.i64_in _ ⟨by omega, by omega⟩]; omega
  have hsub2 : wrap64 ((n : Int) - (d : Int)) = (m : Int) := by rw [IntWalk.wrap64_in _ ⟨by omega, by omega⟩]; omega
  have hs : 2 ^ n = 2 ^ d * 2 ^ m := by rw [← Nat.pow_add]; congr 1; omega
  have hlo : endsLo (n : Int) (x : Int) = ((x : Int) - 2 ^ d) * 2 ^ m := by
    unfold endsLo depN
    rw [hd, Int.toNat_natCast, Int.toNat_natCast, em, Int.sub_mul]
    have : (2 : Int) ^ n = 2 ^ d * 2 ^ m := by exact_mod_cast hs
    rw [this]
  have hhi : endsHi (n : Int) (x : Int) = ((x : Int) - 2 ^ d) * 2 ^ m + 2 ^ m - 1 := by
    unfold endsHi depN
    rw [hd, Int.toNat_natCast, Int.toNat_natCast, em, Int.sub_mul, Int.add_mul]
    have : (2 : Int) ^ n = 2 ^ d * 2 ^ m := by exact_mod_cast hs
    rw [this]; omega
  have hb : 0 ≤ ((x : Int) - 2 ^ d) * 2 ^ m ∧ ((x : Int) - 2 ^ d) * 2 ^ m < 281474976710656 := by
    have c1 : (2 : Int) ^ d = ((2 ^ d : Nat) : Int) := by simp
    have c2 : (2 : Int) ^ m = ((2 ^ m : Nat) : Int) := by simp
    have h1 : ((x : Int) - 2 ^ d) = ((x - 2 ^ d : Nat) : Int) := by rw [c1]; omega
    rw [h1, c2, ← Int.natCast_mul]
    have h2 : (x - 2 ^ d) * 2 ^ m < 2 ^ n := by
      rw [hs]; exact Nat.mul_lt_mul_of_pos_right (by rw [Nat.pow_succ] at hx2; omega) (Nat.pow_pos (by omega))
    have h3 : 2 ^ n ≤ 2 ^ 48 := Nat.pow_le_pow_right (by omega) hn
    have h4 : (2 : Nat) ^ 48 = 281474976710656 := rfl
    omega
  have hm48 : m ≤ 48 := by omega
  have hd48 : d ≤ 48 := by omega
  have HLO := hid hlo
  have HHI := hid hhi
  have hx0 : (0 : Int) ≤ (x : Int) := Int.natCast_nonneg _
  have hx3 : (2 : Int) ^ d ≤ (x : Int) := by
    have c1 : (2 : Int) ^ d = ((2 ^ d : Nat) : Int) := by simp
    rw [c1]; omega
  clear h hd hok hlo hhi hs em hx1 hx2 Rt0
  generalize (x : Int) = X at *
  obtain ⟨b1, b2⟩ := hb
  have hw1 : IntKind.i64.wrap (X - 2 ^ d) = X - 2 ^ d := IntWalk.i64_in _ ⟨by omega, by omega⟩
  have hw2 : IntKind.i64.wrap ((X - 2 ^ d) * 2 ^ m) = (X - 2 ^ d) * 2 ^ m := IntWalk.i64_in _ ⟨by omega, by omega⟩
  have hw3 : IntKind.i64.wrap ((X - 2 ^ d) * 2 ^ m + 2 ^ m) = (X - 2 ^ d) * 2 ^ m + 2 ^ m := IntWalk.i64_in _ ⟨by omega, by omega⟩
  have hw4 : IntKind.i64.wrap ((X - 2 ^ d) * 2 ^ m + 2 ^ m - 1) = (X - 2 ^ d) * 2 ^ m + 2 ^ m - 1 := IntWalk.i64_in _ ⟨by omega, by omega⟩
  go_enter Tryz.func67, Tryz.ntmps67
  go_wp2_with fail
  refine Rt.out.mono ?_
  rintro e w' ⟨rfl, rfl⟩
  go_wp2_with fail
  refine Dp.out.mono ?_
  rintro e w' ⟨rfl, rfl⟩
  go_wp2_with fail
  go_region
  go_wp2_with fail
  go_ret3
  exact ⟨by rw [HLO.out, HHI.out]; rfl, below_drewN (Below.refl _ _) 1⟩
def MeetPost (n x y : Nat) (w : World) (e : Ending) (w' : World) : Prop := ∃ k, k ≤ n ∧ x / 2 ^ k = y / 2 ^ k ∧ (∀ j, j < k → x / 2 ^ j ≠ y / 2 ^ j) ∧ e = .returned (.tuple #[.int .i64 (Sh.upV (n : Int) (x : Int) k), .bool true]) ∧ w = w'
def MeetRel (n x y : Nat) (a b : Value) : Prop := ∃ j, j ≤ n ∧ Hid (∀ i, i < j → x / 2 ^ i ≠ y / 2 ^ i) ∧ a = .int .i64 (Sh.upV (n : Int) (x : Int) j) ∧ b = .int .i64 (Sh.upV (n : Int) (y : Int) j)
theorem Sh.up_step (n x j : Nat) : Sh.upV (n : Int) (x : Int) (j + 1) = Sh.upV (n : Int) (x : Int) j / 2 := by
  unfold Sh.upV
  rw [Int.ediv_ediv_of_nonneg (Int.le_of_lt (Int.pow_pos (by omega))), Int.pow_succ]
theorem Sh.up_eq {n x y j : Nat} (hx : x < 2 ^ n) (hy : y < 2 ^ n) (hj : j ≤ n) : Sh.upV (n : Int) (x : Int) j = Sh.upV (n : Int) (y : Int) j ↔ x / 2 ^ j = y / 2 ^ j := by
  rw [(Sh.up_rep hx hj).1, (Sh.up_rep hy hj).1]
  constructor
  · intro h; omega
  · intro h; rw [h]
theorem Sh.up_bd {n x j : Nat} (hx : x < 2 ^ n) (hj : j ≤ n) (hn : n ≤ 48) : 1 ≤ Sh.upV (n : Int) (x : Int) j ∧ Sh.upV (n : Int) (x : Int) j < 562949953421312 := by
  obtain ⟨h1, h2⟩ := Sh.up_rep hx hj
  rw [h1]
  have h3 : 2 ^ (n - j) ≤ 2 ^ 48 := Nat.pow_le_pow_right (by omega) (by omega)
  have h4 : (2 : Nat) ^ 48 = 281474976710656 := rfl
  have h5 : 1 ≤ 2 ^ (n - j) := Nat.one_le_two_pow
  generalize 2 ^ (n - j) = p at *
  generalize x / 2 ^ j = q at *
  omega
theorem t_meet {n x y : Nat} (w : World) (hx : x < 2 ^ n) (hy : y < 2 ^ n) (hn : n ≤ 48) :
    Calls Tryz.prog 223 #[.int .i64 (Sh.upV (n : Int) (x : Int) 0), .int .i64 (Sh.upV (n : Int) (y : Int) 0)] w (MeetPost n x y w) := by
  have ex : Sh.upV (n : Int) (x : Int) 0 = ((2 ^ n + x : Nat) : Int) := by rw [(Sh.up_rep hx (Nat.zero_le n)).1]; simp
  have ey : Sh.upV (n : Int) (y : Int) 0 = ((2 ^ n + y : Nat) : Int) := by rw [(Sh.up_rep hy (Nat.zero_le n)).1]; simp
  have bx := Sh.up_bd hx (Nat.zero_le n) hn
  have bY := Sh.up_bd hy (Nat.zero_le n) hn
  have D1 := hid (t_depth (Sh.upV (n : Int) (x : Int) 0) w ⟨by omega, by omega⟩)
  have D2 := hid (t_depth (Sh.upV (n : Int) (y : Int) 0) w ⟨by omega, by omega⟩)
  have o1 : depOk (Sh.upV (n : Int) (x : Int) 0) = true := decide_eq_true bx.1
  have o2 : depOk (Sh.upV (n : Int) (y : Int) 0) = true := decide_eq_true bY.1
  have v1 : depV (Sh.upV (n : Int) (x : Int) 0) = (n : Int) := by rw [ex]; exact dep_two hx
  have v2 : depV (Sh.upV (n : Int) (y : Int) 0) = (n : Int) := by rw [ey]; exact dep_two hy
  rw [o1, v1] at D1
  rw [o2, v2] at D2
  have R0 : Hid (MeetRel n x y (.int .i64 (Sh.upV (n : Int) (x : Int) 0)) (.int .i64 (Sh.upV (n : Int) (y : Int) 0))) := ⟨0, Nat.zero_le _, (fun i hi => absurd hi (by omega)), rfl, rfl⟩
  have hz : IntKind.i64.wrap ((n : Int) - (n : Int)) = 0 := by simp; rfl
  clear ex ey o1 o2 v1 v2
  go_enter Tryz.func223, Tryz.ntmps223
  go_wp2_with fail
  refine D1.out.mono ?_
  rintro e w' ⟨rfl, rfl⟩
  go_wp2_with fail
  refine D2.out.mono ?_
  rintro e w' ⟨rfl, rfl⟩
  clear bx bY
  go_wp2_with fail
  go_loop [0, 1] (fun a b => MeetRel n x y a b) (fun a _ => (intOf a).toNat)
  case atStart => exact R0.out
  case round =>
    obtain ⟨j, hj, hne, rfl, rfl⟩ := hrel
    have q := Sh.up_eq hx hy hj
    have sx := Sh.up_step n x j
    have sy := Sh.up_step n y j
    obtain ⟨a1, a2⟩ := Sh.up_bd hx hj hn
    obtain ⟨b1, b2⟩ := Sh.up_bd hy hj hn
    have HX := hid sx
    have HY := hid sy
    have Q := hid q
    have top : j = n → x / 2 ^ j = y / 2 ^ j := fun e => by
      subst e; rw [Nat.div_eq_of_lt hx, Nat.div_eq_of_lt hy]
    have TOP := hid top
    have FIN := hid (show x / 2 ^ j = y / 2 ^ j → MeetPost n x y w (.returned (.tuple #[.int .i64 (Sh.upV (n : Int) (x : Int) j), .bool true])) w from fun h => ⟨j, hj, h, hne.out, rfl, rfl⟩)
    clear q sx sy top
    generalize Sh.upV (n : Int) (x : Int) j = u at *
    generalize Sh.upV (n : Int) (y : Int) j = v at *
    by_cases huv : u = v
    · have e := FIN.out (Q.out.1 huv)
      clear Q FIN
      subst huv
      have hq : (u != u) = false := by simp
      go_wp2_with fail
      go_ret2
      exact e
    · have e : ¬ x / 2 ^ j = y / 2 ^ j := fun h => huv (Q.out.2 h)
      have hq : (u != v) = true := by simpa using huv
      have E := hid e
      have hjn : j < n := by
        by_cases q : j = n
        · exact absurd (TOP.out q) e
        · omega
      clear Q e huv FIN
      go_wp2_with fail
      go_round
      case rel => exact ⟨j + 1, by omega, (fun i hi => by
        by_cases h : i = j
        · rw [h]; exact E.out
        · exact hne.out i (by omega)), by rw [HX.out], by rw [HY.out]⟩
      case measure => simp [intOf]; omega
end Go.Proofs.YtlciofheonbkiaaGreat
