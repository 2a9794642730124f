/- Texts laid together: RcMath, RcMath2. -/
import Derived.Test.YthdljlclcepnhaaGreatMM
import Derived.Test.YthdljlclcepnhaaGreatBG
/- Nodes that move to another universe (no program in sight). -/
namespace Go.Proofs.YthdljlclcepnhaaGreat
open Go.RowKit
namespace Nl

/-- Nodes that move. -/
def moveL (f : Int → Int) (zs : List (Int × Int)) : List (Int × Int) := zs.map fun x => (f x.1, x.2)
/-- Nodes that move, and are folded. -/
def movedL (f : Int → Int) (zs : List (Int × Int)) : List (Int × Int) := (foldL (moveL f zs)).getD []
theorem gsum_move (g : Int → Int → Int) (f : Int → Int) (zs : List (Int × Int)) : gsum g (moveL f zs) = gsum (fun i c => g (f i) c) zs := by
  induction zs with
  | nil => rfl
  | cons x r ih => simp only [moveL, List.map_cons, gsum] at ih ⊢; rw [ih]
theorem move_len (f : Int → Int) (zs : List (Int × Int)) : (moveL f zs).length = zs.length := List.length_map ..
theorem move_sum (f : Int → Int) (zs : List (Int × Int)) : sumL (moveL f zs) = sumL zs := by
  rw [← gsum_sum, ← gsum_sum, gsum_move]
theorem move_mem {f : Int → Int} {zs : List (Int × Int)} {y : Int × Int} (h : y ∈ moveL f zs) : ∃ x ∈ zs, y = (f x.1, x.2) := by
  obtain ⟨x, hx, e⟩ := List.mem_map.1 h
  exact ⟨x, hx, e.symm⟩
theorem eqF_add (id : Int) : ∀ i a b, eqF id i (a + b) = eqF id i a + eqF id i b := fun i a b => by unfold eqF; split <;> omega

/-- A digest whose nodes move is a digest, if leaves come of what is no parent. -/
theorem moved_spec {l l' k : Int} {zs : List (Int × Int)} (d : Dg l k zs) (f : Int → Int) (h1 : 1 ≤ l') (h2 : l' ≤ 48) (hf : ∀ id, rightB l id = true → rightB l' (f id) = true)
    (hk : ∀ id, kidsB l' id = true → ∃ id0, kidsB l id0 = true ∧ ∀ i, rightB l i = true → f i = id → i = id0) :
    foldL (moveL f zs) = some (movedL f zs) ∧ Dg l' k (movedL f zs) ∧ (movedL f zs).length ≤ zs.length ∧ sumL (movedL f zs) = sumL zs ∧
      ∀ g : Int → Int → Int, (∀ i a b, g i (a + b) = g i a + g i b) → gsum g (movedL f zs) = gsum (fun i c => g (f i) c) zs := by
  have hr := d.roll
  obtain ⟨Z, z1, z2, z3, z4, z5⟩ := foldL_spec (xs := moveL f zs) (fun y hy => by
    obtain ⟨x, hx, rfl⟩ := move_mem hy
    have a := hf _ (hr.ids x hx)
    have b := hr.strict.2 x hx
    simp only [rightB, decide_eq_true_eq] at a
    exact ⟨a.2.2.1, b.2⟩) (by rw [move_sum]; exact hr.most)
  have e : movedL f zs = Z := by unfold movedL; rw [z1]; rfl
  rw [e]
  rw [move_len] at z4
  have z6 : ∀ g : Int → Int → Int, (∀ i a b, g i (a + b) = g i a + g i b) → gsum g Z = gsum (fun i c => g (f i) c) zs := fun g hg => by rw [z5 g hg, gsum_move]
  have hsum : sumL Z = sumL zs := by
    rw [← gsum_sum, ← gsum_sum]; exact z6 (fun _ c => c) (fun _ _ _ => rfl)
  have hroll : Roll l' Z := ⟨h1, h2, z2, by have := hr.most; omega, fun z hz => by
    obtain ⟨y, hy, e⟩ := z3 z hz
    obtain ⟨x, hx, rfl⟩ := move_mem hy
    rw [← e]
    exact hf _ (hr.ids x hx)⟩
  refine ⟨z1, ⟨hroll, d.k1, d.k2, ?_, by have := d.room; omega⟩, z4, hsum, z6⟩
  rw [hsum]
  have hc := cap_nn (sumL zs) k
  simp only [lightB, List.all_eq_true, Bool.not_eq_true']
  intro z hz
  cases hkz : kidsB l' z.1
  · simp [heavyB, hkz]
  obtain ⟨id0, hk0, hi⟩ := hk _ hkz
  have e1 : findL z.1 Z = z.2 := strict_at z2 hz
  rw [← gsum_find z2, z6 _ (eqF_add z.1)] at e1
  have e2 : gsum (fun i c => eqF z.1 (f i) c) zs ≤ gsum (eqF id0) zs := gsum_le (fun x hx => by
    have hx2 := (hr.strict.2 x hx).2
    unfold eqF
    by_cases q : f x.1 = z.1
    · rw [if_pos q, if_pos (hi _ (hr.ids x hx) q)]; omega
    · rw [if_neg q]; split <;> omega)
  rw [gsum_find hr.strict] at e2
  have e3 := light_find d.light hc hk0
  simp only [heavyB, hkz, Bool.true_and, decide_eq_false_iff_not]
  omega

/-! Graft and Prune. -/
theorem dep_rep {id : Int} (h : 1 ≤ id) : ∃ d i : Nat, id = ((2 ^ d + i : Nat) : Int) ∧ i < 2 ^ d ∧ depV id = (d : Int) := by
  obtain ⟨n, rfl⟩ := Int.eq_ofNat_of_zero_le (show 0 ≤ id by omega)
  obtain ⟨d1, d2, d3⟩ := dep_pow (i := n) (by omega)
  refine ⟨depN (n : Int), n - 2 ^ depN (n : Int), ?_, ?_, d1⟩
  · have : n = 2 ^ depN (n : Int) + (n - 2 ^ depN (n : Int)) := by omega
    exact_mod_cast this
  · rw [Nat.pow_succ] at d3; omega
theorem dep_two {d i : Nat} (h : i < 2 ^ d) : depV ((2 ^ d + i : Nat) : Int) = (d : Int) := by
  have h1 : 1 ≤ 2 ^ d := Nat.one_le_two_pow
  obtain ⟨e, j, h2, h3, h4⟩ := dep_rep (id := ((2 ^ d + i : Nat) : Int)) (by omega)
  have h5 : 2 ^ d + i = 2 ^ e + j := by exact_mod_cast h2
  have a1 : 2 ^ d < 2 ^ (e + 1) := by rw [Nat.pow_succ]; omega
  have a2 : 2 ^ e < 2 ^ (d + 1) := by rw [Nat.pow_succ]; omega
  have a3 := (Nat.pow_lt_pow_iff_right (a := 2) (by omega)).1 a1
  have a4 := (Nat.pow_lt_pow_iff_right (a := 2) (by omega)).1 a2
  rw [h4]
  have : d = e := by omega
  rw [this]
theorem rep_eq {d e i j : Nat} (hi : i < 2 ^ d) (hj : j < 2 ^ e) (h : ((2 ^ d + i : Nat) : Int) = ((2 ^ e + j : Nat) : Int)) : d = e ∧ i = j := by
  have a := dep_two hi
  rw [h, dep_two hj] at a
  have e1 : e = d := by omega
  subst e1
  exact ⟨rfl, by omega⟩
/-- The node of the same number, so many bits deeper. -/
def graftV (by_ id : Int) : Int := id - 2 ^ depN id + 2 ^ (depN id + by_.toNat)
/-- The node, or the one above it at a depth. -/
def pruneV (t id : Int) : Int := id / 2 ^ (depN id - t.toNat)
theorem graft_rep {by_ : Nat} {d i : Nat} (h : i < 2 ^ d) : graftV (by_ : Int) ((2 ^ d + i : Nat) : Int) = ((2 ^ (d + by_) + i : Nat) : Int) := by
  have e : depN ((2 ^ d + i : Nat) : Int) = d := by unfold depN; rw [dep_two h]; simp
  unfold graftV
  rw [e, Int.toNat_natCast]
  have c1 : (2 : Int) ^ d = ((2 ^ d : Nat) : Int) := by simp
  have c2 : (2 : Int) ^ (d + by_) = ((2 ^ (d + by_) : Nat) : Int) := by simp
  rw [c1, c2]; omega
theorem prune_rep {t : Nat} {d i : Nat} (h : i < 2 ^ d) (ht : t ≤ d) : pruneV (t : Int) ((2 ^ d + i : Nat) : Int) = ((2 ^ t + i / 2 ^ (d - t) : Nat) : Int) ∧ i / 2 ^ (d - t) < 2 ^ t := by
  have e : depN ((2 ^ d + i : Nat) : Int) = d := by unfold depN; rw [dep_two h]; simp
  unfold pruneV
  rw [e, Int.toNat_natCast]
  have hp : 0 < 2 ^ (d - t) := Nat.pow_pos (by omega)
  have hs : 2 ^ d = 2 ^ t * 2 ^ (d - t) := by rw [← Nat.pow_add]; congr 1; omega
  have c1 : (2 : Int) ^ (d - t) = ((2 ^ (d - t) : Nat) : Int) := by simp
  constructor
  · rw [c1]
    have : (2 ^ d + i) / 2 ^ (d - t) = 2 ^ t + i / 2 ^ (d - t) := by
      rw [hs, Nat.mul_comm (2 ^ t), Nat.mul_add_div hp]
    exact_mod_cast this
  · exact (Nat.div_lt_iff_lt_mul hp).2 (by rw [← hs]; exact h)
theorem prune_low {t : Nat} {d i : Nat} (h : i < 2 ^ d) (ht : d ≤ t) : pruneV (t : Int) ((2 ^ d + i : Nat) : Int) = ((2 ^ d + i : Nat) : Int) := by
  have e : depN ((2 ^ d + i : Nat) : Int) = d := by unfold depN; rw [dep_two h]; simp
  unfold pruneV
  rw [e, Int.toNat_natCast, show d - t = 0 by omega]
  simp
theorem right_rep {l : Int} {d i : Nat} (h : i < 2 ^ d) (h1 : 1 ≤ l) (h2 : l ≤ 48) : rightB l ((2 ^ d + i : Nat) : Int) = decide ((d : Int) ≤ l) := by
  have hp : 1 ≤ 2 ^ d := Nat.one_le_two_pow
  rw [rightB_dep ⟨h1, h2⟩ (by omega), dep_two h]
theorem kids_rep {l : Int} {d i : Nat} (h : i < 2 ^ d) (h1 : 1 ≤ l) (h2 : l ≤ 48) : kidsB l ((2 ^ d + i : Nat) : Int) = decide ((d : Int) < l) := by
  unfold kidsB
  rw [right_rep h h1 h2]
  obtain ⟨n, rfl⟩ := Int.eq_ofNat_of_zero_le (show 0 ≤ l by omega)
  have c1 : (2 : Int) ^ (n : Int).toNat = ((2 ^ n : Nat) : Int) := by simp
  rw [c1]
  by_cases q : d < n
  · have hm : 2 ^ (d + 1) ≤ 2 ^ n := Nat.pow_le_pow_right (by omega) (by omega)
    rw [Nat.pow_succ] at hm
    rw [decide_eq_true (p := (d : Int) ≤ (n : Int)) (by omega), decide_eq_true (p := ((2 ^ d + i : Nat) : Int) < ((2 ^ n : Nat) : Int)) (by omega), decide_eq_true (p := (d : Int) < (n : Int)) (by omega)]; rfl
  · have hm : 2 ^ n ≤ 2 ^ d := Nat.pow_le_pow_right (by omega) (by omega)
    rw [decide_eq_false (p := ((2 ^ d + i : Nat) : Int) < ((2 ^ n : Nat) : Int)) (by omega), decide_eq_false (p := (d : Int) < (n : Int)) (by omega)]; simp
theorem right_pos1 {l id : Int} (h : rightB l id = true) : 1 ≤ id ∧ 1 ≤ l ∧ l ≤ 48 := by
  simp only [rightB, decide_eq_true_eq] at h; omega
theorem kids_right1 {l id : Int} (h : kidsB l id = true) : rightB l id = true := by
  simp only [kidsB, Bool.and_eq_true] at h; exact h.1
theorem graft_right {l id by_ : Int} (hb : 0 ≤ by_) (hl : l + by_ ≤ 48) (h : rightB l id = true) : rightB (l + by_) (graftV by_ id) = true := by
  obtain ⟨b1, b2, b3⟩ := right_pos1 h
  obtain ⟨d, i, rfl, hi, -⟩ := dep_rep b1
  obtain ⟨n, rfl⟩ := Int.eq_ofNat_of_zero_le hb
  rw [right_rep hi b2 b3] at h
  have h := of_decide_eq_true h
  have hm : 2 ^ d ≤ 2 ^ (d + n) := Nat.pow_le_pow_right (by omega) (by omega)
  rw [graft_rep hi, right_rep (by omega) (by omega) hl]
  exact decide_eq_true (by omega)
theorem graft_kids {l id by_ : Int} (hb : 0 ≤ by_) (hl : l + by_ ≤ 48) (h1 : 1 ≤ l) : kidsB (l + by_) id = true → ∃ id0, kidsB l id0 = true ∧ ∀ i, rightB l i = true → graftV by_ i = id → i = id0 := by
  intro hk
  obtain ⟨n, rfl⟩ := Int.eq_ofNat_of_zero_le hb
  by_cases hx : ∃ i, rightB l i = true ∧ graftV (n : Int) i = id
  · obtain ⟨i0, hr, e⟩ := hx
    obtain ⟨b1, b2, b3⟩ := right_pos1 hr
    obtain ⟨d, i, rfl, hi, -⟩ := dep_rep b1
    have hm : 2 ^ d ≤ 2 ^ (d + n) := Nat.pow_le_pow_right (by omega) (by omega)
    rw [graft_rep hi] at e
    rw [← e, kids_rep (by omega) (by omega) hl] at hk
    have hk := of_decide_eq_true hk
    refine ⟨_, by rw [kids_rep hi b2 b3]; exact decide_eq_true (by omega), fun j hj ej => ?_⟩
    obtain ⟨c1, c2, c3⟩ := right_pos1 hj
    obtain ⟨d', i', rfl, hi', -⟩ := dep_rep c1
    have hm' : 2 ^ d' ≤ 2 ^ (d' + n) := Nat.pow_le_pow_right (by omega) (by omega)
    rw [graft_rep hi', ← e] at ej
    obtain ⟨q1, q2⟩ := rep_eq (by omega) (by omega) ej
    have : d' = d := by omega
    subst this; subst q2; rfl
  · refine ⟨((2 ^ 0 + 0 : Nat) : Int), by rw [kids_rep (by simp) h1 (by omega)]; exact decide_eq_true (by omega), fun j hj ej => absurd ⟨j, hj, ej⟩ hx⟩
theorem prune_right {l id t : Int} (ht : 1 ≤ t) (hl : t ≤ l) (h : rightB l id = true) : rightB t (pruneV t id) = true := by
  obtain ⟨b1, b2, b3⟩ := right_pos1 h
  obtain ⟨d, i, rfl, hi, -⟩ := dep_rep b1
  obtain ⟨n, rfl⟩ := Int.eq_ofNat_of_zero_le (show 0 ≤ t by omega)
  by_cases q : n ≤ d
  · obtain ⟨e1, e2⟩ := prune_rep hi q
    rw [e1, right_rep e2 ht (by omega)]
    exact decide_eq_true (by omega)
  · rw [prune_low hi (by omega), right_rep hi ht (by omega)]
    exact decide_eq_true (by omega)
theorem prune_kids {l id t : Int} (ht : 1 ≤ t) (hl : t ≤ l) (h3 : l ≤ 48) (hk : kidsB t id = true) : kidsB l id = true ∧ ∀ i, rightB l i = true → pruneV t i = id → i = id := by
  obtain ⟨b1, b2, b3⟩ := right_pos1 (kids_right1 hk)
  obtain ⟨d, i, rfl, hi, -⟩ := dep_rep b1
  obtain ⟨n, rfl⟩ := Int.eq_ofNat_of_zero_le (show 0 ≤ t by omega)
  rw [kids_rep hi b2 b3] at hk
  have hk := of_decide_eq_true hk
  refine ⟨by rw [kids_rep hi (by omega) h3]; exact decide_eq_true (by omega), fun j hj ej => ?_⟩
  obtain ⟨c1, c2, c3⟩ := right_pos1 hj
  obtain ⟨d', i', rfl, hi', -⟩ := dep_rep c1
  by_cases q : n ≤ d'
  · obtain ⟨e1, e2⟩ := prune_rep hi' q
    rw [e1] at ej
    obtain ⟨q1, q2⟩ := rep_eq e2 hi ej
    omega
  · rw [prune_low hi' (by omega)] at ej; exact ej
/-- Grown. -/
def growL (by_ : Int) (zs : List (Int × Int)) : List (Int × Int) := movedL (graftV by_) zs
/-- Coarsened to a depth. -/
def coarL (t : Int) (zs : List (Int × Int)) : List (Int × Int) := movedL (pruneV t) zs
theorem grow_spec {l k by_ : Int} {zs : List (Int × Int)} (d : Dg l k zs) (hb : 0 ≤ by_) (hl : l + by_ ≤ 48) :
    foldL (moveL (graftV by_) zs) = some (growL by_ zs) ∧ Dg (l + by_) k (growL by_ zs) ∧ (growL by_ zs).length ≤ zs.length ∧ sumL (growL by_ zs) = sumL zs ∧
      ∀ g : Int → Int → Int, (∀ i a b, g i (a + b) = g i a + g i b) → gsum g (growL by_ zs) = gsum (fun i c => g (graftV by_ i) c) zs :=
  moved_spec d _ (by have := d.roll.l1; omega) hl (fun _ h => graft_right hb hl h) (fun _ h => graft_kids hb hl d.roll.l1 h)
theorem coar_spec {l k t : Int} {zs : List (Int × Int)} (d : Dg l k zs) (ht : 1 ≤ t) (hl : t ≤ l) :
    foldL (moveL (pruneV t) zs) = some (coarL t zs) ∧ Dg t k (coarL t zs) ∧ (coarL t zs).length ≤ zs.length ∧ sumL (coarL t zs) = sumL zs ∧
      ∀ g : Int → Int → Int, (∀ i a b, g i (a + b) = g i a + g i b) → gsum g (coarL t zs) = gsum (fun i c => g (pruneV t i) c) zs :=
  moved_spec d _ ht (by have := d.roll.l2; omega) (fun _ h => prune_right ht hl h) (fun _ h => ⟨_, prune_kids ht hl d.roll.l2 h⟩)
end Nl
end Go.Proofs.YthdljlclcepnhaaGreat

/- What moved nodes stand for, and moves in two steps (no program in sight). -/
namespace Go.Proofs.YthdljlclcepnhaaGreat
open Go.RowKit
namespace Nl

theorem strict_mem {zs : List (Int × Int)} (h : Strict zs) (z : Int × Int) : z ∈ zs ↔ (0 < z.2 ∧ findL z.1 zs = z.2) := by
  constructor
  · intro hz; exact ⟨(h.2 z hz).2, strict_at h hz⟩
  · rintro ⟨h0, h1⟩
    have := find_in (zs := zs) (id := z.1) (by omega)
    rw [h1] at this
    exact this
theorem find_ext {A B : List (Int × Int)} (hA : Strict A) (hB : Strict B) (h : ∀ id, findL id A = findL id B) : A = B :=
  strict_ext hA hB (fun z => by rw [strict_mem hA, strict_mem hB, h])

theorem graft_two {l id : Int} {a b : Int} (ha : 0 ≤ a) (hb : 0 ≤ b) (h : rightB l id = true) : graftV b (graftV a id) = graftV (a + b) id := by
  obtain ⟨b1, b2, b3⟩ := right_pos1 h
  obtain ⟨d, i, rfl, hi, -⟩ := dep_rep b1
  obtain ⟨n, rfl⟩ := Int.eq_ofNat_of_zero_le ha
  obtain ⟨m, rfl⟩ := Int.eq_ofNat_of_zero_le hb
  have hm : 2 ^ d ≤ 2 ^ (d + n) := Nat.pow_le_pow_right (by omega) (by omega)
  have e : ((n : Int) + (m : Int)) = ((n + m : Nat) : Int) := by omega
  rw [graft_rep hi, graft_rep (by omega), e, graft_rep hi]
  have : d + n + m = d + (n + m) := by omega
  rw [this]
theorem prune_two {l id t u : Int} (hu : 1 ≤ u) (ht : u ≤ t) (h : rightB l id = true) : pruneV u (pruneV t id) = pruneV u id := by
  obtain ⟨b1, b2, b3⟩ := right_pos1 h
  obtain ⟨d, i, rfl, hi, -⟩ := dep_rep b1
  obtain ⟨n, rfl⟩ := Int.eq_ofNat_of_zero_le (show 0 ≤ t by omega)
  obtain ⟨m, rfl⟩ := Int.eq_ofNat_of_zero_le (show 0 ≤ u by omega)
  by_cases q : n ≤ d
  · obtain ⟨e1, e2⟩ := prune_rep hi q
    obtain ⟨e3, -⟩ := prune_rep e2 (show m ≤ n by omega)
    obtain ⟨e5, -⟩ := prune_rep hi (show m ≤ d by omega)
    rw [e1, e3, e5, Nat.div_div_eq_div_mul, ← Nat.pow_add]
    have : d - n + (n - m) = d - m := by omega
    rw [this]
  · rw [prune_low hi (by omega)]
theorem grow_two {l k a b : Int} {zs : List (Int × Int)} (d : Dg l k zs) (ha : 0 ≤ a) (hb : 0 ≤ b) (hl : l + a + b ≤ 48) : growL b (growL a zs) = growL (a + b) zs := by
  obtain ⟨-, d1, -, -, g1⟩ := grow_spec d ha (by omega)
  obtain ⟨-, d2, -, -, g2⟩ := grow_spec d1 hb hl
  obtain ⟨-, d3, -, -, g3⟩ := grow_spec d (show 0 ≤ a + b by omega) (by omega)
  refine find_ext d2.roll.strict d3.roll.strict (fun id => ?_)
  rw [← gsum_find d2.roll.strict, ← gsum_find d3.roll.strict, g2 _ (eqF_add id), g1 _ (fun i x y => eqF_add id _ x y), g3 _ (eqF_add id)]
  exact gsum_congr (fun x hx => by simp only [graft_two ha hb (d.roll.ids x hx)])
theorem coar_two {l k t u : Int} {zs : List (Int × Int)} (d : Dg l k zs) (hu : 1 ≤ u) (ht : u ≤ t) (hl : t ≤ l) : coarL u (coarL t zs) = coarL u zs := by
  obtain ⟨-, d1, -, -, g1⟩ := coar_spec d (show 1 ≤ t by omega) hl
  obtain ⟨-, d2, -, -, g2⟩ := coar_spec d1 hu ht
  obtain ⟨-, d3, -, -, g3⟩ := coar_spec d hu (show u ≤ l by omega)
  refine find_ext d2.roll.strict d3.roll.strict (fun id => ?_)
  rw [← gsum_find d2.roll.strict, ← gsum_find d3.roll.strict, g2 _ (eqF_add id), g1 _ (fun i x y => eqF_add id _ x y), g3 _ (eqF_add id)]
  exact gsum_congr (fun x hx => by simp only [prune_two hu ht (d.roll.ids x hx)])

theorem above_rep {e i d j : Nat} (hi : i < 2 ^ e) (hj : j < 2 ^ d) : aboveB ((2 ^ e + i : Nat) : Int) ((2 ^ d + j : Nat) : Int) = decide (e ≤ d ∧ j / 2 ^ (d - e) = i) := by
  have p1 : 1 ≤ 2 ^ e := Nat.one_le_two_pow
  have p2 : 1 ≤ 2 ^ d := Nat.one_le_two_pow
  have key := above_iff (a := ((2 ^ e + i : Nat) : Int)) (b := ((2 ^ d + j : Nat) : Int)) (by omega)
  have cast : ∀ n : Nat, ((2 ^ d + j : Nat) : Int) / 2 ^ n = (((2 ^ d + j) / 2 ^ n : Nat) : Int) := fun n => by simp
  by_cases q : e ≤ d ∧ j / 2 ^ (d - e) = i
  · rw [decide_eq_true q, key]
    obtain ⟨h1, h2⟩ := q
    refine ⟨by omega, d - e, ?_⟩
    have hp : 0 < 2 ^ (d - e) := Nat.pow_pos (by omega)
    have hs : 2 ^ d = 2 ^ (d - e) * 2 ^ e := by rw [← Nat.pow_add]; congr 1; omega
    rw [cast, hs, Nat.mul_add_div hp, h2]
  · rw [decide_eq_false q]
    cases hA : aboveB ((2 ^ e + i : Nat) : Int) ((2 ^ d + j : Nat) : Int)
    · rfl
    exfalso
    obtain ⟨-, n, hn⟩ := key.1 hA
    rw [cast] at hn
    have hn' : (2 ^ d + j) / 2 ^ n = 2 ^ e + i := by exact_mod_cast hn
    by_cases hnd : n ≤ d
    · have hp : 0 < 2 ^ n := Nat.pow_pos (by omega)
      have hs : 2 ^ d = 2 ^ n * 2 ^ (d - n) := by rw [← Nat.pow_add]; congr 1; omega
      have hx : (2 ^ d + j) / 2 ^ n = 2 ^ (d - n) + j / 2 ^ n := by
        conv => lhs; rw [hs]
        rw [Nat.mul_add_div hp]
      have hlt : j / 2 ^ n < 2 ^ (d - n) := (Nat.div_lt_iff_lt_mul hp).2 (by rw [Nat.mul_comm, ← hs]; exact hj)
      rw [hx] at hn'
      obtain ⟨q1, q2⟩ := rep_eq hlt hi (by rw [hn'])
      exact q ⟨by omega, by rw [show d - e = n by omega]; exact q2⟩
    · have : (2 ^ d + j) / 2 ^ n = 0 := Nat.div_eq_of_lt (by
        have : 2 ^ (d + 1) ≤ 2 ^ n := Nat.pow_le_pow_right (by omega) (by omega)
        rw [Nat.pow_succ] at this; omega)
      omega

/-- Where a node of the greater universe lies: it was grown, or holds all, or nothing. -/
theorem graft_where {l id : Int} {by_ : Nat} (hl : l + by_ ≤ 48) (h1 : 1 ≤ l) (h : rightB (l + by_) id = true) :
    (∃ id0, rightB l id0 = true ∧ id = graftV by_ id0 ∧ (∀ j, rightB l j = true → aboveB id (graftV by_ j) = aboveB id0 j ∧ aboveB (graftV by_ j) id = aboveB j id0 ∧ (graftV by_ j = id ↔ j = id0))) ∨
    (∀ j, rightB l j = true → aboveB id (graftV by_ j) = true) ∨ (∀ j, rightB l j = true → aboveB id (graftV by_ j) = false) := by
  obtain ⟨b1, b2, b3⟩ := right_pos1 h
  obtain ⟨e, i, rfl, hi, -⟩ := dep_rep b1
  rw [right_rep hi b2 b3] at h
  have he := of_decide_eq_true h
  by_cases q1 : by_ ≤ e ∧ i < 2 ^ (e - by_)
  · obtain ⟨q1, q2⟩ := q1
    left
    have eg : ((2 ^ e + i : Nat) : Int) = graftV by_ ((2 ^ (e - by_) + i : Nat) : Int) := by
      rw [graft_rep q2, show e - by_ + by_ = e by omega]
    refine ⟨((2 ^ (e - by_) + i : Nat) : Int), by rw [right_rep q2 h1 (by omega)]; exact decide_eq_true (by omega), eg, fun j hj => ?_⟩
    obtain ⟨c1, c2, c3⟩ := right_pos1 hj
    obtain ⟨d, j, rfl, hj', -⟩ := dep_rep c1
    have hm : 2 ^ d ≤ 2 ^ (d + by_) := Nat.pow_le_pow_right (by omega) (by omega)
    rw [graft_rep hj', above_rep hi (by omega), above_rep q2 hj', above_rep (by omega) hi, above_rep hj' q2]
    refine ⟨decide_eq_decide.2 ?_, decide_eq_decide.2 ?_, ?_⟩
    · have : e ≤ d + by_ ↔ e - by_ ≤ d := by omega
      rw [this]
      refine and_congr_right fun hh => ?_
      rw [show d + by_ - e = d - (e - by_) by omega]
    · have : d + by_ ≤ e ↔ d ≤ e - by_ := by omega
      rw [this]
      refine and_congr_right fun hh => ?_
      rw [show e - (d + by_) = e - by_ - d by omega]
    · constructor
      · intro q
        obtain ⟨r1, r2⟩ := rep_eq (by omega) hi q
        subst r2
        rw [show e - by_ = d by omega]
      · intro q
        obtain ⟨r1, r2⟩ := rep_eq hj' q2 q
        subst r2
        rw [show d + by_ = e by omega]
  · by_cases q2 : e < by_ ∧ i = 0
    · obtain ⟨q2, rfl⟩ := q2
      right; left
      intro j hj
      obtain ⟨c1, c2, c3⟩ := right_pos1 hj
      obtain ⟨d, j, rfl, hj', -⟩ := dep_rep c1
      have hm : 2 ^ d ≤ 2 ^ (d + by_) := Nat.pow_le_pow_right (by omega) (by omega)
      have hm2 : 2 ^ d ≤ 2 ^ (d + by_ - e) := Nat.pow_le_pow_right (by omega) (by omega)
      rw [graft_rep hj', above_rep hi (by omega)]
      exact decide_eq_true ⟨by omega, Nat.div_eq_of_lt (by omega)⟩
    · right; right
      intro j hj
      obtain ⟨c1, c2, c3⟩ := right_pos1 hj
      obtain ⟨d, j, rfl, hj', -⟩ := dep_rep c1
      have hm : 2 ^ d ≤ 2 ^ (d + by_) := Nat.pow_le_pow_right (by omega) (by omega)
      rw [graft_rep hj', above_rep hi (by omega)]
      refine decide_eq_false fun ⟨r1, r2⟩ => ?_
      by_cases q3 : e < by_
      · have hm2 : 2 ^ d ≤ 2 ^ (d + by_ - e) := Nat.pow_le_pow_right (by omega) (by omega)
        rw [Nat.div_eq_of_lt (by omega)] at r2
        exact q2 ⟨q3, r2.symm⟩
      · refine q1 ⟨by omega, ?_⟩
        rw [← r2]
        refine (Nat.div_lt_iff_lt_mul (Nat.pow_pos (by omega))).2 ?_
        rw [← Nat.pow_add, show e - by_ + (d + by_ - e) = d by omega]
        exact hj'
theorem leaf_rep {l v : Int} (h : leafB l v = true) : ∃ n : Nat, l.toNat = n ∧ ∃ x : Nat, v = x ∧ x < 2 ^ n ∧ (2 : Int) ^ l.toNat + v = ((2 ^ n + x : Nat) : Int) := by
  simp only [leafB, decide_eq_true_eq] at h
  obtain ⟨x, rfl⟩ := Int.eq_ofNat_of_zero_le (show 0 ≤ v by omega)
  have c1 : (2 : Int) ^ l.toNat = ((2 ^ l.toNat : Nat) : Int) := by simp
  refine ⟨l.toNat, rfl, x, rfl, ?_, by rw [c1]; omega⟩
  have := h.2.2.2
  rw [c1] at this; omega
theorem leaf_right {l v : Int} (h : leafB l v = true) : rightB l (2 ^ l.toNat + v) = true := by
  have h' := h
  simp only [leafB, decide_eq_true_eq] at h'
  obtain ⟨n, hn, x, rfl, hx, e⟩ := leaf_rep h
  rw [e, right_rep hx h'.1 h'.2.1]
  exact decide_eq_true (by omega)
theorem graft_leaf {l v : Int} {by_ : Nat} (h : leafB l v = true) : (2 : Int) ^ (l + by_).toNat + v = graftV by_ (2 ^ l.toNat + v) := by
  have h' := h
  simp only [leafB, decide_eq_true_eq] at h'
  obtain ⟨n, hn, x, rfl, hx, e⟩ := leaf_rep h
  have e2 : (l + (by_ : Int)).toNat = n + by_ := by omega
  have c1 : (2 : Int) ^ (n + by_) = ((2 ^ (n + by_) : Nat) : Int) := by simp
  rw [e, graft_rep hx, e2, c1]; omega
theorem prune_leaf {l t v : Int} (ht : 1 ≤ t) (hl : t ≤ l) (h : leafB l v = true) : (2 : Int) ^ t.toNat + v / 2 ^ (l - t).toNat = pruneV t (2 ^ l.toNat + v) ∧ leafB t (v / 2 ^ (l - t).toNat) = true := by
  have h' := h
  simp only [leafB, decide_eq_true_eq] at h'
  obtain ⟨n, hn, x, rfl, hx, e⟩ := leaf_rep h
  obtain ⟨m, rfl⟩ := Int.eq_ofNat_of_zero_le (show 0 ≤ t by omega)
  obtain ⟨e1, e2⟩ := prune_rep hx (show m ≤ n by omega)
  have e3 : (l - (m : Int)).toNat = n - m := by omega
  have e4 : (x : Int) / 2 ^ (n - m) = ((x / 2 ^ (n - m) : Nat) : Int) := by simp
  have c1 : (2 : Int) ^ m = ((2 ^ m : Nat) : Int) := by simp
  rw [e, e1, e3, e4, Int.toNat_natCast, c1]
  refine ⟨by omega, ?_⟩
  simp only [leafB, decide_eq_true_eq, Int.toNat_natCast, c1]
  exact ⟨ht, by omega, Int.natCast_nonneg _, Int.ofNat_lt.2 e2⟩
theorem aboveV_nn {id : Int} {zs : List (Int × Int)} (hp : Pos zs) : 0 ≤ aboveV id zs := gsum_zero (fun x hx => by have := hp x hx; unfold aboveF; split <;> omega)
/-- Grown nodes stand for the same values. -/
theorem grow_stands {l k : Int} {by_ : Nat} {zs its : List (Int × Int)} (d : Dg l k zs) (b : Bag l its) (hs : sumL its = sumL zs) (s : Stands l zs its) (hl : l + by_ ≤ 48) {id : Int} (h : rightB (l + by_) id = true) :
    belowV id (growL by_ zs) ≤ heldV (l + by_) id its ∧ heldV (l + by_) id its ≤ belowV id (growL by_ zs) + aboveV id (growL by_ zs) := by
  obtain ⟨-, d1, -, -, g1⟩ := grow_spec d (by_ := by_) (by omega) hl
  have eB : belowV id (growL by_ zs) = gsum (fun i c => belowF id (graftV by_ i) c) zs := g1 (belowF id) (fun i x y => by unfold belowF; split <;> omega)
  have eA : aboveV id (growL by_ zs) = gsum (fun i c => aboveF id (graftV by_ i) c) zs := g1 (aboveF id) (fun i x y => by unfold aboveF; split <;> omega)
  have nA := aboveV_nn (id := id) d1.roll.strict.pos
  have eH : heldV (l + by_) id its = gsum (fun v c => if aboveB id (graftV by_ (2 ^ l.toNat + v)) then c else 0) its := gsum_congr (fun x hx => by
    unfold heldF; rw [graft_leaf (b.val x hx)])
  rcases graft_where hl d.roll.l1 h with ⟨id0, r0, rfl, hj⟩ | hj | hj
  · have b1 : belowV (graftV by_ id0) (growL by_ zs) = belowV id0 zs := by
      rw [eB]; exact gsum_congr (fun x hx => by unfold belowF; rw [(hj _ (d.roll.ids x hx)).1])
    have b2 : aboveV (graftV by_ id0) (growL by_ zs) = aboveV id0 zs := by
      rw [eA]; exact gsum_congr (fun x hx => by
        obtain ⟨-, h2, h3⟩ := hj _ (d.roll.ids x hx)
        unfold aboveF
        rw [h2]
        by_cases q : x.1 = id0
        · rw [if_neg (fun hh => hh.1 (h3.2 q)), if_neg (fun hh => hh.1 q)]
        · by_cases q2 : aboveB x.1 id0 = true
          · rw [if_pos ⟨fun hh => q (h3.1 hh), q2⟩, if_pos ⟨q, q2⟩]
          · rw [if_neg (fun hh => q2 hh.2), if_neg (fun hh => q2 hh.2)])
    have b3 : heldV (l + by_) (graftV by_ id0) its = heldV l id0 its := by
      rw [eH]; exact gsum_congr (fun x hx => by unfold heldF; rw [(hj _ (leaf_right (b.val x hx))).1])
    rw [b1, b2, b3]
    exact s id0 (right_pos1 r0).1
  · have b1 : belowV id (growL by_ zs) = sumL zs := by
      rw [eB, ← gsum_sum]; exact gsum_congr (fun x hx => by unfold belowF; rw [hj _ (d.roll.ids x hx)]; rfl)
    have b3 : heldV (l + by_) id its = sumL its := by
      rw [eH, ← gsum_sum]; exact gsum_congr (fun x hx => by simp only [hj _ (leaf_right (b.val x hx)), if_true])
    omega
  · have b1 : belowV id (growL by_ zs) = 0 := by
      rw [eB]
      have : gsum (fun i c => belowF id (graftV by_ i) c) zs = gsum (fun _ _ => 0) zs := gsum_congr (fun x hx => by unfold belowF; rw [hj _ (d.roll.ids x hx)]; rfl)
      rw [this, gsum_const]; simp
    have b3 : heldV (l + by_) id its = 0 := by
      rw [eH]
      have : gsum (fun v c => if aboveB id (graftV by_ (2 ^ l.toNat + v)) = true then c else 0) its = gsum (fun _ _ => 0) its := gsum_congr (fun x hx => by simp only [hj _ (leaf_right (b.val x hx)), Bool.false_eq_true, if_false])
      rw [this, gsum_const]; simp
    omega
theorem prune_where {l t id j : Int} (ht : 1 ≤ t) (hl : t ≤ l) (h : rightB t id = true) (hj : rightB l j = true) :
    aboveB id (pruneV t j) = aboveB id j ∧ (pruneV t j ≠ id ∧ aboveB (pruneV t j) id = true ↔ j ≠ id ∧ aboveB j id = true) := by
  obtain ⟨b1, b2, b3⟩ := right_pos1 h
  obtain ⟨e, i, rfl, hi, -⟩ := dep_rep b1
  rw [right_rep hi b2 b3] at h
  have he := of_decide_eq_true h
  obtain ⟨c1, c2, c3⟩ := right_pos1 hj
  obtain ⟨d, j, rfl, hj', -⟩ := dep_rep c1
  obtain ⟨n, rfl⟩ := Int.eq_ofNat_of_zero_le (show 0 ≤ t by omega)
  by_cases q : d ≤ n
  · rw [prune_low hj' q]; exact ⟨rfl, Iff.rfl⟩
  · obtain ⟨e1, e2⟩ := prune_rep hj' (show n ≤ d by omega)
    rw [e1, above_rep hi e2, above_rep hi hj', above_rep e2 hi, above_rep hj' hi]
    constructor
    · refine decide_eq_decide.2 ?_
      have a1 : e ≤ n ↔ True := by simp; omega
      have a2 : e ≤ d ↔ True := by simp; omega
      rw [a1, a2, Nat.div_div_eq_div_mul, ← Nat.pow_add, show d - n + (n - e) = d - e by omega]
    · simp only [decide_eq_true_eq]
      constructor
      · rintro ⟨r1, r2, r3⟩
        exfalso
        apply r1
        have : n = e := by omega
        subst this
        simp only [Nat.sub_self, Nat.pow_zero, Nat.div_one] at r3
        rw [r3]
      · rintro ⟨r1, r2, r3⟩; omega
/-- Coarsened nodes stand for the values without their last bits. -/
theorem coar_stands {l k t : Int} {zs its its' : List (Int × Int)} (d : Dg l k zs) (b : Bag l its) (s : Stands l zs its) (ht : 1 ≤ t) (hl : t ≤ l)
    (hi : ∀ g : Int → Int → Int, (∀ i a b, g i (a + b) = g i a + g i b) → gsum g its' = gsum (fun v c => g (v / 2 ^ (l - t).toNat) c) its) {id : Int} (h : rightB t id = true) :
    belowV id (coarL t zs) ≤ heldV t id its' ∧ heldV t id its' ≤ belowV id (coarL t zs) + aboveV id (coarL t zs) := by
  obtain ⟨-, d1, -, -, g1⟩ := coar_spec d ht hl
  have b1 : belowV id (coarL t zs) = belowV id zs := by
    rw [show belowV id (coarL t zs) = _ from g1 (belowF id) (fun i x y => by unfold belowF; split <;> omega)]
    exact gsum_congr (fun x hx => by unfold belowF; rw [(prune_where ht hl h (d.roll.ids x hx)).1])
  have b2 : aboveV id (coarL t zs) = aboveV id zs := by
    rw [show aboveV id (coarL t zs) = _ from g1 (aboveF id) (fun i x y => by unfold aboveF; split <;> omega)]
    exact gsum_congr (fun x hx => by
      have h2 := (prune_where ht hl h (d.roll.ids x hx)).2
      unfold aboveF
      by_cases q : x.1 ≠ id ∧ aboveB x.1 id = true
      · rw [if_pos q, if_pos (h2.2 q)]
      · rw [if_neg q, if_neg (fun hh => q (h2.1 hh))])
  have b3 : heldV t id its' = heldV l id its := by
    rw [show heldV t id its' = _ from hi (heldF t id) (fun i x y => by unfold heldF; split <;> omega)]
    exact gsum_congr (fun x hx => by
      obtain ⟨p1, -⟩ := prune_leaf ht hl (b.val x hx)
      unfold heldF
      rw [p1, (prune_where ht hl h (leaf_right (b.val x hx))).1])
  rw [b1, b2, b3]
  exact s id (right_pos1 h).1
end Nl
end Go.Proofs.YthdljlclcepnhaaGreat
