/- The walks of twig.Kids, fold.Cap, Mass, Ready, Do, and the reference's Kids, Cap, Mass, Ready. -/
import Derived.Test.YtejoecoenehooaaPoolIs
namespace Go.Proofs.Ytejoecoenehooaa
open Go.RowKit Nl

namespace Nl
/-- Has a node children? -/
def kidsB (l id : Int) : Bool := rightB l id && decide (id < 2 ^ l.toNat)
def kidA (l id : Int) : Int := if kidsB l id then 2 * id else 0
def kidZ (l id : Int) : Int := if kidsB l id then 2 * id + 1 else 0
def capV (n k : Int) : Int := if n < 0 ∨ k < 1 then 0 else n / k
def pairV (l : Int) (zs : List (Int × Int)) (p : Int) : Int := if kidsB l p then findL (2 * p) zs + findL (2 * p + 1) zs else 0
def allV (l : Int) (zs : List (Int × Int)) (p : Int) : Int := if kidsB l p then findL (2 * p) zs + findL (2 * p + 1) zs + findL p zs else 0
def readyB (l : Int) (zs : List (Int × Int)) (p most : Int) : Bool := decide (0 < pairV l zs p ∧ allV l zs p ≤ most)
theorem kids_bound {l p : Int} (h : kidsB l p = true) : 1 ≤ p ∧ p < 281474976710656 := by
  simp only [kidsB, Bool.and_eq_true, decide_eq_true_eq] at h
  have h1 := right_pos h.1
  have h2 := h.1
  simp only [rightB, decide_eq_true_eq] at h2
  obtain ⟨n, rfl⟩ := Int.eq_ofNat_of_zero_le (show 0 ≤ l by omega)
  have := (pow48 (n := n) (by omega)).2
  simp only [Int.toNat_natCast] at h
  omega
theorem kids_dep {l p : Int} (hr : rightB l p = true) : (depV p == l) = !decide (p < 2 ^ l.toNat) := by
  have h2 := hr
  simp only [rightB, decide_eq_true_eq] at h2
  obtain ⟨n, rfl⟩ := Int.eq_ofNat_of_zero_le (show 0 ≤ l by omega)
  obtain ⟨x, rfl⟩ := Int.eq_ofNat_of_zero_le (show 0 ≤ p by omega)
  have e := rightB_dep (l := (n : Int)) (id := (x : Int)) ⟨by omega, by omega⟩ (by omega)
  rw [hr] at e
  have e1 : depV (x : Int) ≤ (n : Int) := by simpa using e.symm
  have e3 : (2 : Int) ^ (n : Int).toNat = ((2 ^ n : Nat) : Int) := by simp
  rw [e3]
  by_cases hn : n = 0
  · omega
  obtain ⟨m, rfl⟩ : ∃ m, n = m + 1 := ⟨n - 1, by omega⟩
  have hb := bitLen_iff x m (by omega)
  have e4 : (2 : Nat) * 2 ^ m = 2 ^ (m + 1) := by rw [Nat.pow_succ]; omega
  rw [e4] at hb
  unfold depV depOk at e1 ⊢
  rw [if_pos (by simp; omega)] at e1 ⊢
  simp only [Int.toNat_natCast] at e1 ⊢
  rw [Bool.eq_iff_iff]
  simp only [beq_iff_eq, Bool.not_eq_true', decide_eq_false_iff_not]
  constructor
  · intro h q
    have := hb.2 (by omega)
    omega
  · intro h
    have : ¬ bitLen x ≤ m + 1 := fun q => h (by have := hb.1 q; omega)
    omega
end Nl

theorem ret_iib {k k2 : IntKind} {a c a2 c2 : Int} {b d : Bool} (h1 : a = c) (h2 : a2 = c2) (h3 : b = d) : Ending.returned (.tuple #[.int k a, .int k2 a2, .bool b]) = .returned (.tuple #[.int k c, .int k2 c2, .bool d]) := by rw [h1, h2, h3]

set_option maxRecDepth 100000 in
set_option maxHeartbeats 1000000 in
theorem t_kids (l id : Int) (w : World) (bl : In64 l) (bi : In64 id) :
    Calls Try.prog 83 #[.int .i64 l, .int .i64 id] w fun e w' => e = .returned (.tuple #[.int .i64 (kidA l id), .int .i64 (kidZ l id), .bool (kidsB l id)]) ∧ w = w' := by
  obtain ⟨bl1, bl2⟩ := bl
  obtain ⟨bi1, bi2⟩ := bi
  obtain ⟨r, er⟩ : ∃ r, rightB l id = r := ⟨_, rfl⟩
  have Er := hid er
  cases r
  · have e : kidsB l id = false := by unfold kidsB; rw [er]; rfl
    have e1 : kidA l id = 0 := by unfold kidA; rw [e]; rfl
    have e2 : kidZ l id = 0 := by unfold kidZ; rw [e]; rfl
    rw [e, e1, e2]
    clear er e e1 e2
    go_enter Try.func83, Try.ntmps83
    go_wp2_with fail
    refine (twig_right l id w bl1 bl2 bi1 bi2).mono ?_
    rintro e w' ⟨rfl, rfl⟩
    rw [Er.out]
    go_wp2_with fail
    go_ret3
    exact ⟨rfl, rfl⟩
  · have h2 := er
    simp only [rightB, decide_eq_true_eq] at h2
    obtain ⟨n, rfl⟩ := Int.eq_ofNat_of_zero_le (show 0 ≤ l by omega)
    have hn : n ≤ 48 := by omega
    obtain ⟨p1, p2⟩ := pow48 (n := n) hn
    simp only [Int.toNat_natCast] at h2
    by_cases hk : id < 2 ^ n
    · have e : kidsB n id = true := by unfold kidsB; rw [er]; simpa using hk
      have e1 : kidA n id = 2 * id := by unfold kidA; rw [e]; rfl
      have e2 : kidZ n id = 2 * id + 1 := by unfold kidZ; rw [e]; rfl
      rw [e, e1, e2]
      clear er e e1 e2
      go_enter Try.func83, Try.ntmps83
      go_wp2_with fail
      refine (twig_right n id w bl1 bl2 bi1 bi2).mono ?_
      rintro e w' ⟨rfl, rfl⟩
      rw [Er.out]
      go_wp2_with fail
      go_ret3
      exact ⟨rfl, rfl⟩
    · have e : kidsB n id = false := by unfold kidsB; rw [er]; simpa using hk
      have e1 : kidA n id = 0 := by unfold kidA; rw [e]; rfl
      have e2 : kidZ n id = 0 := by unfold kidZ; rw [e]; rfl
      rw [e, e1, e2]
      clear er e e1 e2
      go_enter Try.func83, Try.ntmps83
      go_wp2_with fail
      refine (twig_right n id w bl1 bl2 bi1 bi2).mono ?_
      rintro e w' ⟨rfl, rfl⟩
      rw [Er.out]
      go_wp2_with fail
      go_ret3
      exact ⟨rfl, rfl⟩

set_option maxRecDepth 100000 in
set_option maxHeartbeats 1000000 in
theorem r_kids (l id : Int) (w : World) (bl : In64 l) (bi : In64 id) :
    Calls Try.prog 102 #[.int .i64 l, .int .i64 id] w fun e w' => e = .returned (.tuple #[.int .i64 (kidA l id), .int .i64 (kidZ l id), .bool (kidsB l id)]) ∧ w = w' := by
  obtain ⟨bl1, bl2⟩ := bl
  obtain ⟨bi1, bi2⟩ := bi
  have RR := hid (fun W : World => r_right l id W bl1 bl2 bi1 bi2)
  have RD := hid (fun W : World => r_depth id W bi1 bi2)
  obtain ⟨r, er⟩ : ∃ r, rightB l id = r := ⟨_, rfl⟩
  rw [er] at RR
  cases r
  · have e : kidsB l id = false := by unfold kidsB; rw [er]; rfl
    have e1 : kidA l id = 0 := by unfold kidA; rw [e]; rfl
    have e2 : kidZ l id = 0 := by unfold kidZ; rw [e]; rfl
    rw [e, e1, e2]
    clear er e e1 e2
    go_enter Try.func102, Try.ntmps102
    go_wp2_with fail
    refine (RD.out w).mono ?_
    rintro e w' ⟨rfl, rfl⟩
    go_wp2_with fail
    refine (RR.out w).mono ?_
    rintro e w' ⟨rfl, rfl⟩
    go_wp2_with fail
    go_ret3
    exact ⟨rfl, rfl⟩
  · have hd := kids_dep er
    have hb : 1 ≤ id ∧ id ≤ 562949953421312 := by
      have h2 := er
      simp only [rightB, decide_eq_true_eq] at h2
      obtain ⟨n, rfl⟩ := Int.eq_ofNat_of_zero_le (show 0 ≤ l by omega)
      have := (pow48 (n := n) (by omega)).2
      simp only [Int.toNat_natCast] at h2
      omega
    obtain ⟨D, eD⟩ : ∃ D, depV id = D := ⟨_, rfl⟩
    rw [eD] at RD hd
    by_cases hk : id < 2 ^ l.toNat
    · have e : kidsB l id = true := by unfold kidsB; rw [er]; simpa using hk
      have e1 : kidA l id = 2 * id := by unfold kidA; rw [e]; rfl
      have e2 : kidZ l id = 2 * id + 1 := by unfold kidZ; rw [e]; rfl
      have hd2 : (D == l) = false := by rw [hd]; simp [hk]
      rw [e, e1, e2]
      clear er e e1 e2 hd hk eD
      go_enter Try.func102, Try.ntmps102
      go_wp2_with fail
      refine (RD.out w).mono ?_
      rintro e w' ⟨rfl, rfl⟩
      go_wp2_with fail
      refine (RR.out w).mono ?_
      rintro e w' ⟨rfl, rfl⟩
      go_wp2_with fail
      go_ret3
      exact ⟨rfl, rfl⟩
    · have e : kidsB l id = false := by unfold kidsB; rw [er]; simpa using hk
      have e1 : kidA l id = 0 := by unfold kidA; rw [e]; rfl
      have e2 : kidZ l id = 0 := by unfold kidZ; rw [e]; rfl
      have hd2 : (D == l) = true := by rw [hd]; simp [hk]
      rw [e, e1, e2]
      clear er e e1 e2 hd hk eD
      go_enter Try.func102, Try.ntmps102
      go_wp2_with fail
      refine (RD.out w).mono ?_
      rintro e w' ⟨rfl, rfl⟩
      go_wp2_with fail
      refine (RR.out w).mono ?_
      rintro e w' ⟨rfl, rfl⟩
      go_wp2_with fail
      go_ret3
      exact ⟨rfl, rfl⟩

set_option maxRecDepth 100000 in
set_option maxHeartbeats 1000000 in
theorem f_cap (n k : Int) (w : World) (bn : In64 n) (bk : In64 k) :
    Calls Try.prog 100 #[.int .i64 n, .int .i64 k] w fun e w' => e = .returned (.int .i64 (capV n k)) ∧ w = w' := by
  obtain ⟨b1, b2⟩ := bn
  obtain ⟨b3, b4⟩ := bk
  by_cases h1 : n < 0
  · have e : capV n k = 0 := by unfold capV; rw [if_pos (.inl h1)]
    rw [e]; clear e
    go_enter Try.func100, Try.ntmps100
    go_wp2_with (go_at_call 133; go_in)
    go_ret
    exact ⟨rfl, rfl⟩
  · by_cases h2 : k < 1
    · have e : capV n k = 0 := by unfold capV; rw [if_pos (.inr h2)]
      rw [e]; clear e
      go_enter Try.func100, Try.ntmps100
      go_wp2_with (go_at_call 133; go_in)
      go_ret
      exact ⟨rfl, rfl⟩
    · have e : capV n k = n / k := by unfold capV; rw [if_neg (by omega)]
      have hk0 : (k == 0) = false := by simp; omega
      rw [e]; clear e
      go_enter Try.func100, Try.ntmps100
      go_wp2_with (go_at_call 133; go_in)
      go_ret
      exact ⟨rfl, rfl⟩
set_option maxRecDepth 100000 in
set_option maxHeartbeats 1000000 in
theorem r_cap (n k : Int) (w : World) (bn : In64 n) (bk : In64 k) :
    Calls Try.prog 134 #[.int .i64 n, .int .i64 k] w fun e w' => e = .returned (.int .i64 (capV n k)) ∧ w = w' := by
  obtain ⟨b1, b2⟩ := bn
  obtain ⟨b3, b4⟩ := bk
  by_cases h1 : n < 0
  · have e : capV n k = 0 := by unfold capV; rw [if_pos (.inl h1)]
    rw [e]; clear e
    go_enter Try.func134, Try.ntmps134
    go_wp2_with fail
    go_ret
    exact ⟨rfl, rfl⟩
  · by_cases h2 : k < 1
    · have e : capV n k = 0 := by unfold capV; rw [if_pos (.inr h2)]
      rw [e]; clear e
      go_enter Try.func134, Try.ntmps134
      go_wp2_with fail
      go_ret
      exact ⟨rfl, rfl⟩
    · have e : capV n k = n / k := by unfold capV; rw [if_neg (by omega)]
      have hk0 : (k == 0) = false := by simp; omega
      rw [e]; clear e
      go_enter Try.func134, Try.ntmps134
      go_wp2_with fail
      go_ret
      exact ⟨rfl, rfl⟩
end Go.Proofs.Ytejoecoenehooaa
