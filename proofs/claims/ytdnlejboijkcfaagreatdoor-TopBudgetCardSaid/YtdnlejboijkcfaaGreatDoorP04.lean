/- Texts laid together. -/
import Derived.Test.YtdnlejboijkcfaaGreatDoorP03
import Derived.Test.YtdnlejboijkcfaaGreatDoorP01
import Derived.Deep.AppendLies
import Derived.Deep.RegionHeld3
/- Texts laid together: Probe1, PbMath, PbMath2, PbMath3, PbMath4, Probe2, Probe3, Probe4, Probe5, RoMath, Roll1. -/
/- The walks of the home of a node: the probe's, the reference's. -/
namespace Go.Proofs.YtdnlejboijkcfaaGreatDoor
set_option maxHeartbeats 8000000
set_option maxRecDepth 100000
open Go.RowKit
namespace Nl
def homeN (bits id : Nat) : Nat := id * 11400714819323198485 % 18446744073709551616 / 2 ^ (64 - bits)
def homeV (bits id : Int) : Int := if bits < 1 ∨ 62 < bits ∨ id < 1 then 0 else (homeN bits.toNat id.toNat : Int)
theorem homeN_lt {b : Nat} (hb : b ≤ 62) (n : Nat) : homeN b n < 2 ^ b := by
  unfold homeN
  rw [Nat.div_lt_iff_lt_mul (Nat.pow_pos (by omega)), ← Nat.pow_add, show b + (64 - b) = 64 by omega]
  have : (2 : Nat) ^ 64 = 18446744073709551616 := rfl
  rw [this]
  exact Nat.mod_lt _ (by omega)
theorem homeN_63 {b : Nat} (hb : b ≤ 62) (n : Nat) : homeN b n < 4611686018427387904 := by
  have h := homeN_lt hb n
  have h2 : (2 : Nat) ^ b ≤ 2 ^ 62 := Nat.pow_le_pow_right (by omega) hb
  have : (2 : Nat) ^ 62 = 4611686018427387904 := rfl
  omega
end Nl
open Nl
theorem wrap_u (n : Int) : IntKind.u64.wrap n = n % 18446744073709551616 := by simp [IntKind.wrap, IntKind.bits, IntKind.signed]
theorem home_eq (b n : Nat) (hb : b ≤ 62) : wrap64 (IntKind.u64.wrap ((n : Int) * 11400714819323198485) / 2 ^ (64 - b)) = (homeN b n : Int) := by
  have e : IntKind.u64.wrap ((n : Int) * 11400714819323198485) / 2 ^ (64 - b) = ((homeN b n : Nat) : Int) := by
    rw [wrap_u]; unfold homeN; simp
  rw [e]
  have := homeN_63 hb n
  exact IntWalk.wrap64_in _ ⟨by omega, by omega⟩
theorem p_home (bits id : Int) (w : World) (hb : -9223372036854775808 ≤ bits) (hb1 : bits ≤ 9223372036854775807) (hi : -9223372036854775808 ≤ id) (hi1 : id ≤ 9223372036854775807) :
    Calls Tryz.prog 186 #[.int .i64 bits, .int .i64 id] w fun e w' => e = .returned (.int .i64 (homeV bits id)) ∧ w = w' := by
  by_cases h1 : bits < 1
  · have e : homeV bits id = 0 := by unfold homeV; rw [if_pos (by omega)]
    rw [e]
    clear e
    go_enter Tryz.func186, Tryz.ntmps186
    go_wp2
    go_ret
    exact ⟨rfl, rfl⟩
  by_cases h2 : 62 < bits
  · have e : homeV bits id = 0 := by unfold homeV; rw [if_pos (by omega)]
    rw [e]
    clear e
    go_enter Tryz.func186, Tryz.ntmps186
    go_wp2
    go_ret
    exact ⟨rfl, rfl⟩
  by_cases h3 : id < 1
  · have e : homeV bits id = 0 := by unfold homeV; rw [if_pos (by omega)]
    rw [e]
    clear e
    go_enter Tryz.func186, Tryz.ntmps186
    go_wp2
    go_ret
    exact ⟨rfl, rfl⟩
  obtain ⟨b, rfl⟩ := Int.eq_ofNat_of_zero_le (show 0 ≤ bits by omega)
  obtain ⟨n, rfl⟩ := Int.eq_ofNat_of_zero_le (show 0 ≤ id by omega)
  have e : homeV (b : Int) (n : Int) = (homeN b n : Int) := by unfold homeV; rw [if_neg (by omega)]; rfl
  rw [e]
  clear e
  go_enter Tryz.func186, Tryz.ntmps186
  go_wp2
  go_ret
  exact ⟨ret_int (home_eq b n (by omega)), rfl⟩
end Go.Proofs.YtdnlejboijkcfaaGreatDoor
/- A table that is looked through (no program in sight): looking, putting, taking. -/
namespace Go.Proofs.YtdnlejboijkcfaaGreatDoor
set_option maxHeartbeats 8000000
set_option maxRecDepth 100000
namespace Nl
def least (p : Nat → Bool) : Nat → Nat → Nat
  | 0, d => d
  | f + 1, d => if p d then d else least p f (d + 1)
theorem least_at {p : Nat → Bool} {f d m : Nat} (h1 : d ≤ m) (h2 : m < d + f) (h3 : p m = true) (h4 : ∀ k, d ≤ k → k < m → p k = false) : least p f d = m := by
  induction f generalizing d with
  | zero => omega
  | succ f ih =>
    rw [least]
    by_cases h : d = m
    · subst h; rw [if_pos h3]
    · rw [if_neg (by rw [h4 d nlr (by omega)]; decide)]
      exact ih (by omega) (by omega) (fun k hk hk2 => h4 k (by omega) hk2)
theorem least_spec {p : Nat → Bool} {f d e : Nat} (h1 : d ≤ e) (h2 : e < d + f) (h3 : p e = true) : d ≤ least p f d ∧ least p f d ≤ e ∧ p (least p f d) = true ∧ ∀ k, d ≤ k → k < least p f d → p k = false := by
  induction f generalizing d with
  | zero => omega
  | succ f ih =>
    rw [least]
    by_cases h : p d = true
    · rw [if_pos h]; exact ⟨nlr, h1, h, fun k hk hk2 => by omega⟩
    · rw [if_neg h]
      have hd : d ≠ e := fun q => h (q ▸ h3)
      obtain ⟨i1, i2, i3, i4⟩ := ih (d := d + 1) (by omega) (by omega)
      refine ⟨by omega, i2, i3, fun k hk hk2 => ?_⟩
      by_cases hkd : k = d
      · subst hkd; simpa using h
      · exact i4 k (by omega) hk2
def way (n a i : Nat) : Nat := (i + n - a) % n
theorem way_lt {n : Nat} (a i : Nat) (hn : 0 < n) : way n a i < n := Nat.mod_lt _ hn
theorem way_cases {n a i : Nat} (ha : a < n) (hi : i < n) : (a ≤ i ∧ way n a i = i - a) ∨ (i < a ∧ way n a i = i + n - a) := by
  unfold way
  by_cases h : a ≤ i
  · left
    refine ⟨h, ?_⟩
    rw [show i + n - a = (i - a) + n by omega, Nat.add_mod_right, Nat.mod_eq_of_lt (by omega)]
  · right
    exact ⟨by omega, Nat.mod_eq_of_lt (by omega)⟩
theorem mod_cases {n a k : Nat} (ha : a < n) (hk : k < n) : (a + k < n ∧ (a + k) % n = a + k) ∨ (n ≤ a + k ∧ (a + k) % n = a + k - n) := by
  by_cases h : a + k < n
  · exact .inl ⟨h, Nat.mod_eq_of_lt h⟩
  · right
    refine ⟨by omega, ?_⟩
    rw [Nat.mod_eq_sub_mod (by omega), Nat.mod_eq_of_lt (by omega)]
theorem way_at {n a i : Nat} (ha : a < n) (hi : i < n) : (a + way n a i) % n = i := by
  have hw := way_lt a i (show 0 < n by omega)
  rcases way_cases ha hi with ⟨h1, h2⟩ | ⟨h1, h2⟩ <;> rcases mod_cases ha hw with ⟨h3, h4⟩ | ⟨h3, h4⟩ <;> omega
theorem way_eq {n a i k : Nat} (ha : a < n) (hk : k < n) (h : (a + k) % n = i) : k = way n a i := by
  have hi : i < n := by rw [← h]; exact Nat.mod_lt _ (by omega)
  rcases way_cases ha hi with ⟨h1, h2⟩ | ⟨h1, h2⟩ <;> rcases mod_cases ha hk with ⟨h3, h4⟩ | ⟨h3, h4⟩ <;> omega
theorem add_mod_next {n a k : Nat} : ((a + k) % n + 1) % n = (a + (k + 1)) % n := by
  rw [Nat.mod_add_mod]; rfl
theorem mod_mod_add {n a k t : Nat} : ((a + k) % n + t) % n = (a + (k + t)) % n := by
  rw [Nat.mod_add_mod, Nat.add_assoc]
theorem way_next {n i e : Nat} (hi : i < n) (he : e < n) (hne : i ≠ e) : way n ((i + 1) % n) e + 1 = way n i e := by
  have h0 : 0 < n := by omega
  have h1 := way_at hi he
  have hw := way_lt i e h0
  have hz : way n i e ≠ 0 := fun h => by rw [h, Nat.add_zero, Nat.mod_eq_of_lt hi] at h1; exact hne h1
  have := way_eq (n := n) (a := (i + 1) % n) (i := e) (k := way n i e - 1) (Nat.mod_lt _ h0) (by omega) (by
    rw [mod_mod_add, show 1 + (way n i e - 1) = way n i e by omega]; exact h1)
  omega
def cntA (xs : List (Int × Int)) (i : Nat) : Int := (xs.getD i (0, 0)).2
def idA (xs : List (Int × Int)) (i : Nat) : Int := (xs.getD i (0, 0)).1
def homeA (b : Nat) (id : Int) : Nat := homeN b id.toNat
def stopB (xs : List (Int × Int)) (id : Int) (i : Nat) : Bool := decide (cntA xs i ≤ 0 ∨ idA xs i = id)
def lookD (xs : List (Int × Int)) (b : Nat) (id : Int) : Nat := least (fun d => stopB xs id ((homeA b id + d) % xs.length)) xs.length 0
def lookI (xs : List (Int × Int)) (b : Nat) (id : Int) : Nat := (homeA b id + lookD xs b id) % xs.length
theorem getD_set {α : Type} (xs : List α) (i j : Nat) (x d : α) (hi : i < xs.length) : (xs.set i x).getD j d = if i = j then x else xs.getD j d := by
  by_cases h : i = j
  · subst h; simp [List.getD, hi]
  · simp [List.getD, h]
theorem cntA_set (xs : List (Int × Int)) (i j : Nat) (x : Int × Int) (hi : i < xs.length) : cntA (xs.set i x) j = if i = j then x.2 else cntA xs j := by
  unfold cntA; rw [getD_set xs i j x _ hi]; split <;> rfl
theorem idA_set (xs : List (Int × Int)) (i j : Nat) (x : Int × Int) (hi : i < xs.length) : idA (xs.set i x) j = if i = j then x.1 else idA xs j := by
  unfold idA; rw [getD_set xs i j x _ hi]; split <;> rfl
structure Tab (b : Nat) (xs : List (Int × Int)) : Prop where
  len : xs.length = 2 ^ b
  bits : b ≤ 62
  pos : ∀ i, 0 ≤ cntA xs i
  zero : ∀ i, cntA xs i = 0 → idA xs i = 0
  one : ∀ i, 0 < cntA xs i → 1 ≤ idA xs i
  reach : ∀ i, i < xs.length → 0 < cntA xs i → ∀ k, k < way xs.length (homeA b (idA xs i)) i → 0 < cntA xs ((homeA b (idA xs i) + k) % xs.length)
  dist : ∀ i j, i < xs.length → j < xs.length → 0 < cntA xs i → 0 < cntA xs j → idA xs i = idA xs j → i = j
theorem Tab.pos_len {b : Nat} {xs : List (Int × Int)} (t : Tab b xs) : 0 < xs.length := by rw [t.len]; exact Nat.pow_pos (by omega)
theorem Tab.home {b : Nat} {xs : List (Int × Int)} (t : Tab b xs) (id : Int) : homeA b id < xs.length := by rw [t.len]; exact homeN_lt t.bits _
theorem stopB_iff {xs : List (Int × Int)} {id : Int} {i : Nat} : stopB xs id i = true ↔ cntA xs i ≤ 0 ∨ idA xs i = id := by unfold stopB; simp
theorem stopB_not {xs : List (Int × Int)} {id : Int} {i : Nat} : stopB xs id i = false ↔ 0 < cntA xs i ∧ idA xs i ≠ id := by unfold stopB; simp
theorem look_spec {b : Nat} {xs : List (Int × Int)} (t : Tab b xs) (id : Int) {e : Nat} (he : e < xs.length) (h : stopB xs id e = true) :
    lookD xs b id < xs.length ∧ stopB xs id (lookI xs b id) = true ∧ lookI xs b id < xs.length ∧ ∀ k, k < lookD xs b id → 0 < cntA xs ((homeA b id + k) % xs.length) ∧ idA xs ((homeA b id + k) % xs.length) ≠ id := by
  have hh := t.home id
  have h0 := t.pos_len
  have hw := way_lt (homeA b id) e h0
  obtain ⟨i1, i2, i3, i4⟩ := least_spec (p := fun d => stopB xs id ((homeA b id + d) % xs.length)) (f := xs.length) (d := 0) (e := way xs.length (homeA b id) e) (Nat.zero_le _) (by omega) (by
    show stopB xs id ((homeA b id + way xs.length (homeA b id) e) % xs.length) = true
    rw [way_at hh he]; exact h)
  refine ⟨?_, i3, Nat.mod_lt _ h0, fun k hk => stopB_not.1 (i4 k (Nat.zero_le _) hk)⟩
  unfold lookD; omega
theorem look_found {b : Nat} {xs : List (Int × Int)} (t : Tab b xs) {i : Nat} (hi : i < xs.length) (hc : 0 < cntA xs i) : lookD xs b (idA xs i) = way xs.length (homeA b (idA xs i)) i ∧ lookI xs b (idA xs i) = i := by
  have hh := t.home (idA xs i)
  have h0 := t.pos_len
  have hw := way_lt (homeA b (idA xs i)) i h0
  have e : lookD xs b (idA xs i) = way xs.length (homeA b (idA xs i)) i := by
    unfold lookD
    refine least_at (Nat.zero_le _) (by omega) ?_ ?_
    · rw [way_at hh hi]; exact stopB_iff.2 (.inr rfl)
    · intro k _ hk
      rw [stopB_not]
      refine ⟨t.reach i hi hc k hk, fun q => ?_⟩
      have := t.dist _ i (Nat.mod_lt _ h0) hi (t.reach i hi hc k hk) hc q
      have := way_eq hh (by omega) this
      omega
  refine ⟨e, ?_⟩
  unfold lookI; rw [e]; exact way_at hh hi
theorem look_none {b : Nat} {xs : List (Int × Int)} (t : Tab b xs) (id : Int) (h : cntA xs (lookI xs b id) ≤ 0) : ∀ i, i < xs.length → 0 < cntA xs i → idA xs i ≠ id := by
  intro i hi hc q
  have := (look_found t hi hc).2
  rw [q] at this
  rw [this] at h
  omega
end Nl
end Go.Proofs.YtdnlejboijkcfaaGreatDoor
/- A table that is looked through (no program in sight): what putting and taking keep. -/
namespace Go.Proofs.YtdnlejboijkcfaaGreatDoor
set_option maxHeartbeats 8000000
set_option maxRecDepth 100000
namespace Nl
def occ : List (Int × Int) → Nat
  | [] => 0
  | x :: r => (if 0 < x.2 then 1 else 0) + occ r
theorem occ_le (xs : List (Int × Int)) : occ xs ≤ xs.length := by
  induction xs with
  | nil => exact nlr
  | cons x r ih => simp only [occ, List.length_cons]; split <;> omega
theorem occ_set (xs : List (Int × Int)) (i : Nat) (x : Int × Int) (hi : i < xs.length) : occ (xs.set i x) + (if 0 < cntA xs i then 1 else 0) = occ xs + (if 0 < x.2 then 1 else 0) := by
  induction xs generalizing i with
  | nil => simp at hi
  | cons y r ih =>
    cases i with
    | zero => simp [occ, cntA]; omega
    | succ i =>
      have := ih i (by simpa using hi)
      simp only [List.set_cons_succ, occ]
      have e : cntA (y :: r) (i + 1) = cntA r i := rfl
      rw [e]; omega
theorem sumL_set (xs : List (Int × Int)) (i : Nat) (x : Int × Int) (hi : i < xs.length) : sumL (xs.set i x) + cntA xs i = sumL xs + x.2 := by
  induction xs generalizing i with
  | nil => simp at hi
  | cons y r ih =>
    cases i with
    | zero => simp [sumL, cntA]; omega
    | succ i =>
      have := ih i (by simpa using hi)
      simp only [List.set_cons_succ, sumL]
      have e : cntA (y :: r) (i + 1) = cntA r i := rfl
      rw [e]; omega
theorem has_empty {xs : List (Int × Int)} (h : occ xs < xs.length) : ∃ e, e < xs.length ∧ cntA xs e ≤ 0 := by
  induction xs with
  | nil => simp at h
  | cons x r ih =>
    by_cases hx : 0 < x.2
    · simp only [occ, if_pos hx, List.length_cons] at h
      obtain ⟨e, he, hc⟩ := ih (by omega)
      exact ⟨e + 1, by simpa using he, hc⟩
    · exact ⟨0, by simp, by simp [cntA]; omega⟩
theorem Tab.empty (b : Nat) (hb : b ≤ 62) : Tab b (List.replicate (2 ^ b) (0, 0)) := by
  have hc : ∀ i, cntA (List.replicate (2 ^ b) ((0 : Int), (0 : Int))) i = 0 := fun i => by
    unfold cntA
    by_cases h : i < 2 ^ b <;> simp [List.getD, h]
  have hi : ∀ i, idA (List.replicate (2 ^ b) ((0 : Int), (0 : Int))) i = 0 := fun i => by
    unfold idA
    by_cases h : i < 2 ^ b <;> simp [List.getD, h]
  exact ⟨by simp, hb, fun i => by rw [hc]; exact Int.le_refl _, fun i _ => hi i, fun i h => by rw [hc] at h; omega, fun i _ h => by rw [hc] at h; omega, fun i j _ _ h => by rw [hc] at h; omega⟩
theorem Tab.new {b : Nat} {xs : List (Int × Int)} (t : Tab b xs) {id c : Int} (h1 : 1 ≤ id) (hc : 0 < c) {e : Nat} (he : e < xs.length) (hs : stopB xs id e = true) (h0 : cntA xs (lookI xs b id) ≤ 0) : Tab b (xs.set (lookI xs b id) (id, c)) := by
  obtain ⟨s1, s2, s3, s4⟩ := look_spec t id he hs
  have hno := look_none t id h0
  have hh := t.home id
  have hw : way xs.length (homeA b id) (lookI xs b id) = lookD xs b id := (way_eq hh s1 rfl).symm
  generalize hi : lookI xs b id = i at *
  have C := fun j => cntA_set xs i j (id, c) s3
  have I := fun j => idA_set xs i j (id, c) s3
  have L : (xs.set i (id, c)).length = xs.length := by simp
  refine ⟨L.trans t.len, t.bits, fun j => ?_, fun j => ?_, fun j => ?_, fun j hj hcj k hk => ?_, fun j j' hj hj' hcj hcj' q => ?_⟩
  · rw [C]; split
    · show 0 ≤ c; omega
    · exact t.pos j
  · rw [C, I]; split
    · intro h; exact absurd h (show ¬ c = 0 by omega)
    · exact t.zero j
  · rw [C, I]; split
    · intro _; exact h1
    · exact t.one j
  · rw [L] at hj hk ⊢
    rw [C, I] at *
    by_cases hij : i = j
    · rw [if_pos hij] at hk ⊢
      subst hij
      rw [hw] at hk
      have := (s4 k hk).1
      split
      · exact hc
      · exact this
    · rw [if_neg hij] at hcj hk ⊢
      have := t.reach j hj hcj k hk
      split
      · exact hc
      · exact this
  · rw [L] at hj hj'
    rw [C, I] at *
    rw [I] at q
    by_cases hij : i = j <;> by_cases hij' : i = j'
    · omega
    · rw [if_pos hij] at q
      rw [if_neg hij'] at q hcj'
      exact absurd q.symm (hno j' hj' hcj')
    · rw [if_neg hij] at q hcj
      rw [if_pos hij'] at q
      exact absurd q (hno j hj hcj)
    · rw [if_neg hij] at q hcj
      rw [if_neg hij'] at q hcj'
      exact t.dist j j' hj hj' hcj hcj' q
theorem Tab.upd {b : Nat} {xs : List (Int × Int)} (t : Tab b xs) {i : Nat} {c : Int} (hi : i < xs.length) (h0 : 0 < cntA xs i) (hc : 0 < c) : Tab b (xs.set i (idA xs i, c)) := by
  have C := fun j => cntA_set xs i j (idA xs i, c) hi
  have I : ∀ j, idA (xs.set i (idA xs i, c)) j = idA xs j := fun j => by rw [idA_set xs i j _ hi]; split <;> simp_all
  have L : (xs.set i (idA xs i, c)).length = xs.length := by simp
  have P : ∀ j, 0 < cntA (xs.set i (idA xs i, c)) j ↔ 0 < cntA xs j := fun j => by
    rw [C]; split
    · rename_i h; subst h; exact ⟨fun _ => h0, fun _ => hc⟩
    · exact Iff.rfl
  refine ⟨L.trans t.len, t.bits, fun j => ?_, fun j h => ?_, fun j h => ?_, fun j hj hcj k hk => ?_, fun j j' hj hj' hcj hcj' q => ?_⟩
  · rw [C]; split
    · show 0 ≤ c; omega
    · exact t.pos j
  · rw [I]; rw [C] at h; split at h
    · exact absurd h (show ¬ c = 0 by omega)
    · exact t.zero j h
  · rw [I]; exact t.one j ((P j).1 h)
  · rw [I, L] at *
    rw [P]
    exact t.reach j hj ((P j).1 hcj) k hk
  · rw [L] at hj hj'
    rw [I, I] at q
    exact t.dist j j' hj hj' ((P j).1 hcj) ((P j').1 hcj') q
def takeF (b : Nat) : Nat → List (Int × Int) → Nat → Nat → List (Int × Int)
  | 0, xs, _, _ => xs
  | f + 1, xs, hole, i =>
    if cntA xs i ≤ 0 then xs
    else if way xs.length (homeA b (idA xs i)) hole ≤ way xs.length (homeA b (idA xs i)) i then takeF b f ((xs.set hole (idA xs i, cntA xs i)).set i (0, 0)) i ((i + 1) % xs.length)
    else takeF b f xs hole ((i + 1) % xs.length)
def takeP (b : Nat) (xs : List (Int × Int)) (id : Int) : List (Int × Int) :=
  takeF b xs.length (xs.set (lookI xs b id) (0, 0)) (lookI xs b id) ((lookI xs b id + 1) % xs.length)
structure TabH (b : Nat) (xs : List (Int × Int)) (hole m : Nat) : Prop where
  len : xs.length = 2 ^ b
  bits : b ≤ 62
  pos : ∀ i, 0 ≤ cntA xs i
  zero : ∀ i, cntA xs i = 0 → idA xs i = 0
  one : ∀ i, 0 < cntA xs i → 1 ≤ idA xs i
  dist : ∀ i j, i < xs.length → j < xs.length → 0 < cntA xs i → 0 < cntA xs j → idA xs i = idA xs j → i = j
  hl : hole < xs.length
  he : cntA xs hole ≤ 0
  m1 : 1 ≤ m
  m2 : m ≤ xs.length
  mid : ∀ k, 1 ≤ k → k < m → 0 < cntA xs ((hole + k) % xs.length)
  reach : ∀ j, j < xs.length → 0 < cntA xs j → ∀ k, k < way xs.length (homeA b (idA xs j)) j → 0 < cntA xs ((homeA b (idA xs j) + k) % xs.length) ∨ ((homeA b (idA xs j) + k) % xs.length = hole ∧ k + m ≤ way xs.length (homeA b (idA xs j)) j)
theorem TabH.home {b : Nat} {xs : List (Int × Int)} {hole m : Nat} (t : TabH b xs hole m) (id : Int) : homeA b id < xs.length := by rw [t.len]; exact homeN_lt t.bits _
theorem TabH.done {b : Nat} {xs : List (Int × Int)} {hole m : Nat} (t : TabH b xs hole m) (h : cntA xs ((hole + m) % xs.length) ≤ 0) : Tab b xs := by
  refine ⟨t.len, t.bits, t.pos, t.zero, t.one, fun j hj hc k hk => ?_, t.dist⟩
  rcases t.reach j hj hc k hk with h1 | ⟨h1, h2⟩
  · exact h1
  · have hh := t.home (idA xs j)
    have hw := way_lt (homeA b (idA xs j)) j (show 0 < xs.length by omega)
    have ha := way_at hh hj
    have e : (homeA b (idA xs j) + (k + m)) % xs.length = (hole + m) % xs.length := by rw [← mod_mod_add, h1]
    by_cases hkm : k + m = way xs.length (homeA b (idA xs j)) j
    · rw [hkm, ha] at e
      rw [← e] at h; omega
    · rcases t.reach j hj hc (k + m) (by omega) with h3 | ⟨h3, h4⟩
      · rw [e] at h3; omega
      · -- back at the hole: too far
        have h5 := way_eq hh (k := k) (by omega) h1
        have h6 := way_eq hh (k := k + m) (by omega) h3
        have := t.m1
        omega
end Nl
end Go.Proofs.YtdnlejboijkcfaaGreatDoor
/- A table that is looked through (no program in sight): taking a node away. -/
namespace Go.Proofs.YtdnlejboijkcfaaGreatDoor
set_option maxHeartbeats 8000000
set_option maxRecDepth 100000
namespace Nl
def Has (xs : List (Int × Int)) (id c : Int) : Prop := ∃ i, i < xs.length ∧ idA xs i = id ∧ cntA xs i = c ∧ 0 < c
theorem TabH.start {b : Nat} {xs : List (Int × Int)} (t : Tab b xs) {h : Nat} (hh : h < xs.length) : TabH b (xs.set h (0, 0)) h 1 := by
  have C := fun j => cntA_set xs h j (0, 0) hh
  have I := fun j => idA_set xs h j (0, 0) hh
  have L : (xs.set h ((0 : Int), (0 : Int))).length = xs.length := by simp
  refine ⟨L.trans t.len, t.bits, fun j => ?_, fun j => ?_, fun j => ?_, fun j j' hj hj' hcj hcj' q => ?_, by rw [L]; exact hh, by rw [C, if_pos rfl]; exact Int.le_refl _, nlr, by rw [L]; omega, fun k h1 h2 => by omega, fun j hj hcj k hk => ?_⟩
  · rw [C]; split
    · exact Int.le_refl _
    · exact t.pos j
  · rw [C, I]; split
    · intro _; rfl
    · exact t.zero j
  · rw [C, I]; split
    · intro h; exact absurd h (by decide)
    · exact t.one j
  · rw [L] at hj hj'
    rw [C] at hcj hcj'
    rw [I, I] at q
    by_cases h1 : h = j
    · rw [if_pos h1] at hcj; exact absurd hcj (by decide)
    · by_cases h2 : h = j'
      · rw [if_pos h2] at hcj'; exact absurd hcj' (by decide)
      · rw [if_neg h1] at hcj q; rw [if_neg h2] at hcj' q
        exact t.dist j j' hj hj' hcj hcj' q
  · rw [L] at hj hk ⊢
    rw [C] at hcj
    by_cases h1 : h = j
    · rw [if_pos h1] at hcj; exact absurd hcj (by decide)
    · rw [if_neg h1] at hcj
      rw [I, if_neg h1] at hk ⊢
      by_cases h2 : h = (homeA b (idA xs j) + k) % xs.length
      · right; exact ⟨h2.symm, by omega⟩
      · left; rw [C, if_neg h2]; exact t.reach j hj hcj k hk
section
variable {b : Nat} {xs : List (Int × Int)} {hole m : Nat}
theorem TabH.skip (t : TabH b xs hole m) (hc : 0 < cntA xs ((hole + m) % xs.length))
    (hn : ¬ way xs.length (homeA b (idA xs ((hole + m) % xs.length))) hole ≤ way xs.length (homeA b (idA xs ((hole + m) % xs.length))) ((hole + m) % xs.length)) : TabH b xs hole (m + 1) := by
  have h0 : 0 < xs.length := by have := t.hl; omega
  have hm : m < xs.length := by
    have := t.m2
    by_cases h : m = xs.length
    · rw [h, Nat.add_mod_right, Nat.mod_eq_of_lt t.hl] at hc
      have := t.he; omega
    · omega
  refine ⟨t.len, t.bits, t.pos, t.zero, t.one, t.dist, t.hl, t.he, by omega, by omega, fun k h1 h2 => ?_, fun j hj hcj k hk => ?_⟩
  · by_cases h : k = m
    · rw [h]; exact hc
    · exact t.mid k h1 (by omega)
  · rcases t.reach j hj hcj k hk with h1 | ⟨h1, h2⟩
    · exact .inl h1
    · right
      refine ⟨h1, ?_⟩
      by_cases h : k + m = way xs.length (homeA b (idA xs j)) j
      · exfalso
        have hh := t.home (idA xs j)
        have hw := way_lt (homeA b (idA xs j)) j h0
        have ha := way_at hh hj
        rw [← h, ← mod_mod_add, h1] at ha
        rw [ha] at hn
        have := way_eq hh (k := k) (by omega) h1
        omega
      · omega
theorem TabH.move (t : TabH b xs hole m) {i : Nat} (hi : i = (hole + m) % xs.length) (hc : 0 < cntA xs i)
    (hw : way xs.length (homeA b (idA xs i)) hole ≤ way xs.length (homeA b (idA xs i)) i) : TabH b ((xs.set hole (idA xs i, cntA xs i)).set i (0, 0)) i 1 := by
  have h0 : 0 < xs.length := by have := t.hl; omega
  have hil : i < xs.length := by rw [hi]; exact Nat.mod_lt _ h0
  have hne : hole ≠ i := fun q => by have := t.he; rw [q] at this; omega
  have hL1 : i < (xs.set hole (idA xs i, cntA xs i)).length := by simpa using hil
  have L : ((xs.set hole (idA xs i, cntA xs i)).set i ((0 : Int), (0 : Int))).length = xs.length := by simp
  have C : ∀ j, cntA ((xs.set hole (idA xs i, cntA xs i)).set i (0, 0)) j = if i = j then 0 else if hole = j then cntA xs i else cntA xs j := fun j => by
    rw [cntA_set _ i j _ hL1, cntA_set xs hole j _ t.hl]
  have I : ∀ j, idA ((xs.set hole (idA xs i, cntA xs i)).set i (0, 0)) j = if i = j then 0 else if hole = j then idA xs i else idA xs j := fun j => by
    rw [idA_set _ i j _ hL1, idA_set xs hole j _ t.hl]
  generalize (xs.set hole (idA xs i, cntA xs i)).set i ((0 : Int), (0 : Int)) = ys at *
  have key : ∀ s, 0 < cntA xs s ∨ s = hole → s ≠ i → 0 < cntA ys s := fun s h1 h2 => by
    rw [C, if_neg (Ne.symm h2)]
    split
    · exact hc
    · rcases h1 with h1 | h1
      · exact h1
      · rename_i h3; exact absurd h1.symm h3
  refine ⟨L.trans t.len, t.bits, fun j => ?_, fun j => ?_, fun j => ?_, fun j j' hj hj' hcj hcj' q => ?_, by rw [L]; exact hil, by rw [C, if_pos rfl]; exact Int.le_refl _, nlr, by rw [L]; omega, fun k h1 h2 => by omega, fun j hj hcj k hk => ?_⟩
  · rw [C]; split
    · exact Int.le_refl _
    · split
      · omega
      · exact t.pos j
  · rw [C, I]; split
    · intro _; rfl
    · split
      · intro h; omega
      · exact t.zero j
  · rw [C, I]; split
    · intro h; exact absurd h (by decide)
    · split
      · intro _; exact t.one i hc
      · exact t.one j
  · rw [L] at hj hj'
    rw [C] at hcj hcj'
    rw [I, I] at q
    by_cases h1 : i = j
    · rw [if_pos h1] at hcj; exact absurd hcj (by decide)
    by_cases h2 : i = j'
    · rw [if_pos h2] at hcj'; exact absurd hcj' (by decide)
    rw [if_neg h1] at hcj q
    rw [if_neg h2] at hcj' q
    by_cases h3 : hole = j <;> by_cases h4 : hole = j'
    · omega
    · rw [if_pos h3, if_neg h4] at q
      rw [if_neg h4] at hcj'
      exact absurd (t.dist i j' hil hj' hc hcj' q) h2
    · rw [if_neg h3, if_pos h4] at q
      rw [if_neg h3] at hcj
      exact absurd (t.dist j i hj hil hcj hc q).symm h1
    · rw [if_neg h3, if_neg h4] at q
      rw [if_neg h3] at hcj
      rw [if_neg h4] at hcj'
      exact t.dist j j' hj hj' hcj hcj' q
  · rw [L] at hj hk ⊢
    rw [C] at hcj
    by_cases h1 : i = j
    · rw [if_pos h1] at hcj; exact absurd hcj (by decide)
    rw [if_neg h1] at hcj
    rw [I, if_neg h1] at hk ⊢
    by_cases h2 : hole = j
    · -- the node that was moved
      rw [if_pos h2] at hk ⊢
      rw [← h2] at hk
      have hh := t.home (idA xs i)
      have hwl := way_lt (homeA b (idA xs i)) i h0
      have hwn : way xs.length (homeA b (idA xs i)) hole ≠ way xs.length (homeA b (idA xs i)) i := fun q => by
        have e1 := way_at hh hil
        have e2 := way_at hh t.hl
        rw [← q, e2] at e1; exact hne e1
      left
      refine key _ ?_ (fun q => ?_)
      · rcases t.reach i hil hc k (by omega) with h3 | ⟨h3, _⟩
        · exact .inl h3
        · exact .inr h3
      · have := way_eq hh (k := k) (by omega) q
        omega
    · rw [if_neg h2] at hcj hk ⊢
      by_cases h5 : (homeA b (idA xs j) + k) % xs.length = i
      · right; exact ⟨h5, by omega⟩
      · left
        refine key _ ?_ h5
        rcases t.reach j hj hcj k hk with h3 | ⟨h3, _⟩
        · exact .inl h3
        · exact .inr h3
theorem has_move (t : TabH b xs hole m) {i : Nat} (hil : i < xs.length) (hc : 0 < cntA xs i) (id c : Int) : Has ((xs.set hole (idA xs i, cntA xs i)).set i (0, 0)) id c ↔ Has xs id c := by
  have hne : hole ≠ i := fun q => by have := t.he; rw [q] at this; omega
  have hL1 : i < (xs.set hole (idA xs i, cntA xs i)).length := by simpa using hil
  have L : ((xs.set hole (idA xs i, cntA xs i)).set i ((0 : Int), (0 : Int))).length = xs.length := by simp
  have C : ∀ j, cntA ((xs.set hole (idA xs i, cntA xs i)).set i (0, 0)) j = if i = j then 0 else if hole = j then cntA xs i else cntA xs j := fun j => by
    rw [cntA_set _ i j _ hL1, cntA_set xs hole j _ t.hl]
  have I : ∀ j, idA ((xs.set hole (idA xs i, cntA xs i)).set i (0, 0)) j = if i = j then 0 else if hole = j then idA xs i else idA xs j := fun j => by
    rw [idA_set _ i j _ hL1, idA_set xs hole j _ t.hl]
  unfold Has
  rw [L]
  constructor
  · rintro ⟨j, hj, h1, h2, h3⟩
    rw [I] at h1
    rw [C] at h2
    by_cases h4 : i = j
    · rw [if_pos h4] at h2; omega
    · rw [if_neg h4] at h1 h2
      by_cases h5 : hole = j
      · rw [if_pos h5] at h1 h2; exact ⟨i, hil, h1, h2, h3⟩
      · rw [if_neg h5] at h1 h2; exact ⟨j, hj, h1, h2, h3⟩
  · rintro ⟨j, hj, h1, h2, h3⟩
    by_cases h4 : i = j
    · refine ⟨hole, t.hl, ?_, ?_, h3⟩
      · rw [I, if_neg (Ne.symm hne), if_pos rfl, h4]; exact h1
      · rw [C, if_neg (Ne.symm hne), if_pos rfl, h4]; exact h2
    · have h5 : hole ≠ j := fun q => by have := t.he; rw [q, h2] at this; omega
      exact ⟨j, hj, by rw [I, if_neg h4, if_neg h5]; exact h1, by rw [C, if_neg h4, if_neg h5]; exact h2, h3⟩
end
theorem takeF_spec {b : Nat} (f : Nat) : ∀ (xs : List (Int × Int)) (hole m i e : Nat), TabH b xs hole m → i = (hole + m) % xs.length → e < xs.length → e ≠ hole → cntA xs e ≤ 0 → way xs.length i e < f →
    Tab b (takeF b f xs hole i) ∧ occ (takeF b f xs hole i) = occ xs ∧ sumL (takeF b f xs hole i) = sumL xs ∧ (takeF b f xs hole i).length = xs.length ∧ ∀ id c, Has (takeF b f xs hole i) id c ↔ Has xs id c := by
  induction f with
  | zero => intro xs hole m i e _ _ _ _ _ h; omega
  | succ f ih =>
    intro xs hole m i e t hi he hne hce hf
    have h0 : 0 < xs.length := by omega
    have hil : i < xs.length := by rw [hi]; exact Nat.mod_lt _ h0
    rw [takeF]
    by_cases h1 : cntA xs i ≤ 0
    · rw [if_pos h1]
      exact ⟨t.done (by rw [← hi]; exact h1), rfl, rfl, rfl, fun _ _ => Iff.rfl⟩
    · rw [if_neg h1]
      have hc : 0 < cntA xs i := by omega
      have hie : i ≠ e := fun q => by rw [q] at h1; exact h1 hce
      have hwn := way_next hil he hie
      by_cases h2 : way xs.length (homeA b (idA xs i)) hole ≤ way xs.length (homeA b (idA xs i)) i
      · rw [if_pos h2]
        have tm := t.move hi hc h2
        have L : ((xs.set hole (idA xs i, cntA xs i)).set i ((0 : Int), (0 : Int))).length = xs.length := by simp
        have hL1 : i < (xs.set hole (idA xs i, cntA xs i)).length := by simpa using hil
        have hhi : hole ≠ i := fun q => by have := t.he; rw [q] at this; omega
        have hce' : cntA ((xs.set hole (idA xs i, cntA xs i)).set i (0, 0)) e ≤ 0 := by
          rw [cntA_set _ i e _ hL1, if_neg hie, cntA_set xs hole e _ t.hl, if_neg (Ne.symm hne)]; exact hce
        have o1 := occ_set xs hole (idA xs i, cntA xs i) t.hl
        have o2 := occ_set (xs.set hole (idA xs i, cntA xs i)) i (0, 0) hL1
        have s1 := sumL_set xs hole (idA xs i, cntA xs i) t.hl
        have s2 := sumL_set (xs.set hole (idA xs i, cntA xs i)) i (0, 0) hL1
        have c2 : cntA (xs.set hole (idA xs i, cntA xs i)) i = cntA xs i := by rw [cntA_set xs hole i _ t.hl, if_neg hhi]
        have hhe := t.he
        have hhp := t.pos hole
        rw [c2] at o2 s2
        rw [if_pos hc] at o1 o2
        rw [if_neg (by omega)] at o1
        rw [if_neg (by decide)] at o2
        simp only at s1 s2
        have := ih _ i 1 ((i + 1) % xs.length) e tm (by rw [L]) (by rw [L]; exact he) (Ne.symm hie) hce' (by rw [L]; omega)
        obtain ⟨r1, r2, r3, r4, r5⟩ := this
        refine ⟨r1, by omega, by omega, r4.trans L, fun id c => (r5 id c).trans (has_move t hil hc id c)⟩
      · rw [if_neg h2]
        have ts := t.skip (by rw [← hi]; exact hc) (by rw [← hi]; exact h2)
        exact ih _ hole (m + 1) ((i + 1) % xs.length) e ts (by rw [hi]; exact add_mod_next) he hne hce (by omega)
theorem takeP_spec {b : Nat} {xs : List (Int × Int)} (t : Tab b xs) (id : Int) {e : Nat} (he : e < xs.length) (hce : cntA xs e ≤ 0) (hc : 0 < cntA xs (lookI xs b id)) :
    Tab b (takeP b xs id) ∧ occ (takeP b xs id) + 1 = occ xs ∧ sumL (takeP b xs id) = sumL xs - cntA xs (lookI xs b id) ∧ (takeP b xs id).length = xs.length ∧ ∀ id' c, Has (takeP b xs id) id' c ↔ (Has xs id' c ∧ id' ≠ id) := by
  obtain ⟨s1, s2, s3, s4⟩ := look_spec t id he (stopB_iff.2 (.inl hce))
  have hid : idA xs (lookI xs b id) = id := by
    rcases stopB_iff.1 s2 with h | h
    · omega
    · exact h
  unfold takeP
  generalize lookI xs b id = h at *
  have hne : e ≠ h := fun q => by rw [q] at hce; omega
  have L : (xs.set h ((0 : Int), (0 : Int))).length = xs.length := by simp
  have hce' : cntA (xs.set h (0, 0)) e ≤ 0 := by rw [cntA_set xs h e _ s3, if_neg (Ne.symm hne)]; exact hce
  have h0 : 0 < xs.length := by omega
  have hw := way_lt ((h + 1) % xs.length) e h0
  obtain ⟨r1, r2, r3, r4, r5⟩ := takeF_spec xs.length _ h 1 ((h + 1) % xs.length) e (TabH.start t s3) (by rw [L]) (by rw [L]; exact he) hne hce' (by rw [L]; exact hw)
  have o1 := occ_set xs h (0, 0) s3
  have s1 := sumL_set xs h (0, 0) s3
  rw [if_pos hc, if_neg (by decide)] at o1
  simp only at s1
  refine ⟨r1, by omega, by omega, r4.trans L, fun id' c => (r5 id' c).trans ?_⟩
  unfold Has
  rw [L]
  constructor
  · rintro ⟨j, hj, h1, h2, h3⟩
    rw [idA_set xs h j _ s3] at h1
    rw [cntA_set xs h j _ s3] at h2
    by_cases h4 : h = j
    · rw [if_pos h4] at h2; omega
    · rw [if_neg h4] at h1 h2
      refine ⟨⟨j, hj, h1, h2, h3⟩, fun q => h4 ?_⟩
      exact (t.dist j h hj s3 (by omega) hc (by rw [h1, hid, q])).symm
  · rintro ⟨⟨j, hj, h1, h2, h3⟩, h5⟩
    have h4 : h ≠ j := fun q => h5 (by rw [← h1, ← q, hid])
    refine ⟨j, hj, ?_, ?_, h3⟩
    · rw [idA_set xs h j _ s3, if_neg h4]; exact h1
    · rw [cntA_set xs h j _ s3, if_neg h4]; exact h2
end Nl
end Go.Proofs.YtdnlejboijkcfaaGreatDoor
/- A table that is looked through (no program in sight): putting nodes, twice as many slots, adding. -/
namespace Go.Proofs.YtdnlejboijkcfaaGreatDoor
set_option maxHeartbeats 8000000
set_option maxRecDepth 100000
namespace Nl
theorem new_spec {b : Nat} {xs : List (Int × Int)} (t : Tab b xs) {id c : Int} (h1 : 1 ≤ id) (hc : 0 < c) (ho : occ xs < xs.length) (hno : ∀ i, i < xs.length → 0 < cntA xs i → idA xs i ≠ id) :
    lookI xs b id < xs.length ∧ cntA xs (lookI xs b id) = 0 ∧ Tab b (xs.set (lookI xs b id) (id, c)) ∧ occ (xs.set (lookI xs b id) (id, c)) = occ xs + 1 ∧ sumL (xs.set (lookI xs b id) (id, c)) = sumL xs + c ∧ ∀ id' c', Has (xs.set (lookI xs b id) (id, c)) id' c' ↔ (Has xs id' c' ∨ (id' = id ∧ c' = c)) := by
  obtain ⟨e, he, hce⟩ := has_empty ho
  have hs := stopB_iff (xs := xs) (id := id) (i := e) |>.2 (.inl hce)
  obtain ⟨s1, s2, s3, s4⟩ := look_spec t id he hs
  have h0 : cntA xs (lookI xs b id) = 0 := by
    have := t.pos (lookI xs b id)
    rcases stopB_iff.1 s2 with h | h
    · omega
    · by_cases hp : 0 < cntA xs (lookI xs b id)
      · exact absurd h (hno _ s3 hp)
      · omega
  have tn := t.new h1 hc he hs (by omega)
  generalize lookI xs b id = i at *
  have o1 := occ_set xs i (id, c) s3
  have s5 := sumL_set xs i (id, c) s3
  rw [if_neg (by omega), if_pos hc] at o1
  simp only at s5
  refine ⟨s3, h0, tn, by omega, by omega, fun id' c' => ?_⟩
  have L : (xs.set i (id, c)).length = xs.length := by simp
  unfold Has
  rw [L]
  constructor
  · rintro ⟨j, hj, h2, h3, h4⟩
    rw [idA_set xs i j _ s3] at h2
    rw [cntA_set xs i j _ s3] at h3
    by_cases h5 : i = j
    · rw [if_pos h5] at h2 h3; exact .inr ⟨h2.symm, h3.symm⟩
    · rw [if_neg h5] at h2 h3; exact .inl ⟨j, hj, h2, h3, h4⟩
  · rintro (⟨j, hj, h2, h3, h4⟩ | ⟨rfl, rfl⟩)
    · have h5 : i ≠ j := fun q => by rw [← q, h0] at h3; omega
      exact ⟨j, hj, by rw [idA_set xs i j _ s3, if_neg h5]; exact h2, by rw [cntA_set xs i j _ s3, if_neg h5]; exact h3, h4⟩
    · exact ⟨i, s3, by rw [idA_set xs i i _ s3, if_pos rfl], by rw [cntA_set xs i i _ s3, if_pos rfl], hc⟩
def putAll (b : Nat) (t : List (Int × Int)) (ys : List (Int × Int)) : List (Int × Int) := ys.foldl (fun t x => t.set (lookI t b x.1) x) t
theorem putAll_length (b : Nat) (t ys : List (Int × Int)) : (putAll b t ys).length = t.length := by
  unfold putAll
  induction ys generalizing t with
  | nil => rfl
  | cons y r ih => simp only [List.foldl_cons]; rw [ih]; simp
theorem putAll_snoc (b : Nat) (t ys : List (Int × Int)) (y : Int × Int) : putAll b t (ys ++ [y]) = (putAll b t ys).set (lookI (putAll b t ys) b y.1) y := by
  unfold putAll; rw [List.foldl_append]; rfl
theorem putAll_spec {b : Nat} (ys : List (Int × Int)) : ∀ t : List (Int × Int), Tab b t → (∀ y ∈ ys, 1 ≤ y.1 ∧ 0 < y.2) → ys.Pairwise (fun x y => x.1 ≠ y.1) → (∀ y ∈ ys, ∀ i, i < t.length → 0 < cntA t i → idA t i ≠ y.1) → occ t + ys.length < t.length →
    Tab b (putAll b t ys) ∧ occ (putAll b t ys) = occ t + ys.length ∧ sumL (putAll b t ys) = sumL t + sumL ys ∧ ∀ id c, Has (putAll b t ys) id c ↔ (Has t id c ∨ (id, c) ∈ ys) := by
  induction ys with
  | nil => intro t ht _ _ _ _; exact ⟨ht, rfl, by simp [putAll, sumL], fun id c => by simp [putAll]⟩
  | cons y r ih =>
    intro t ht hy hp hn ho
    simp only [List.length_cons] at ho
    have hy1 := hy y (by simp)
    obtain ⟨n1, n2, n3, n4, n5, n6⟩ := new_spec ht hy1.1 hy1.2 (by omega) (hn y (by simp))
    have L : (t.set (lookI t b y.1) (y.1, y.2)).length = t.length := by simp
    have hp2 := List.pairwise_cons.1 hp
    obtain ⟨r1, r2, r3, r4⟩ := ih (t.set (lookI t b y.1) (y.1, y.2)) n3 (fun z hz => hy z (by simp [hz])) hp2.2 (fun z hz i hi hc q => by
      have : Has (t.set (lookI t b y.1) (y.1, y.2)) (idA (t.set (lookI t b y.1) (y.1, y.2)) i) (cntA (t.set (lookI t b y.1) (y.1, y.2)) i) := ⟨i, hi, rfl, rfl, hc⟩
      rcases (n6 _ _).1 this with ⟨j, hj, h2, h3, h4⟩ | ⟨h2, _⟩
      · exact hn z (by simp [hz]) j hj (by omega) (by rw [h2, q])
      · exact hp2.1 z hz (by rw [← h2, q])) (by rw [L]; omega)
    refine ⟨r1, ?_, ?_, fun id c => ?_⟩
    · show occ (putAll b (t.set (lookI t b y.1) (y.1, y.2)) r) = _
      rw [r2]; simp only [List.length_cons]; omega
    · show sumL (putAll b (t.set (lookI t b y.1) (y.1, y.2)) r) = _
      rw [r3]; simp only [sumL]; omega
    · show Has (putAll b (t.set (lookI t b y.1) (y.1, y.2)) r) id c ↔ _
      rw [r4, n6, List.mem_cons, or_assoc]
      constructor
      · rintro (h | ⟨h1, h2⟩ | h)
        · exact .inl h
        · exact .inr (.inl (by rw [h1, h2]))
        · exact .inr (.inr h)
      · rintro (h | h | h)
        · exact .inl h
        · right; left; rw [← h]; exact ⟨rfl, rfl⟩
        · exact .inr (.inr h)
def full (xs : List (Int × Int)) : List (Int × Int) := xs.filter (fun x => decide (0 < x.2))
theorem full_length (xs : List (Int × Int)) : (full xs).length = occ xs := by
  induction xs with
  | nil => rfl
  | cons x r ih =>
    unfold full at *
    rw [List.filter_cons]
    simp only [occ]
    by_cases h : 0 < x.2
    · rw [if_pos (by simpa using h), if_pos h, List.length_cons, ih]; omega
    · rw [if_neg (by simpa using h), if_neg h, ih]; omega
theorem full_sum {xs : List (Int × Int)} (h : ∀ i, 0 ≤ cntA xs i) : sumL (full xs) = sumL xs := by
  induction xs with
  | nil => rfl
  | cons x r ih =>
    have h0 : 0 ≤ x.2 := h 0
    have i := ih (fun i => h (i + 1))
    unfold full at *
    rw [List.filter_cons]
    simp only [sumL]
    by_cases hx : 0 < x.2
    · rw [if_pos (by simpa using hx)]; simp only [sumL]; omega
    · rw [if_neg (by simpa using hx)]; omega
theorem full_mem {xs : List (Int × Int)} {id c : Int} : (id, c) ∈ full xs ↔ Has xs id c := by
  unfold full Has
  rw [List.mem_filter]
  constructor
  · rintro ⟨h1, h2⟩
    obtain ⟨i, hi, he⟩ := List.getElem_of_mem h1
    refine ⟨i, hi, ?_, ?_, by simpa using h2⟩
    · unfold idA; simp [List.getD, List.getElem?_eq_getElem hi, he]
    · unfold cntA; simp [List.getD, List.getElem?_eq_getElem hi, he]
  · rintro ⟨i, hi, h1, h2, h3⟩
    refine ⟨?_, by simpa using h3⟩
    have : xs[i] = (id, c) := by
      rw [← h1, ← h2]
      unfold idA cntA
      simp [List.getD, List.getElem?_eq_getElem hi]
    rw [← this]
    exact List.getElem_mem hi
theorem Tab.full_pair {b : Nat} {xs : List (Int × Int)} (t : Tab b xs) : (full xs).Pairwise (fun x y => x.1 ≠ y.1) := by
  unfold full
  rw [List.pairwise_filter]
  rw [List.pairwise_iff_getElem]
  intro i j hi hj hij h1 h2 q
  have e : ∀ k (hk : k < xs.length), idA xs k = xs[k].1 ∧ cntA xs k = xs[k].2 := fun k hk => by
    unfold idA cntA; simp [List.getD, List.getElem?_eq_getElem hk]
  have := t.dist i j hi hj (by rw [(e i hi).2]; simpa using h1) (by rw [(e j hj).2]; simpa using h2) (by rw [(e i hi).1, (e j hj).1]; exact q)
  omega
theorem Tab.full_ok {b : Nat} {xs : List (Int × Int)} (t : Tab b xs) : ∀ y ∈ full xs, 1 ≤ y.1 ∧ 0 < y.2 := by
  rintro ⟨id, c⟩ h
  obtain ⟨i, hi, h1, h2, h3⟩ := full_mem.1 h
  have := t.one i (by omega)
  simp only; omega
def widenP (b : Nat) (xs : List (Int × Int)) : List (Int × Int) := putAll (b + 1) (List.replicate (2 ^ (b + 1)) (0, 0)) (full xs)
theorem cnt_zeros (n i : Nat) : cntA (List.replicate n ((0 : Int), (0 : Int))) i = 0 := by
  unfold cntA
  by_cases h : i < n <;> simp [List.getD, h]
theorem occ_zeros (n : Nat) : occ (List.replicate n ((0 : Int), (0 : Int))) = 0 := by
  induction n with
  | zero => rfl
  | succ n ih => simp [List.replicate_succ, occ, ih]
theorem sum_zeros (n : Nat) : sumL (List.replicate n ((0 : Int), (0 : Int))) = 0 := by
  induction n with
  | zero => rfl
  | succ n ih => simp [List.replicate_succ, sumL, ih]
theorem widen_spec {b : Nat} {xs : List (Int × Int)} (t : Tab b xs) (hb : b + 1 ≤ 62) :
    Tab (b + 1) (widenP b xs) ∧ occ (widenP b xs) = occ xs ∧ sumL (widenP b xs) = sumL xs ∧ (widenP b xs).length = 2 * xs.length ∧ ∀ id c, Has (widenP b xs) id c ↔ Has xs id c := by
  have hl := occ_le xs
  have h0 := t.pos_len
  have e : 2 ^ (b + 1) = 2 * xs.length := by rw [t.len, Nat.pow_succ]; omega
  obtain ⟨r1, r2, r3, r4⟩ := putAll_spec (full xs) (List.replicate (2 ^ (b + 1)) (0, 0)) (Tab.empty (b + 1) hb) t.full_ok t.full_pair (fun y _ i _ hc => by rw [cnt_zeros] at hc; omega) (by rw [occ_zeros, full_length]; simp; omega)
  refine ⟨r1, ?_, ?_, ?_, fun id c => (r4 id c).trans ?_⟩
  · show occ (putAll _ _ _) = _; rw [r2, occ_zeros, full_length]; omega
  · show sumL (putAll _ _ _) = _; rw [r3, sum_zeros, full_sum t.pos]; omega
  · show (putAll _ _ _).length = _; rw [putAll_length]; simp [e]
  · rw [full_mem]
    constructor
    · rintro (⟨i, hi, _, h2, h3⟩ | h)
      · rw [cnt_zeros] at h2; omega
      · exact h
    · exact .inr
def addT (b : Nat) (xs : List (Int × Int)) (id c : Int) : Nat × List (Int × Int) :=
  if c = 0 then (b, xs)
  else if 0 < cntA xs (lookI xs b id) then (b, xs.set (lookI xs b id) (id, cntA xs (lookI xs b id) + c))
  else if xs.length < 2 * (occ xs + 1) then (b + 1, (widenP b xs).set (lookI (widenP b xs) (b + 1) id) (id, c))
  else (b, xs.set (lookI xs b id) (id, c))
theorem addT_spec {b : Nat} {xs : List (Int × Int)} (t : Tab b xs) (hb : b + 1 ≤ 62) (hf : 2 * occ xs ≤ xs.length) {id c : Int} (h1 : 1 ≤ id) (hc : 0 ≤ c) :
    Tab (addT b xs id c).1 (addT b xs id c).2 ∧ 2 * occ (addT b xs id c).2 ≤ (addT b xs id c).2.length ∧ occ (addT b xs id c).2 ≤ occ xs + 1 ∧ sumL (addT b xs id c).2 = sumL xs + c ∧
      (((addT b xs id c).1 = b ∧ (addT b xs id c).2.length = xs.length) ∨ ((addT b xs id c).1 = b + 1 ∧ (addT b xs id c).2.length = 2 * xs.length ∧ xs.length < 2 * (occ xs + 1) ∧ occ (addT b xs id c).2 = occ xs + 1)) ∧
      ∀ id' c', Has (addT b xs id c).2 id' c' ↔ ((id' ≠ id ∧ Has xs id' c') ∨ (id' = id ∧ c' = cntA xs (lookI xs b id) + c ∧ 0 < c')) := by
  have h0 := t.pos_len
  obtain ⟨e, he, hce⟩ := has_empty (show occ xs < xs.length by omega)
  obtain ⟨s1, s2, s3, s4⟩ := look_spec t id he (stopB_iff.2 (.inl hce))
  have hp := t.pos (lookI xs b id)
  have hsame : 0 < cntA xs (lookI xs b id) → idA xs (lookI xs b id) = id := fun h => by
    rcases stopB_iff.1 s2 with q | q
    · omega
    · exact q
  have hnone : cntA xs (lookI xs b id) ≤ 0 → ∀ i, i < xs.length → 0 < cntA xs i → idA xs i ≠ id := look_none t id
  unfold addT
  by_cases c0 : c = 0
  · rw [if_pos c0]
    dsimp only
    refine ⟨t, hf, by omega, by omega, .inl ⟨rfl, rfl⟩, fun id' c' => ?_⟩
    constructor
    · intro h
      by_cases hi : id' = id
      · right
        obtain ⟨j, hj, g1, g2, g3⟩ := h
        refine ⟨hi, ?_, g3⟩
        have := (look_found t hj (by omega)).2
        rw [g1, hi] at this
        rw [this, g2]; omega
      · exact .inl ⟨hi, h⟩
    · rintro (⟨_, h⟩ | ⟨g1, g2, g3⟩)
      · exact h
      · exact ⟨lookI xs b id, s3, by rw [g1]; exact hsame (by omega), by omega, g3⟩
  rw [if_neg c0]
  by_cases hk : 0 < cntA xs (lookI xs b id)
  · rw [if_pos hk]
    dsimp only
    have hid := hsame hk
    have tu := t.upd s3 hk (c := cntA xs (lookI xs b id) + c) (by omega)
    rw [hid] at tu
    have o1 := occ_set xs (lookI xs b id) (id, cntA xs (lookI xs b id) + c) s3
    have s5 := sumL_set xs (lookI xs b id) (id, cntA xs (lookI xs b id) + c) s3
    rw [if_pos hk, if_pos (by show 0 < cntA xs (lookI xs b id) + c; omega)] at o1
    simp only at s5
    have L : (xs.set (lookI xs b id) (id, cntA xs (lookI xs b id) + c)).length = xs.length := by simp
    refine ⟨tu, by rw [L]; omega, by omega, by omega, .inl ⟨rfl, L⟩, fun id' c' => ?_⟩
    unfold Has
    rw [L]
    constructor
    · rintro ⟨j, hj, g1, g2, g3⟩
      rw [idA_set xs _ j _ s3] at g1
      rw [cntA_set xs _ j _ s3] at g2
      by_cases h5 : lookI xs b id = j
      · rw [if_pos h5] at g1 g2; exact .inr ⟨g1.symm, g2.symm, g3⟩
      · rw [if_neg h5] at g1 g2
        refine .inl ⟨fun q => h5 ?_, j, hj, g1, g2, g3⟩
        exact t.dist _ j s3 hj hk (by omega) (by rw [hid, g1, q])
    · rintro (⟨g0, j, hj, g1, g2, g3⟩ | ⟨g1, g2, g3⟩)
      · have h5 : lookI xs b id ≠ j := fun q => g0 (by rw [← g1, ← q, hid])
        exact ⟨j, hj, by rw [idA_set xs _ j _ s3, if_neg h5]; exact g1, by rw [cntA_set xs _ j _ s3, if_neg h5]; exact g2, g3⟩
      · exact ⟨lookI xs b id, s3, by rw [idA_set xs _ _ _ s3, if_pos rfl]; exact g1.symm, by rw [cntA_set xs _ _ _ s3, if_pos rfl]; exact g2.symm, g3⟩
  · rw [if_neg hk]
    have hz : cntA xs (lookI xs b id) = 0 := by omega
    have hno := hnone (by omega)
    have hnh : ∀ c', ¬ Has xs id c' := fun c' ⟨j, hj, g1, g2, g3⟩ => hno j hj (by omega) g1
    have fin : ∀ (ys : List (Int × Int)), (∀ id' c', Has ys id' c' ↔ (Has xs id' c' ∨ (id' = id ∧ c' = c))) → ∀ id' c', Has ys id' c' ↔ ((id' ≠ id ∧ Has xs id' c') ∨ (id' = id ∧ c' = cntA xs (lookI xs b id) + c ∧ 0 < c')) := by
      intro ys h id' c'
      rw [h, hz]
      constructor
      · rintro (g | ⟨g1, g2⟩)
        · exact .inl ⟨fun q => hnh c' (q ▸ g), g⟩
        · exact .inr ⟨g1, by omega, by omega⟩
      · rintro (⟨_, g⟩ | ⟨g1, g2, _⟩)
        · exact .inl g
        · exact .inr ⟨g1, by omega⟩
    by_cases hw : xs.length < 2 * (occ xs + 1)
    · rw [if_pos hw]
      dsimp only
      obtain ⟨w1, w2, w3, w4, w5⟩ := widen_spec t hb
      obtain ⟨n1, n2, n3, n4, n5, n6⟩ := new_spec w1 h1 (show 0 < c by omega) (by omega) (fun i hi hci q => by
        have : Has (widenP b xs) id (cntA (widenP b xs) i) := ⟨i, hi, q, rfl, hci⟩
        exact hnh _ ((w5 _ _).1 this))
      have L : ((widenP b xs).set (lookI (widenP b xs) (b + 1) id) (id, c)).length = (widenP b xs).length := by simp
      refine ⟨n3, by rw [L]; omega, by omega, by omega, .inr ⟨rfl, by rw [L]; omega, hw, by omega⟩, ?_⟩
      exact fin _ (fun id' c' => by rw [n6, w5])
    · rw [if_neg hw]
      dsimp only
      obtain ⟨n1, n2, n3, n4, n5, n6⟩ := new_spec t h1 (show 0 < c by omega) (by omega) hno
      have L : (xs.set (lookI xs b id) (id, c)).length = xs.length := by simp
      refine ⟨n3, by rw [L]; omega, by omega, by omega, .inl ⟨rfl, L⟩, ?_⟩
      exact fin _ n6
end Nl
end Go.Proofs.YtdnlejboijkcfaaGreatDoor
/- The walks of the probe: next, way, right, look. -/
namespace Go.Proofs.YtdnlejboijkcfaaGreatDoor
set_option maxHeartbeats 8000000
set_option maxRecDepth 100000
open Go.RowKit Nl
def Pn (w : World) (g h : Nat) (l : Int) (b : Nat) (u t : Int) (xs : List Nd) : Prop :=
  ∃ (cap : Nat) (rest : List Value), Blk w g #[.int .i64 l, .int .i64 b, .int .i64 u, .int .i64 t, .slice (some ⟨h, 0, none⟩) xs.length (xs.length + cap)] 216 ∧ Blk w h (ncells xs ++ rest).toArray 116 ∧ g ≠ h
section
variable {w : World} {g h : Nat} {l u t : Int} {b : Nat} {xs : List Nd}
theorem Pn.mk (h1 : Blk w g #[.int .i64 l, .int .i64 b, .int .i64 u, .int .i64 t, .slice (some ⟨h, 0, none⟩) xs.length xs.length] 216) (h2 : Blk w h (ncells xs).toArray 116) (h3 : g ≠ h) : Pn w g h l b u t xs :=
  ⟨0, [], h1, by rw [List.append_nil]; exact h2, h3⟩
theorem Pn.c0 (d : Pn w g h l b u t xs) : w.cell? ⟨g, 0, none⟩ = some (.int .i64 l) := by obtain ⟨cap, rest, d1, d2, d3⟩ := d; exact d1.cell 0
theorem Pn.c1 (d : Pn w g h l b u t xs) : w.cell? ⟨g, 1, none⟩ = some (.int .i64 b) := by obtain ⟨cap, rest, d1, d2, d3⟩ := d; exact d1.cell 1
theorem Pn.c2 (d : Pn w g h l b u t xs) : w.cell? ⟨g, 2, none⟩ = some (.int .i64 u) := by obtain ⟨cap, rest, d1, d2, d3⟩ := d; exact d1.cell 2
theorem Pn.c3 (d : Pn w g h l b u t xs) : w.cell? ⟨g, 3, none⟩ = some (.int .i64 t) := by obtain ⟨cap, rest, d1, d2, d3⟩ := d; exact d1.cell 3
theorem Pn.c4 (d : Pn w g h l b u t xs) : ∃ cap, w.cell? ⟨g, 4, none⟩ = some (.slice (some ⟨h, 0, none⟩) xs.length cap) := by obtain ⟨cap, rest, d1, d2, d3⟩ := d; exact ⟨_, d1.cell 4⟩
theorem Pn.fg (d : Pn w g h l b u t xs) (j : Nat) : w.frozen? ⟨g, j, none⟩ = false := by obtain ⟨cap, rest, d1, d2, d3⟩ := d; exact d1.free j
theorem Pn.fh (d : Pn w g h l b u t xs) (j : Nat) : w.frozen? ⟨h, j, none⟩ = false := by obtain ⟨cap, rest, d1, d2, d3⟩ := d; exact d2.free j
theorem Pn.lg (d : Pn w g h l b u t xs) : g < w.heap.size := by obtain ⟨cap, rest, d1, d2, d3⟩ := d; exact d1.lt
theorem Pn.lh (d : Pn w g h l b u t xs) : h < w.heap.size := by obtain ⟨cap, rest, d1, d2, d3⟩ := d; exact d2.lt
theorem Pn.ne (d : Pn w g h l b u t xs) : g ≠ h := by obtain ⟨cap, rest, d1, d2, d3⟩ := d; exact d3
theorem Pn.tch {w' : World} {g' h' : Nat} (d : Pn w g h l b u t xs) (tc : Tch g' h' w w') (e1 : g ≠ g') (e2 : g ≠ h') (e3 : h ≠ g') (e4 : h ≠ h') : Pn w' g h l b u t xs := by
  obtain ⟨cap, rest, d1, d2, d3⟩ := d; exact ⟨cap, rest, d1.tch tc e1 e2, d2.tch tc e3 e4, d3⟩
theorem Pn.below {w' : World} {B : Nat} (d : Pn w g h l b u t xs) (bl : Below B w w') (hB : w.heap.size ≤ B) : Pn w' g h l b u t xs := by
  obtain ⟨cap, rest, d1, d2, d3⟩ := d; exact ⟨cap, rest, d1.below bl hB, d2.below bl hB, d3⟩
theorem Pn.drewN (d : Pn w g h l b u t xs) (n : Nat) : Pn (w.drewN n) g h l b u t xs := d
theorem Pn.drew (d : Pn w g h l b u t xs) : Pn w.drew g h l b u t xs := d
theorem ncells_rest (rest : List Value) {k : Nat} (hk : k < xs.length) : (ncells xs ++ rest)[k * 2]? = some (.int .i64 (idA xs k)) ∧ (ncells xs ++ rest)[k * 2 + 1]? = some (.int .i64 (cntA xs k)) := by
  obtain ⟨g1, g2⟩ := ncells_get xs k hk
  have hl := ncells_length xs
  rw [List.getElem?_append_left (by omega), List.getElem?_append_left (by omega)]
  exact ⟨g1, g2⟩
theorem Pn.rd (d : Pn w g h l b u t xs) : ∃ cap, w.cell? ⟨g, 4, none⟩ = some (.slice (some ⟨h, 0, none⟩) xs.length cap) ∧ RdN w (.slice (some ⟨h, 0, none⟩) xs.length cap) xs := by
  obtain ⟨cap, rest, d1, d2, d3⟩ := d
  refine ⟨_, d1.cell 4, .inr (.inr ⟨h, 0, _, rfl, d2.lt, Nat.le_add_right _ _, fun k hk => ?_⟩)⟩
  obtain ⟨g1, g2⟩ := ncells_rest (xs := xs) rest hk
  rw [Nat.zero_add]
  exact ⟨(d2.cell _).trans (by simpa [idA] using g1), (d2.cell _).trans (by simpa [cntA] using g2)⟩
theorem Pn.at (d : Pn w g h l b u t xs) {k : Nat} (hk : k < xs.length) : w.cell? ⟨h, k * 2, none⟩ = some (.int .i64 (idA xs k)) ∧ w.cell? ⟨h, k * 2 + 1, none⟩ = some (.int .i64 (cntA xs k)) := by
  obtain ⟨cap, rest, d1, d2, d3⟩ := d
  obtain ⟨g1, g2⟩ := ncells_rest (xs := xs) rest hk
  exact ⟨(d2.cell _).trans (by simpa using g1), (d2.cell _).trans (by simpa using g2)⟩
end
theorem i64_and_pow (n : Int) (b : Nat) (hb : b ≤ 40) : bits .and .i64 n (((2 ^ b : Nat) : Int) - 1) = n % ((2 ^ b : Nat) : Int) := by
  have h40 : 2 ^ b ≤ 2 ^ 40 := Nat.pow_le_pow_right (by omega) hb
  have h41 : (2 : Nat) ^ 40 = 1099511627776 := rfl
  have h1 : 1 ≤ 2 ^ b := Nat.one_le_two_pow
  have hd : ((2 ^ b : Nat) : Int) ∣ ((2 ^ 64 : Nat) : Int) := Int.natCast_dvd_natCast.2 (Nat.pow_dvd_pow 2 (by omega))
  have hm : (BitVec.ofInt 64 (((2 ^ b : Nat) : Int) - 1)).toNat = 2 ^ b - 1 := by
    rw [BitVec.toNat_ofInt]
    have h64 : ((2 ^ 64 : Nat) : Int) = 18446744073709551616 := rfl
    rw [h64]; omega
  have key : (BitVec.ofInt 64 n &&& BitVec.ofInt 64 (((2 ^ b : Nat) : Int) - 1)).toNat = (n % ((2 ^ 64 : Nat) : Int)).toNat % 2 ^ b := by
    rw [BitVec.toNat_and, BitVec.toNat_ofInt, hm, Nat.and_two_pow_sub_one_eq_mod]
  show IntKind.i64.wrap ((BitVec.ofInt 64 n &&& BitVec.ofInt 64 (((2 ^ b : Nat) : Int) - 1)).toNat : Nat) = n % ((2 ^ b : Nat) : Int)
  rw [key]
  have h2 : (((n % ((2 ^ 64 : Nat) : Int)).toNat % 2 ^ b : Nat) : Int) = n % ((2 ^ b : Nat) : Int) := by
    rw [Int.natCast_emod, Int.toNat_of_nonneg (Int.emod_nonneg _ (by decide)), Int.emod_emod_of_dvd n hd]
  rw [h2, IntKind.wrap_i64]
  have h3 := Int.emod_nonneg n (show ((2 ^ b : Nat) : Int) ≠ 0 by omega)
  have h4 := Int.emod_lt_of_pos n (show (0 : Int) < ((2 ^ b : Nat) : Int) by omega)
  omega
theorem and_next {n b : Nat} (hl : n = 2 ^ b) (hb : b ≤ 40) (i : Nat) : bits .and .i64 ((i : Int) + 1) ((n : Int) - 1) = (((i + 1) % n : Nat) : Int) := by
  subst hl
  rw [i64_and_pow _ b hb]; simp
theorem and_way {n b : Nat} (hl : n = 2 ^ b) (hb : b ≤ 40) {i j : Nat} (hi : i < n) (hj : j < n) : bits .and .i64 ((j : Int) - i) ((n : Int) - 1) = ((way n i j : Nat) : Int) := by
  subst hl
  rw [i64_and_pow _ b hb]
  rcases way_cases hi hj with ⟨h1, h2⟩ | ⟨h1, h2⟩
  · rw [h2, Int.emod_eq_of_lt (by omega) (by omega)]; omega
  · rw [h2, ← Int.add_emod_right, Int.emod_eq_of_lt (by omega) (by omega)]; omega
theorem p_next {w : World} {g h : Nat} {l u t : Int} {b : Nat} {xs : List Nd} (d : Pn w g h l b u t xs) (hl : xs.length = 2 ^ b) (hb : b ≤ 40) (i : Nat) (hi : i < xs.length) :
    Calls Tryz.prog 187 #[.pointer (some ⟨g, 0, none⟩), .int .i64 i] w fun e w' => e = .returned (.int .i64 ((i + 1) % xs.length : Nat)) ∧ w = w' := by
  obtain ⟨capc4, c4⟩ := d.c4
  have h40 : 2 ^ b ≤ 2 ^ 40 := Nat.pow_le_pow_right (by omega) hb
  have h41 : (2 : Nat) ^ 40 = 1099511627776 := rfl
  have hlen : xs.length ≤ 1099511627776 := by omega
  clear h40 h41
  have Hl := hid hl
  clear hl
  go_enter Tryz.func187, Tryz.ntmps187
  go_wp2
  go_ret
  exact ⟨ret_int (and_next Hl.out hb i), rfl⟩
theorem p_way {w : World} {g h : Nat} {l u t : Int} {b : Nat} {xs : List Nd} (d : Pn w g h l b u t xs) (hl : xs.length = 2 ^ b) (hb : b ≤ 40) (i j : Nat) (hi : i < xs.length) (hj : j < xs.length) :
    Calls Tryz.prog 243 #[.pointer (some ⟨g, 0, none⟩), .int .i64 i, .int .i64 j] w fun e w' => e = .returned (.int .i64 (way xs.length i j : Nat)) ∧ w = w' := by
  obtain ⟨capc4, c4⟩ := d.c4
  have h40 : 2 ^ b ≤ 2 ^ 40 := Nat.pow_le_pow_right (by omega) hb
  have h41 : (2 : Nat) ^ 40 = 1099511627776 := rfl
  have hlen : xs.length ≤ 1099511627776 := by omega
  clear h40 h41
  have Hl := hid hl
  clear hl
  go_enter Tryz.func243, Tryz.ntmps243
  go_wp2
  go_ret
  exact ⟨ret_int (and_way Hl.out hb hi hj), rfl⟩
theorem p_right {w : World} {g h : Nat} {l u t : Int} {b : Nat} {xs : List Nd} (id : Int) (d : Pn w g h l b u t xs) (hl : 1 ≤ l ∧ l ≤ 48) (bi : -9223372036854775808 ≤ id ∧ id ≤ 9223372036854775807) :
    Calls Tryz.prog 154 #[.pointer (some ⟨g, 0, none⟩), .int .i64 id] w fun e w' => e = .returned (.bool (rightB l id)) ∧ w = w' := by
  have c0 : w.cell? ⟨g, 0, none⟩ = some (.int .i64 l) := d.c0
  go_enter Tryz.func154, Tryz.ntmps154
  go_wp2_with fail
  refine (twig_right l id w (by omega) (by omega) bi.1 bi.2).mono ?_
  rintro e w' ⟨rfl, rfl⟩
  go_wp2_with fail
  go_ret
  exact ⟨rfl, rfl⟩
end Go.Proofs.YtdnlejboijkcfaaGreatDoor
/- The walk of the probe's look. -/
namespace Go.Proofs.YtdnlejboijkcfaaGreatDoor
set_option maxHeartbeats 8000000
set_option maxRecDepth 100000
open Go.RowKit Nl
theorem homeV_nat {b : Nat} {id : Int} (h1 : 1 ≤ b) (h2 : b ≤ 62) (h3 : 1 ≤ id) : homeV (b : Int) id = (homeA b id : Int) := by
  unfold homeV homeA
  rw [if_neg (by omega)]; rfl
def LookRel (w : World) (n H D : Nat) (i c : Value) (wr : World) : Prop := ∃ j : Nat, i = .int .i64 (((H + j) % n : Nat) : Int) ∧ c = .int .i64 ((j : Int) + 1) ∧ j ≤ D ∧ Below w.heap.size w wr
theorem p_look {w : World} {g h : Nat} {l u t : Int} {b : Nat} {xs : List Nd} (id : Int) (d : Pn w g h l b u t xs) (T : Tab b xs) (hb1 : 1 ≤ b) (hb : b ≤ 40) {e : Nat} (he : e < xs.length) (hs : stopB xs id e = true) (bi : 1 ≤ id ∧ id ≤ 9223372036854775807) :
    Calls Tryz.prog 155 #[.pointer (some ⟨g, 0, none⟩), .int .i64 id] w fun e w' => e = .returned (.tuple #[.int .i64 (lookI xs b id : Nat), .int .i64 ((lookD xs b id : Nat) + 1)]) ∧ Below w.heap.size w w' := by
  have c1 : w.cell? ⟨g, 1, none⟩ = some (.int .i64 b) := d.c1
  have hlg := d.lg
  obtain ⟨s1, s2, s3, s4⟩ := look_spec T id he hs
  have hlen40 : xs.length ≤ 1099511627776 := by
    have h40 : 2 ^ b ≤ 2 ^ 40 := Nat.pow_le_pow_right (by omega) hb
    have h41 : (2 : Nat) ^ 40 = 1099511627776 := rfl
    rw [T.len]; omega
  have h0 := T.pos_len
  have hhome := T.home id
  have HV := hid (homeV_nat (b := b) hb1 (by omega) bi.1)
  have hI : Hid (lookI xs b id = (homeA b id + lookD xs b id) % xs.length) := rfl
  have Pos := hid T.pos
  have S2 := hid s2
  have S4 := hid s4
  have Len := hid T.len
  generalize lookD xs b id = D at *
  generalize lookI xs b id = I at *
  generalize homeA b id = H at *
  clear s2 s4 hs
  go_enter Tryz.func155, Tryz.ntmps155
  go_wp2_with fail
  go_step3
  go_wp2_with fail
  refine (p_home b id w (by omega) (by omega) (by omega) bi.2).mono ?_
  rintro e w' ⟨rfl, rfl⟩
  rw [HV.out]
  go_wp2_with fail
  go_step3
  go_wp2_with fail
  go_loopw [6, 7] (fun i c wr => LookRel w xs.length H D i c wr) (fun _ c _ => D + 2 - (intOf c).toNat)
  case atStart => exact ⟨0, by rw [Nat.add_zero, Nat.mod_eq_of_lt hhome], rfl, by omega, Below.refl _ _⟩
  case round =>
    obtain ⟨j, rfl, rfl, hj, hbl⟩ := hrel
    have hwr := hbl.size
    have d2 := d.below hbl nlr
    obtain ⟨capc4, c4⟩ := d2.c4
    have hq : (H + j) % xs.length < xs.length := Nat.mod_lt _ h0
    obtain ⟨q1, q2⟩ := d2.at hq
    have hnext : Hid (((H + j) % xs.length + 1) % xs.length = (H + (j + 1)) % xs.length) := add_mod_next
    have Sj : Hid (j < D → 0 < cntA xs ((H + j) % xs.length) ∧ idA xs ((H + j) % xs.length) ≠ id) := S4.out j
    have SD : Hid (j = D → cntA xs ((H + j) % xs.length) ≤ 0 ∨ idA xs ((H + j) % xs.length) = id) := fun q => by
      subst q; have := S2.out; rw [hI.out] at this; exact stopB_iff.1 this
    have Pj := hid (Pos.out ((H + j) % xs.length))
    have hIj : Hid (j = D → (H + j) % xs.length = I) := fun q => by subst q; exact hI.out.symm
    generalize (H + j) % xs.length = q at *
    generalize cntA xs q = x at *
    generalize idA xs q = y at *
    by_cases h1 : x = 0
    · have hD : j = D := by
        by_cases q : j < D
        · have := (Sj.out q).1; omega
        · omega
      have hx : (x == 0) = true := by simpa using h1
      have HD := hid hD
      clear h1 hD
      as_aux_lemma =>
        go_wp2_with fail
        try rw [Exit.noGoto_ret]
        go_ret2
        refine ⟨?_, hbl.trans (((Below.refl _ _).alloc nlr _).mono hwr)⟩
        have e1 := HD.out
        have e2 := hIj.out e1
        subst e1 e2
        rfl
    · have hx : (x == 0) = false := by simpa using h1
      have H1 := hid h1
      clear h1
      by_cases h2 : y = id
      · have hD : j = D := by
          by_cases q : j < D
          · exact absurd h2 (Sj.out q).2
          · omega
        have hy : (y == id) = true := by simpa using h2
        have HD := hid hD
        have H2 := hid h2
        clear h2 hD
        as_aux_lemma =>
          go_wp2_with fail
          try rw [Exit.noGoto_ret]
          go_ret2
          refine ⟨?_, hbl.trans (((Below.refl _ _).alloc nlr _).mono hwr)⟩
          have e1 := HD.out
          have e2 := hIj.out e1
          subst e1 e2
          rfl
      · have hy : (y == id) = false := by simpa using h2
        have hlt : j < D := by
          by_cases q : j = D
          · rcases SD.out q with h | h
            · have := Pj.out; have := H1.out; omega
            · exact absurd h h2
          · omega
        clear h2
        have hba : Below wr.heap.size wr (wr.alloc (.cells #[.int .i64 y, .int .i64 x] 116)) := (Below.refl _ _).alloc nlr _
        have d3 := d2.below hba nlr
        as_aux_lemma =>
          go_wp2_with fail
          refine (p_next d3 Len.out hb q hq).mono ?_
          rintro e w' ⟨rfl, rfl⟩
          rw [hnext.out]
          go_wp2_with fail
          go_roundw
          case rel => exact ⟨j + 1, rfl, by go_num, by omega, hbl.trans (hba.mono hwr)⟩
          case measure => simp [intOf]; omega
end Go.Proofs.YtdnlejboijkcfaaGreatDoor
/- The walks of the probe: New, L, Len, Total, Size, Slot, Get, Walk. -/
namespace Go.Proofs.YtdnlejboijkcfaaGreatDoor
set_option maxHeartbeats 8000000
set_option maxRecDepth 100000
open Go.RowKit Nl
namespace Nl
structure Pv (l : Int) (b : Nat) (xs : List (Int × Int)) : Prop where
  l1 : 1 ≤ l
  l2 : l ≤ 48
  tab : Tab b xs
  half : 2 * occ xs ≤ xs.length
  most : sumL xs ≤ 72057594037927935
  ids : ∀ i, 0 < cntA xs i → rightB l (idA xs i) = true
def pGet (l : Int) (b : Nat) (xs : List (Int × Int)) (id : Int) : Int := if rightB l id then cntA xs (lookI xs b id) else 0
theorem Pv.empty {l : Int} {b : Nat} {xs : List (Int × Int)} (v : Pv l b xs) : ∃ e, e < xs.length ∧ ∀ id, stopB xs id e = true := by
  have h0 := v.tab.pos_len
  have hh := v.half
  obtain ⟨e, he, hc⟩ := has_empty (show occ xs < xs.length by omega)
  exact ⟨e, he, fun id => stopB_iff.2 (.inl hc)⟩
theorem right_pos {l id : Int} (h : rightB l id = true) : 1 ≤ id := by
  simp only [rightB, decide_eq_true_eq] at h; omega
theorem pos_of_tab {b : Nat} {xs : List (Int × Int)} (t : Tab b xs) : Pos xs := fun x hx => by
  obtain ⟨i, hi, e⟩ := List.mem_iff_getElem.1 hx
  have := t.pos i
  unfold cntA at this
  rw [show xs.getD i (0, 0) = x by simp [List.getD, List.getElem?_eq_getElem hi, e]] at this
  exact this
theorem cnt_le {b : Nat} {xs : List (Int × Int)} (t : Tab b xs) (i : Nat) : cntA xs i ≤ sumL xs := by
  by_cases h : i < xs.length
  · exact (pos_of_tab t).le_sum _ (getD_mem xs i h)
  · have : cntA xs i = 0 := by unfold cntA; simp [List.getD, List.getElem?_eq_none (show xs.length ≤ i by omega)]
    rw [this]; exact sumL_nonneg (pos_of_tab t)
theorem Pv.new {l : Int} (h1 : 1 ≤ l) (h2 : l ≤ 48) : Pv l 3 (List.replicate 8 (0, 0)) where
  l1 := h1
  l2 := h2
  tab := Tab.empty 3 (by decide)
  half := by rw [occ_zeros]; simp
  most := by rw [sum_zeros]; decide
  ids := fun i h => by rw [cnt_zeros] at h; omega
end Nl
def PnV (w : World) (g h : Nat) (l : Int) (b : Nat) (xs : List Nd) : Prop := Pn w g h l b (occ xs) (sumL xs) xs ∧ Pv l b xs
theorem PnV.tch {w w' : World} {g h g' h' : Nat} {l : Int} {b : Nat} {xs : List Nd} (d : PnV w g h l b xs) (tc : Tch g' h' w w') (e1 : g ≠ g') (e2 : g ≠ h') (e3 : h ≠ g') (e4 : h ≠ h') : PnV w' g h l b xs := ⟨d.1.tch tc e1 e2 e3 e4, d.2⟩
theorem PnV.below {w w' : World} {g h B : Nat} {l : Int} {b : Nat} {xs : List Nd} (d : PnV w g h l b xs) (bl : Below B w w') (hB : w.heap.size ≤ B) : PnV w' g h l b xs := ⟨d.1.below bl hB, d.2⟩
theorem PnV.lt {w : World} {g h : Nat} {l : Int} {b : Nat} {xs : List Nd} (d : PnV w g h l b xs) : g < w.heap.size ∧ h < w.heap.size ∧ g ≠ h := ⟨d.1.lg, d.1.lh, d.1.ne⟩
theorem ncells_made (n : Nat) : madeCells #[.int .i64 0, .int .i64 0] (n * 2) = (ncells (List.replicate n (0, 0))).toArray := by
  apply Array.ext
  · simp [madeCells, ncells_length]
  · intro i h1 h2
    have h3 : i < n * 2 := by simpa [madeCells] using h1
    have hk : i / 2 < (List.replicate n ((0 : Int), (0 : Int))).length := by simp; omega
    obtain ⟨g1, g2⟩ := ncells_get (List.replicate n (0, 0)) (i / 2) hk
    have e0 : (List.replicate n ((0 : Int), (0 : Int))).getD (i / 2) (0, 0) = (0, 0) := by simp [List.getD, show i / 2 < n by omega]
    rw [e0] at g1 g2
    have e : (ncells (List.replicate n (0, 0)))[i]? = some (.int .i64 0) := by
      rcases Nat.mod_two_eq_zero_or_one i with h | h
      · rw [show i = i / 2 * 2 by omega]; exact g1
      · rw [show i = i / 2 * 2 + 1 by omega]; exact g2
    have e2 : (ncells (List.replicate n (0, 0))).toArray[i] = .int .i64 0 := by
      have := List.getElem?_eq_some_iff.1 e
      obtain ⟨q1, q2⟩ := this
      simpa using q2
    rw [e2]
    rcases Nat.mod_two_eq_zero_or_one i with h | h <;> simp [madeCells, h]
theorem make_nodes (n : Nat) (hn : n ≤ 17592186044416) (w : World) : (Instr.makeSlice 113 (.int .i64 n) (.int .i64 n)).run Tryz.prog w = .ok (.slice (some ⟨w.heap.size, 0, none⟩) n n) (w.alloc (.cells (ncells (List.replicate n (0, 0))).toArray 116)) := by
  obtain ⟨i0, hi, hz0, hz1, hz2⟩ := info_parts Tryz.infoNode
  have h := run_make (P := Tryz.prog) w 113 116 i0 (.agg #[.int .i64 0, .int .i64 0]) Tryz.underlying113 hi hz0 .i64 .i64 n n (by omega) (by omega) (by rw [hz2]; omega) (by omega)
  rw [h, hz1]
  simp [Value.cells, ncells_made]
theorem p_l {w : World} {g h : Nat} {l u t : Int} {b : Nat} {xs : List Nd} (d : Pn w g h l b u t xs) :
    Calls Tryz.prog 114 #[.pointer (some ⟨g, 0, none⟩)] w fun e w' => e = .returned (.int .i64 l) ∧ w = w' := by
  have c0 : w.cell? ⟨g, 0, none⟩ = some (.int .i64 l) := d.c0
  go_enter Tryz.func114, Tryz.ntmps114
  go_wp2
  go_ret
  exact ⟨rfl, rfl⟩
theorem p_len {w : World} {g h : Nat} {l u t : Int} {b : Nat} {xs : List Nd} (d : Pn w g h l b u t xs) :
    Calls Tryz.prog 157 #[.pointer (some ⟨g, 0, none⟩)] w fun e w' => e = .returned (.int .i64 u) ∧ w = w' := by
  have c0 : w.cell? ⟨g, 2, none⟩ = some (.int .i64 u) := d.c2
  go_enter Tryz.func157, Tryz.ntmps157
  go_wp2
  go_ret
  exact ⟨rfl, rfl⟩
theorem p_total {w : World} {g h : Nat} {l u t : Int} {b : Nat} {xs : List Nd} (d : Pn w g h l b u t xs) :
    Calls Tryz.prog 101 #[.pointer (some ⟨g, 0, none⟩)] w fun e w' => e = .returned (.int .i64 t) ∧ w = w' := by
  have c0 : w.cell? ⟨g, 3, none⟩ = some (.int .i64 t) := d.c3
  go_enter Tryz.func101, Tryz.ntmps101
  go_wp2
  go_ret
  exact ⟨rfl, rfl⟩
theorem p_get {w : World} {g h : Nat} {l : Int} {b : Nat} {xs : List Nd} (id : Int) (d : PnV w g h l b xs) (hb : b ≤ 40) (hb1 : 1 ≤ b) (bi : -9223372036854775808 ≤ id ∧ id ≤ 9223372036854775807) :
    Calls Tryz.prog 116 #[.pointer (some ⟨g, 0, none⟩), .int .i64 id] w fun e w' => e = .returned (.int .i64 (pGet l b xs id)) ∧ Below w.heap.size w w' := by
  obtain ⟨d, v⟩ := d
  obtain ⟨r, er⟩ : ∃ r, rightB l id = r := ⟨_, rfl⟩
  have Er := hid er
  cases r
  · have e : pGet l b xs id = 0 := by unfold pGet; rw [er]; rfl
    rw [e]
    clear er e
    go_enter Tryz.func116, Tryz.ntmps116
    go_wp2_with fail
    refine (p_right id d ⟨v.l1, v.l2⟩ bi).mono ?_
    rintro e w' ⟨rfl, rfl⟩
    rw [Er.out]
    go_wp2_with fail
    go_ret
    exact ⟨rfl, Below.refl _ _⟩
  · have e : pGet l b xs id = cntA xs (lookI xs b id) := by unfold pGet; rw [er]; rfl
    rw [e]
    obtain ⟨em, he, hs⟩ := v.empty
    have h1 := right_pos er
    have L := hid (p_look id d v.tab hb1 hb he (hs id) ⟨h1, bi.2⟩)
    have hi := (look_spec v.tab id he (hs id)).2.2.1
    generalize lookI xs b id = i at *
    generalize ex : cntA xs i = x at *
    have Ex := hid ex
    clear er e hs ex
    go_enter Tryz.func116, Tryz.ntmps116
    go_wp2_with fail
    refine (p_right id d ⟨v.l1, v.l2⟩ bi).mono ?_
    rintro e w' ⟨rfl, rfl⟩
    rw [Er.out]
    go_wp2_with fail
    refine L.out.mono ?_
    rintro e w' ⟨rfl, hb⟩
    have d2 := d.below hb nlr
    obtain ⟨capc4, c4⟩ := d2.c4
    obtain ⟨q1, q2⟩ := d2.at hi
    rw [Ex.out] at q2
    as_aux_lemma =>
      go_wp2_with fail
      go_ret
      exact ⟨rfl, hb⟩
theorem p_new_no (l : Int) (w : World) (h : l < 1 ∨ 48 < l) :
    Calls Tryz.prog 111 #[.int .i64 l] w fun e w' => e = .returned (.tuple #[.pointer none, .int .i64 2]) ∧ w = w' := by
  by_cases h1 : l < 1
  · go_enter Tryz.func111, Tryz.ntmps111
    go_wp2
    go_ret2
    exact ⟨rfl, rfl⟩
  · have h2 : 48 < l := by omega
    go_enter Tryz.func111, Tryz.ntmps111
    go_wp2
    go_ret2
    exact ⟨rfl, rfl⟩
def PNewPost (l : Int) (b : Nat) (xs : List Nd) (w : World) (e : Ending) (w' : World) : Prop :=
  ∃ g h, e = .returned (.tuple #[.pointer (some ⟨g, 0, none⟩), .int .i64 0]) ∧ PnV w' g h l b xs ∧ w.heap.size ≤ g ∧ w.heap.size ≤ h ∧ Below w.heap.size w w'
theorem p_new (l : Int) (w : World) (h1 : 1 ≤ l) (h2 : l ≤ 48) :
    Calls Tryz.prog 111 #[.int .i64 l] w (PNewPost l 3 (List.replicate 8 (0, 0)) w) := by
  have V := hid (Pv.new h1 h2)
  have hmk : ∀ w : World, (Instr.makeSlice 113 (.int .i64 8) (.int .i64 8)).run Tryz.prog w = .ok (.slice (some ⟨w.heap.size, 0, none⟩) 8 8) (w.alloc (.cells (ncells (List.replicate 8 (0, 0))).toArray 116)) := make_nodes 8 (by omega)
  have hlen : (List.replicate 8 ((0 : Int), (0 : Int))).length = 8 := by simp
  have ho := occ_zeros 8
  have hs := sum_zeros 8
  generalize List.replicate 8 ((0 : Int), (0 : Int)) = zs at *
  have Hlen := hid hlen
  have Ho := hid ho
  have Hs := hid hs
  clear hlen ho hs
  go_enter Tryz.func111, Tryz.ntmps111
  go_wp2
  refine bodyPost_ret (v := .tuple #[.pointer (some ⟨w.heap.size + 1, 0, none⟩), .int .i64 0]) (by simp [results, Tryz.results111, go_sem]) rfl ⟨w.heap.size + 1, w.heap.size, rfl, ⟨Pn.mk ?_ ((Blk.new _ _ _).alloc _) (by omega), V.out⟩, by omega, nlr, ((Below.refl _ _).alloc nlr _).alloc (by simp) _⟩
  rw [Hlen.out, Ho.out, Hs.out]
  have h := Blk.new (w.alloc (Obj.cells (ncells zs).toArray 116)) #[.int .i64 l, .int .i64 3, .int .i64 0, .int .i64 0, .slice (some ⟨w.heap.size, 0, none⟩) 8 8] 216
  simpa using h
end Go.Proofs.YtdnlejboijkcfaaGreatDoor
/- The walk of the probe's widen. -/
namespace Go.Proofs.YtdnlejboijkcfaaGreatDoor
set_option maxHeartbeats 8000000
set_option maxRecDepth 100000
open Go.RowKit Nl
theorem ncells_set2 (xs : List Nd) (k : Nat) (a c : Int) : ((ncells xs).toArray.setIfInBounds (k * 2) (.int .i64 a)).setIfInBounds (k * 2 + 1) (.int .i64 c) = (ncells (xs.set k (a, c))).toArray := by
  apply Array.ext'
  simp only [Array.toList_setIfInBounds]
  induction xs generalizing k with
  | nil => simp [ncells]
  | cons x r ih =>
    cases k with
    | zero => simp [ncells]
    | succ k =>
      have := ih k
      simp only [List.set_cons_succ, ncells, show (k + 1) * 2 = k * 2 + 1 + 1 by omega] at this ⊢
      simpa using this
theorem Tch.setNew {g h B j : Nat} {w w' : World} (t : Tch g h w w') (hB : w.heap.size ≤ B) (v : Value) : Tch g h w (w'.setCell ⟨B, j, none⟩ v) := by
  have b := (Below.refl 0 w').setCell (p := ⟨B, j, none⟩) (Nat.zero_le _) v
  exact ⟨b.os.trans t.os, b.tape.trans t.tape, b.output.trans t.output, Nat.le_trans t.size b.size, fun k hk e1 e2 => (Below.heap_setCell w' ⟨B, j, none⟩ v k (by show k ≠ B; omega)).trans (t.block k hk e1 e2)⟩
theorem Tch.below' {g h : Nat} {w w' w2 : World} (t : Tch g h w w') (b : Below w'.heap.size w' w2) : Tch g h w w2 := t.trans (Tch.of_below b)
theorem set_rest {A B : List Value} {k : Nat} (hk : k < A.length) (v : Value) : (A ++ B).toArray.setIfInBounds k v = (A.set k v ++ B).toArray := by
  apply Array.ext'
  simp [hk]
theorem Pn.store {w : World} {g h : Nat} {l u t : Int} {b : Nat} {xs : List Nd} (d : Pn w g h l b u t xs) (k : Nat) (hk : k < xs.length) (a c : Int) : Pn ((w.setCell ⟨h, k * 2, none⟩ (.int .i64 a)).setCell ⟨h, k * 2 + 1, none⟩ (.int .i64 c)) g h l b u t (xs.set k (a, c)) := by
  obtain ⟨cap, rest, d1, d2, d3⟩ := d
  refine ⟨cap, rest, ?_, ?_, d3⟩
  · have e : (xs.set k (a, c)).length = xs.length := by simp
    rw [e]
    exact (d1.set_other _ _ d3).set_other _ _ d3
  · have h2 := (d2.set (k * 2) (.int .i64 a)).set (k * 2 + 1) (.int .i64 c)
    have hl := ncells_length xs
    rw [set_rest (by omega), set_rest (by rw [List.length_set]; omega)] at h2
    have e := congrArg Array.toList (ncells_set2 xs k a c)
    simp only [Array.toList_setIfInBounds] at e
    rwa [e] at h2
namespace Nl
theorem full_take {xs : List (Int × Int)} (k : Nat) (hk : k < xs.length) : full (xs.take (k + 1)) = full (xs.take k) ++ (if 0 < cntA xs k then [(idA xs k, cntA xs k)] else []) := by
  unfold full
  rw [take_at (d := ((0, 0) : Int × Int)) xs k hk, List.filter_append]
  congr 1
  unfold cntA idA
  generalize xs.getD k (0, 0) = x
  by_cases h : 0 < x.2 <;> simp [List.filter, h]
theorem occ_take_le (xs : List (Int × Int)) (k : Nat) : occ (xs.take k) ≤ occ xs := by
  induction xs generalizing k with
  | nil => simp [occ]
  | cons x r ih =>
    cases k with
    | zero => simp [occ]
    | succ k => have := ih k; simp only [List.take_succ_cons, occ]; omega
theorem widen_half {b : Nat} {xs : List (Int × Int)} (t : Tab b xs) (hb : b + 1 ≤ 62) (k : Nat) :
    Tab (b + 1) (putAll (b + 1) (List.replicate (2 ^ (b + 1)) (0, 0)) (full (xs.take k))) ∧ occ (putAll (b + 1) (List.replicate (2 ^ (b + 1)) (0, 0)) (full (xs.take k))) ≤ occ xs ∧ (putAll (b + 1) (List.replicate (2 ^ (b + 1)) (0, 0)) (full (xs.take k))).length = 2 ^ (b + 1) := by
  have hl := occ_le xs
  have h0 := t.pos_len
  have ht := occ_take_le xs k
  have e : 2 ^ (b + 1) = 2 * xs.length := by rw [t.len, Nat.pow_succ]; omega
  have hsub : (full (xs.take k)).Sublist (full xs) := (List.take_sublist k xs).filter _
  obtain ⟨r1, r2, r3, r4⟩ := putAll_spec (full (xs.take k)) (List.replicate (2 ^ (b + 1)) (0, 0)) (Tab.empty (b + 1) hb) (fun y hy => t.full_ok y (hsub.subset hy)) (t.full_pair.sublist hsub) (fun y _ i _ hc => by rw [cnt_zeros] at hc; omega) (by rw [occ_zeros, full_length]; simp; omega)
  refine ⟨r1, ?_, ?_⟩
  · rw [r2, occ_zeros, full_length]; omega
  · rw [putAll_length]; simp
end Nl
def WidenRel (w : World) (g : Nat) (l : Int) (b : Nat) (u t : Int) (xs zs : List Nd) (i : Value) (wr : World) : Prop :=
  ∃ k : Nat, i = .int .i64 k ∧ k ≤ xs.length ∧ Pn wr g w.heap.size l (b + 1) u t (putAll (b + 1) zs (full (xs.take k))) ∧ Tch g g w wr ∧ w.heap.size < wr.heap.size
def WidenPost (w : World) (g : Nat) (l : Int) (b : Nat) (u t : Int) (xs : List Nd) (e : Ending) (w' : World) : Prop :=
  e = .returned (.tuple #[]) ∧ ∃ h', Pn w' g h' l (b + 1) u t (widenP b xs) ∧ w.heap.size ≤ h' ∧ Tch g g w w'
theorem p_widen {w : World} {g h : Nat} {l u t : Int} {b : Nat} {xs : List Nd} (d : Pn w g h l b u t xs) (T : Tab b xs) (hb1 : 1 ≤ b) (hb : b + 1 ≤ 40) (ids : ∀ i, idA xs i ≤ 9223372036854775807) :
    Calls Tryz.prog 162 #[.pointer (some ⟨g, 0, none⟩)] w (WidenPost w g l b u t xs) := by
  have c1 : w.cell? ⟨g, 1, none⟩ = some (.int .i64 b) := d.c1
  obtain ⟨capc4, c4⟩ := d.c4
  have f1 := d.fg 1
  have f4 := d.fg 4
  have hlg := d.lg
  have hlh := d.lh
  have hgh := d.ne
  have hp : (2 : Nat) ^ (b + 1) ≤ 2 ^ 40 := Nat.pow_le_pow_right (by omega) (by omega)
  have hp2 : (2 : Nat) ^ 40 = 1099511627776 := rfl
  have hwr : wrap64 (2 ^ (b + 1)) = ((2 ^ (b + 1) : Nat) : Int) := by
    rw [show (2 : Int) ^ (b + 1) = ((2 ^ (b + 1) : Nat) : Int) by simp]
    exact (fun (M : Nat) (h : M ≤ 1099511627776) => IntWalk.wrap64_in _ ⟨by omega, by omega⟩ : ∀ M : Nat, M ≤ 1099511627776 → wrap64 (M : Int) = M) _ (by omega)
  have hmk := make_nodes (2 ^ (b + 1)) (by omega)
  rw [← hwr] at hmk
  have hN : 2 ^ (b + 1) ≤ 1099511627776 := by omega
  have hX : 2 * xs.length = 2 ^ (b + 1) := by rw [T.len, Nat.pow_succ]; omega
  have hxl : xs.length ≤ 1099511627776 := by omega
  have hoc : occ xs < 2 ^ (b + 1) := by have := occ_le xs; have := T.pos_len; omega
  have Half := hid (widen_half T (by omega : b + 1 ≤ 62))
  have hW : Hid (widenP b xs = putAll (b + 1) (List.replicate (2 ^ (b + 1)) (0, 0)) (full xs)) := rfl
  have hlen : (List.replicate (2 ^ (b + 1)) ((0 : Int), (0 : Int))).length = 2 ^ (b + 1) := by simp
  generalize List.replicate (2 ^ (b + 1)) ((0 : Int), (0 : Int)) = zs at *
  have Hlen := hid hlen
  generalize hNN : 2 ^ (b + 1) = N at *
  have HX := hid hX
  have One := hid T.one
  have Ids := hid ids
  clear hwr hp hlen hNN T hX ids
  go_enter Tryz.func162, Tryz.ntmps162
  go_wp2_with fail
  obtain ⟨cap, rest, D1, D2, D3⟩ := d
  have B1 := ((D1.set 1 (.int .i64 ((b : Int) + 1))).set 4 (.slice (some ⟨w.heap.size, 0, none⟩) N N)).alloc (.cells (ncells zs).toArray 116)
  have B2 := Blk.new ((w.setCell ⟨g, 1, none⟩ (.int .i64 ((b : Int) + 1))).setCell ⟨g, 4, none⟩ (.slice (some ⟨w.heap.size, 0, none⟩) N N)) (ncells zs).toArray 116
  have T1 : Tch g g w (((w.setCell ⟨g, 1, none⟩ (.int .i64 ((b : Int) + 1))).setCell ⟨g, 4, none⟩ (.slice (some ⟨w.heap.size, 0, none⟩) N N)).alloc (.cells (ncells zs).toArray 116)) := ((Tch.set1 w 1 _).trans (Tch.set1 _ 4 _)).trans (Tch.of_below ((Below.refl _ _).alloc nlr _))
  have hs1 : w.heap.size < (((w.setCell ⟨g, 1, none⟩ (.int .i64 ((b : Int) + 1))).setCell ⟨g, 4, none⟩ (.slice (some ⟨w.heap.size, 0, none⟩) N N)).alloc (.cells (ncells zs).toArray 116)).heap.size := by simp
  simp only [World.size_setCell] at B2
  generalize ((w.setCell ⟨g, 1, none⟩ (.int .i64 ((b : Int) + 1))).setCell ⟨g, 4, none⟩ (.slice (some ⟨w.heap.size, 0, none⟩) N N)).alloc (.cells (ncells zs).toArray 116) = w1 at *
  have d1 : Pn w1 g w.heap.size l (b + 1) u t zs := Pn.mk (by rw [Hlen.out]; simpa using B1) B2 (by omega)
  clear B1 B2 c1 c4 f1 f4 hmk
  go_loopw [29] (fun i wr => WidenRel w g l b u t xs zs i wr) (fun i _ => xs.length - (intOf i).toNat)
  case atStart => exact ⟨0, rfl, by omega, d1, T1, hs1⟩
  case round =>
    obtain ⟨k, rfl, hk, d2, T2, hs2⟩ := hrel
    by_cases h1 : k < xs.length
    · have Fk := hid (full_take k h1)
      obtain ⟨hT, hO, hL⟩ := Half.out k
      have HL := hid hL
      have X2 := D2.tch T2 (Ne.symm hgh) (Ne.symm hgh)
      obtain ⟨g1, g2⟩ := ncells_rest (xs := xs) rest h1
      have c2 : wr.cell? ⟨h, k * 2, none⟩ = some (.int .i64 (idA xs k)) := (X2.cell _).trans (by simpa using g1)
      have c3 : wr.cell? ⟨h, k * 2 + 1, none⟩ = some (.int .i64 (cntA xs k)) := (X2.cell _).trans (by simpa using g2)
      have O1 := One.out k
      have I1 := Ids.out k
      obtain ⟨ys, ey⟩ : ∃ ys, putAll (b + 1) zs (full (xs.take k)) = ys := ⟨_, rfl⟩
      have Sn := hid (putAll_snoc (b + 1) zs (full (xs.take k)) (idA xs k, cntA xs k))
      rw [ey] at d2 hT hO HL Sn
      have Ey := hid ey
      generalize idA xs k = a at *
      generalize cntA xs k = c at *
      have hlw := d2.lg
      have hba : Below wr.heap.size wr (wr.alloc (.cells #[.int .i64 a, .int .i64 c] 116)) := (Below.refl _ _).alloc nlr _
      have dA := d2.below hba nlr
      clear g1 g2 hL ey
      by_cases h2 : 0 < c
      · have hoy : occ ys < ys.length := by rw [HL.out]; omega
        have hyl : ys.length ≤ 1099511627776 := by rw [HL.out]; exact hN
        obtain ⟨e, he, hce⟩ := has_empty hoy
        have hsB := stopB_iff (xs := ys) (id := a) (i := e) |>.2 (.inl hce)
        have hil := (look_spec hT a he hsB).2.2.1
        have Lk := hid (p_look a dA hT (by omega) hb he hsB ⟨O1 h2, I1⟩)
        generalize lookI ys (b + 1) a = q at *
        clear hoy hsB hce
        go_wp2_with fail
        refine Lk.out.mono ?_
        rintro e w3 ⟨rfl, hb3⟩
        have d3 := dA.below hb3 nlr
        have O3 := (Blk.new wr #[.int .i64 a, .int .i64 c] 116).below hb3 nlr
        obtain ⟨capc4, c4⟩ := d3.c4
        have o0 : w3.cell? ⟨wr.heap.size, 0, none⟩ = some (.int .i64 a) := O3.cell 0
        have o1 : w3.cell? ⟨wr.heap.size, 1, none⟩ = some (.int .i64 c) := O3.cell 1
        obtain ⟨z0, z1⟩ := d3.at hil
        have k0 := d3.fh (q * 2)
        have k1 := d3.fh (q * 2 + 1)
        have hs3 := hb3.size
        simp only [World.size_alloc] at hs3
        have T3 : Tch g g w w3 := (T2.below' hba).below' hb3
        as_aux_lemma =>
          go_wp2_with fail
          go_region
          go_wp2_with fail
          go_roundw
          case rel =>
            refine ⟨k + 1, by go_num, by omega, ?_, ?_, ?_⟩
            · rw [Fk.out, if_pos h2, Sn.out]
              exact (d3.store q hil a c).drewN 1
            · exact ((T3.setNew nlr _).setNew nlr _).drewN 1
            · simp; omega
          case measure => simp [intOf]; omega
      · have T3 := T2.below' hba
        as_aux_lemma =>
          go_wp2_with fail
          go_roundw
          case rel => exact ⟨k + 1, by go_num, by omega, by rw [Fk.out, if_neg h2, List.append_nil, Ey.out]; exact dA, T3, by simp; omega⟩
          case measure => simp [intOf]; omega
    · rw [List.take_of_length_le (by omega)] at d2
      go_wp2_with fail
      exact bodyPost_ret (v := .tuple #[]) (by simp [results, Tryz.results162, go_sem]) rfl ⟨rfl, w.heap.size, by rw [hW.out]; exact d2, nlr, T2⟩
end Go.Proofs.YtdnlejboijkcfaaGreatDoor
/- Stable sorting (no program in sight): what is sorted, and keeps its order at each number, is one list alone. -/
namespace Go.Proofs.YtdnlejboijkcfaaGreatDoor
set_option maxHeartbeats 8000000
set_option maxRecDepth 100000
namespace Nl
def Srt (xs : List (Int × Int)) : Prop := xs.Pairwise (fun a b => a.1 ≤ b.1)
def atK (k : Int) (xs : List (Int × Int)) : List (Int × Int) := xs.filter (fun x => decide (x.1 = k))
theorem atK_app (k : Int) (xs ys : List (Int × Int)) : atK k (xs ++ ys) = atK k xs ++ atK k ys := List.filter_append ..
theorem atK_cons (k : Int) (x : Int × Int) (xs : List (Int × Int)) : atK k (x :: xs) = if x.1 = k then x :: atK k xs else atK k xs := by
  unfold atK
  by_cases h : x.1 = k <;> simp [List.filter, h]
theorem atK_nil {k : Int} {xs : List (Int × Int)} (h : ∀ x ∈ xs, x.1 ≠ k) : atK k xs = [] := by
  unfold atK
  rw [List.filter_eq_nil_iff]
  intro x hx; simpa using h x hx
def SS (xs zs : List (Int × Int)) : Prop := Srt zs ∧ ∀ k, atK k zs = atK k xs
theorem srt_tail {x : Int × Int} {r : List (Int × Int)} (h : Srt (x :: r)) : Srt r ∧ ∀ y ∈ r, x.1 ≤ y.1 := ⟨(List.pairwise_cons.1 h).2, (List.pairwise_cons.1 h).1⟩
theorem srt_one {a b : List (Int × Int)} (ha : Srt a) (hb : Srt b) (h : ∀ k, atK k a = atK k b) : a = b := by
  induction a generalizing b with
  | nil =>
    cases b with
    | nil => rfl
    | cons y r => have := h y.1; rw [atK_cons, if_pos rfl] at this; simp [atK] at this
  | cons x r ih =>
    cases b with
    | nil => have := h x.1; rw [atK_cons, if_pos rfl] at this; simp [atK] at this
    | cons y s =>
      obtain ⟨h1, h2⟩ := srt_tail ha
      obtain ⟨h3, h4⟩ := srt_tail hb
      have hx := h x.1
      have hy := h y.1
      rw [atK_cons, if_pos rfl, atK_cons] at hx
      rw [atK_cons, atK_cons, if_pos rfl] at hy
      have e : x.1 = y.1 := by
        by_cases q : y.1 = x.1
        · exact q.symm
        · exfalso
          rw [if_neg q] at hx
          rw [if_neg (Ne.symm q)] at hy
          have m1 : x ∈ s := by
            have : x ∈ atK x.1 s := by rw [← hx]; simp
            exact (List.mem_filter.1 this).1
          have m2 : y ∈ r := by
            have : y ∈ atK y.1 r := by rw [hy]; simp
            exact (List.mem_filter.1 this).1
          have := h2 y m2
          have := h4 x m1
          omega
      rw [if_pos e.symm] at hx
      have hxy : x = y := by injection hx
      subst hxy
      rw [ih h1 h3 (fun k => by
        have := h k
        rw [atK_cons, atK_cons] at this
        by_cases q : x.1 = k
        · rw [if_pos q, if_pos q] at this; injection this
        · rw [if_neg q, if_neg q] at this; exact this)]
theorem back_spec (xs : List (Int × Int)) (id : Int) (n : Nat) (hn : n ≤ xs.length) : (∀ x ∈ (xs.take n).drop (back xs id n), id < x.1) ∧ (0 < back xs id n → (xs.getD (back xs id n - 1) (0, 0)).1 ≤ id) := by
  induction n with
  | zero => simp [back]
  | succ n ih =>
    rw [back]
    obtain ⟨i1, i2⟩ := ih (by omega)
    split
    · rename_i h
      refine ⟨fun x hx => ?_, i2⟩
      have hb := back_le xs id n
      have e : xs.take (n + 1) = xs.take n ++ [xs.getD n (0, 0)] := by
        rw [List.take_add_one, List.getElem?_eq_getElem (show n < xs.length by omega)]
        simp [List.getD, List.getElem?_eq_getElem (show n < xs.length by omega)]
      rw [e, List.drop_append_of_le_length (by simp; omega), List.mem_append] at hx
      rcases hx with hx | hx
      · exact i1 x hx
      · simp only [List.mem_singleton] at hx; rw [hx]; exact h
    · rename_i h
      refine ⟨fun x hx => by simp at hx, fun _ => ?_⟩
      simp only [Nat.add_sub_cancel]; omega
theorem insL_srt {xs : List (Int × Int)} (h : Srt xs) (y : Int × Int) : Srt (insL xs y) ∧ ∀ k, atK k (insL xs y) = atK k (xs ++ [y]) := by
  obtain ⟨b1, b2⟩ := back_spec xs y.1 xs.length nlr
  rw [List.take_length] at b1
  have hb := back_le xs y.1 xs.length
  unfold insL
  generalize back xs y.1 xs.length = n at *
  have e := List.take_append_drop n xs
  have hlow : ∀ x ∈ xs.take n, x.1 ≤ y.1 := fun x hx => by
    by_cases hn : 0 < n
    · have hl := b2 hn
      have hlast : xs.getD (n - 1) (0, 0) = xs[n - 1] := by simp [List.getD, List.getElem?_eq_getElem (show n - 1 < xs.length by omega)]
      rw [hlast] at hl
      obtain ⟨i, hi, q⟩ := List.mem_iff_getElem.1 hx
      rw [List.getElem_take] at q
      simp only [List.length_take] at hi
      by_cases hi2 : i = n - 1
      · subst hi2; rw [← q]; exact hl
      · have := (List.pairwise_iff_getElem.1 h) i (n - 1) (by omega) (by omega) (by omega)
        rw [q] at this; omega
    · have : n = 0 := by omega
      subst this; simp at hx
  rw [← e] at h
  have hp := List.pairwise_append.1 h
  constructor
  · unfold Srt
    rw [List.pairwise_append, List.pairwise_cons]
    refine ⟨hp.1, ⟨fun z hz => by have := b1 z hz; omega, hp.2.1⟩, fun a ha b hb' => ?_⟩
    cases hb' with
    | head => exact hlow a ha
    | tail _ hb' => exact hp.2.2 a ha b hb'
  · intro k
    conv => rhs; rw [← e]
    rw [atK_app, atK_cons, atK_app, atK_app]
    by_cases q : y.1 = k
    · rw [if_pos q, atK_nil (xs := xs.drop n) (fun x hx => by have := b1 x hx; omega), atK_cons, if_pos q]; simp [atK]
    · rw [if_neg q, atK_cons, if_neg q]; simp [atK]
theorem sort_SS_aux (ys xs : List (Int × Int)) (h : Srt xs) : Srt (ys.foldl insL xs) ∧ ∀ k, atK k (ys.foldl insL xs) = atK k (xs ++ ys) := by
  induction ys generalizing xs with
  | nil => exact ⟨h, fun k => by simp⟩
  | cons y r ih =>
    obtain ⟨h1, h2⟩ := insL_srt h y
    obtain ⟨h3, h4⟩ := ih _ h1
    refine ⟨h3, fun k => ?_⟩
    rw [List.foldl_cons, h4, atK_app, h2, atK_app, atK_app, atK_cons, atK_cons]
    by_cases q : y.1 = k
    · rw [if_pos q, if_pos q]; simp [atK]
    · rw [if_neg q, if_neg q]; simp [atK]
theorem sortL_SS (xs : List (Int × Int)) : SS xs (sortL xs) := by
  obtain ⟨h1, h2⟩ := sort_SS_aux xs [] List.Pairwise.nil
  exact ⟨h1, fun k => by simpa [sortL] using h2 k⟩
theorem SS_sortL {xs zs : List (Int × Int)} (h : SS xs zs) : zs = sortL xs :=
  srt_one h.1 (sortL_SS xs).1 (fun k => (h.2 k).trans ((sortL_SS xs).2 k).symm)
structure Mrg (a0 b0 out a b : List (Int × Int)) : Prop where
  so : Srt out
  sa : Srt a
  sb : Srt b
  oa : ∀ x ∈ out, ∀ y ∈ a, x.1 ≤ y.1
  ob : ∀ x ∈ out, ∀ y ∈ b, x.1 ≤ y.1
  at_ : ∀ k, atK k out ++ atK k a ++ atK k b = atK k a0 ++ atK k b0
  len : out.length + a.length + b.length = a0.length + b0.length
theorem Mrg.start {a b : List (Int × Int)} (ha : Srt a) (hb : Srt b) : Mrg a b [] a b := ⟨List.Pairwise.nil, ha, hb, (fun x hx => by cases hx), (fun x hx => by cases hx), (fun k => by simp [atK]), by simp⟩
theorem srt_snoc {out : List (Int × Int)} {y : Int × Int} (h : Srt out) (hy : ∀ x ∈ out, x.1 ≤ y.1) : Srt (out ++ [y]) := by
  unfold Srt
  rw [List.pairwise_append]
  exact ⟨h, List.pairwise_singleton .., fun a ha b hb => by simp at hb; subst hb; exact hy a ha⟩
theorem Mrg.right {a0 b0 out a b : List (Int × Int)} {x y : Int × Int} (m : Mrg a0 b0 out (x :: a) (y :: b)) (h : y.1 < x.1) : Mrg a0 b0 (out ++ [y]) (x :: a) b := by
  obtain ⟨s1, s2⟩ := srt_tail m.sa
  obtain ⟨s3, s4⟩ := srt_tail m.sb
  refine ⟨srt_snoc m.so (fun z hz => m.ob z hz y (by simp)), m.sa, s3, fun z hz w hw => ?_, fun z hz w hw => ?_, fun k => ?_, ?_⟩
  · rw [List.mem_append] at hz
    rcases hz with hz | hz
    · exact m.oa z hz w hw
    · simp at hz; subst hz
      cases hw with
      | head => omega
      | tail _ hw => have := s2 w hw; omega
  · rw [List.mem_append] at hz
    rcases hz with hz | hz
    · exact m.ob z hz w (by simp [hw])
    · simp at hz; subst hz; exact s4 w hw
  · rw [← m.at_ k, atK_app, atK_cons k y b, atK_cons k y []]
    by_cases q : y.1 = k
    · rw [if_pos q, if_pos q, atK_nil (xs := x :: a) (fun w hw => by
        cases hw with
        | head => omega
        | tail _ hw => have := s2 w hw; omega)]
      simp [atK]
    · rw [if_neg q, if_neg q]; simp [atK]
  · have := m.len; simp only [List.length_append, List.length_cons, List.length_nil] at *; omega
theorem Mrg.left {a0 b0 out a b : List (Int × Int)} {x y : Int × Int} (m : Mrg a0 b0 out (x :: a) (y :: b)) (h : ¬ y.1 < x.1) : Mrg a0 b0 (out ++ [x]) a (y :: b) := by
  obtain ⟨s1, s2⟩ := srt_tail m.sa
  obtain ⟨s3, s4⟩ := srt_tail m.sb
  refine ⟨srt_snoc m.so (fun z hz => m.oa z hz x (by simp)), s1, m.sb, fun z hz w hw => ?_, fun z hz w hw => ?_, fun k => ?_, ?_⟩
  · rw [List.mem_append] at hz
    rcases hz with hz | hz
    · exact m.oa z hz w (by simp [hw])
    · simp at hz; subst hz; exact s2 w hw
  · rw [List.mem_append] at hz
    rcases hz with hz | hz
    · exact m.ob z hz w hw
    · simp at hz; subst hz
      cases hw with
      | head => omega
      | tail _ hw => have := s4 w hw; omega
  · rw [← m.at_ k, atK_app, atK_cons k x a, atK_cons k x []]
    by_cases q : x.1 = k
    · rw [if_pos q, if_pos q]; simp [atK]
    · rw [if_neg q, if_neg q]; simp [atK]
  · have := m.len; simp only [List.length_append, List.length_cons, List.length_nil] at *; omega
theorem Mrg.done {a0 b0 out a b : List (Int × Int)} (m : Mrg a0 b0 out a b) (h : a = [] ∨ b = []) {xs ys : List (Int × Int)} (ha : SS xs a0) (hb : SS ys b0) : SS (xs ++ ys) (out ++ a ++ b) := by
  refine ⟨?_, fun k => ?_⟩
  · unfold Srt
    rw [List.pairwise_append, List.pairwise_append]
    refine ⟨⟨m.so, m.sa, m.oa⟩, m.sb, fun x hx y hy => ?_⟩
    rw [List.mem_append] at hx
    rcases hx with hx | hx
    · exact m.ob x hx y hy
    · rcases h with h | h
      · rw [h] at hx; cases hx
      · rw [h] at hy; cases hy
  · rw [atK_app, atK_app, atK_app, m.at_ k, ha.2, hb.2]
theorem SS_self {xs : List (Int × Int)} (h : xs.length < 2) : SS xs xs := by
  refine ⟨?_, fun _ => rfl⟩
  match xs, h with
  | [], _ => exact List.Pairwise.nil
  | [x], _ => exact List.pairwise_singleton ..
end Nl
end Go.Proofs.YtdnlejboijkcfaaGreatDoor
/- The walks of package roll: the order by numbers, Clone, Sorted. -/
namespace Go.Proofs.YtdnlejboijkcfaaGreatDoor
set_option maxHeartbeats 8000000
set_option maxRecDepth 100000
open Go.RowKit Nl
theorem o_ahead (a b c d : Int) (w : World) :
    Calls Tryz.prog 223 #[.agg #[.int .i64 a, .int .i64 b], .agg #[.int .i64 c, .int .i64 d]] w fun e w' => e = .returned (.bool (decide (a < c))) ∧ Below w.heap.size w w' := by
  by_cases h : a < c
  · go_enter Tryz.func223, Tryz.ntmps223
    go_wp2_with fail
    go_ret
    exact ⟨by simp [h], ((Below.refl _ _).alloc nlr _).alloc (by simp) _⟩
  · go_enter Tryz.func223, Tryz.ntmps223
    go_wp2_with fail
    go_ret
    exact ⟨by simp [h], ((Below.refl _ _).alloc nlr _).alloc (by simp) _⟩
theorem o_clone {v : Value} {xs : List Nd} (w : World) (hr : RdN w v xs) (hn : xs.length < 1048576) :
    Calls Tryz.prog 214 #[v] w (IsNodes xs w) := by
  rcases hr with ⟨rfl, rfl⟩ | ⟨a, cap, rfl, rfl⟩ | ⟨g, off, cap, rfl, hg, hc, hcells⟩
  · have e1 := fun w0 : World => Lib.run_eql_slice_nil (P := Tryz.prog) w0 113 116 none 0 0 0 0 Tryz.underlying113
    go_enter Tryz.func214, Tryz.ntmps214
    go_wp2_with fail
    go_ret
    exact ⟨_, rfl, OwnN.nil _ _, Below.refl _ _⟩
  · have e1 := fun w0 : World => Lib.run_eql_slice_nil (P := Tryz.prog) w0 113 116 (some a) 0 cap 0 0 Tryz.underlying113
    go_enter Tryz.func214, Tryz.ntmps214
    have hb0 : Below w.heap.size w (w.alloc (.cells #[] 116)) := (Below.refl _ _).alloc nlr _
    have ho : OwnN (w.alloc (.cells #[] 116)) w.heap.size (.slice (some ⟨w.heap.size, 0, none⟩) 0 0) [] := World.ownsRow_made w #[] 0 nlr (by decide) rfl
    go_wp2_with fail
    go_ret
    exact ⟨_, rfl, ho, hb0⟩
  · have hA : RdN w (.slice (some ⟨g, off, none⟩) xs.length cap) xs := .inr (.inr ⟨g, off, cap, rfl, hg, hc, hcells⟩)
    clear hcells
    have e1 := fun w0 : World => Lib.run_eql_slice_nil (P := Tryz.prog) w0 113 116 (some ⟨g, off, none⟩) xs.length cap 0 0 Tryz.underlying113
    go_enter Tryz.func214, Tryz.ntmps214
    have hb0 : Below w.heap.size w (w.alloc (.cells #[] 116)) := (Below.refl _ _).alloc nlr _
    have ho : OwnN (w.alloc (.cells #[] 116)) w.heap.size (.slice (some ⟨w.heap.size, 0, none⟩) 0 0) [] := World.ownsRow_made w #[] 0 nlr (by decide) rfl
    go_wp2_with (at_builtin; refine appendsN _ _ ho (hA.alloc _) (by simp; omega) (by simp) rfl rfl rfl rfl ?_; intro v1 w1 ho1 hg1)
    go_ret
    rw [List.nil_append] at ho1
    exact ⟨_, rfl, ho1, hb0.trans (below_grown hg1 (by simp) ho.lt)⟩
section
variable {ops : Array Oper} {o : Oper} {a : Act} {K : Act → World → Prop} {Q : Exit → Act → World → Prop} {E : Prop} {w : World} {v : Value} {xs : List Nd} {B T H : Nat}
theorem step_appendN {b c : Int} (s x : Operand)
    (hown : OwnN w B v xs) (hlen : xs.length < 16777216) (hBr : B ≤ w.heap.size) (hbk : Blk w H #[.int .i64 b, .int .i64 c] T)
    (hgd : o.guard = none) (ho : o.op = .call { callee := .builtin .append, args := #[s, x], argTypes := #[113, 113] })
    (hv : a.eval s = v) (hx : a.eval x = .slice (some ⟨H, 0, none⟩) 1 1)
    (h : ∀ v' w', OwnN w' B v' (xs ++ [(b, c)]) → w.grownBy w' v.ownBlock → K (a.put o.dst v') w') :
    if Region.wanted o (yielded ops a.tmps) = true then Oper.wp Tryz.prog o a w K Q else E := by
  obtain ⟨i0, hi, hz0, hz1, hz2⟩ := info_parts Tryz.infoNode
  refine step_append_lies w hgd s x 113 ho B 116 i0 (.agg #[.int .i64 0, .int .i64 0]) 2 16 Tryz.underlying113 hi hz0 hz1 hz2 rfl (by decide) v xs.length (ncells xs) hv hown ⟨H, 0, none⟩ 1 1 (ncells [(b, c)]) hx rfl (World.news_of_block hbk) (ncells_one _) (by decide) ?_ ?_ hBr _ rfl ?_
  · unfold maxLen; omega
  · omega
  · intro g cap w' h1 h2 _ _
    refine h _ w' ?_ h2
    unfold OwnN
    rw [ncells_append]
    simpa using h1
end
def SortsPost (xs : List Nd) (w : World) (e : Ending) (w' : World) : Prop := ∃ v zs, e = .returned v ∧ SS xs zs ∧ zs.length = xs.length ∧ OwnN w' w.heap.size v zs ∧ Below w.heap.size w w'
theorem cell_below {w w' : World} {B g o : Nat} {v : Value} (hb : Below B w w') (h : w.cell? ⟨g, o, none⟩ = some v) (hg : g < B) : w'.cell? ⟨g, o, none⟩ = some v := (hb.cell (p := ⟨g, o, none⟩) hg).trans h
theorem tailN {w : World} {g o n c : Nat} {x : Nd} {r : List Nd} (h : RdN w (.slice (some ⟨g, o, none⟩) n c) (x :: r)) :
    ∃ o', (∀ W : World, (Instr.sliceAt 113 (.slice (some ⟨g, o, none⟩) n c) (some (.int .i64 1)) none none).run Tryz.prog W = .ok (.slice (some ⟨g, o', none⟩) (n - 1) (c - 1)) W) ∧ RdN w (.slice (some ⟨g, o', none⟩) (n - 1) (c - 1)) r := by
  obtain ⟨h1, h2⟩ := h.len
  simp only [List.length_cons] at h1
  have h3 : (1 : Int) ≤ (n : Int) := by omega
  by_cases hc : c = 1
  · refine ⟨o, fun W => ?_, ?_⟩
    · subst hc
      have : n = 1 := by omega
      subst this
      simp [go_sem]
    · have hr : r = [] := List.eq_nil_of_length_eq_zero (by omega)
      subst hr
      have hn : n - 1 = 0 := by omega
      rw [hn]
      rcases h with ⟨h, _⟩ | ⟨_, _, _, h⟩ | ⟨g', o', c', hv, hg, _⟩
      · simp at h
      · cases h
      · simp only [Value.slice.injEq, Option.some.injEq, Addr.mk.injEq] at hv
        exact RdN.none (by omega)
  · refine ⟨o + 2, fun W => ?_, ?_⟩
    · simp [go_sem, h3, hc]
    · have := h.drop 1 (by omega)
      simpa using this
theorem RdN.belowU {w w' : World} {v : Value} {xs : List Nd} {B : Nat} (h : RdN w v xs) (hb : Below B w w') (hu : ∀ g, v.ownBlock = some g → g < B) : RdN w' v xs := h.keep (fun g _ hg => hb.block g (hu g hg)) hb.size
def lenOf : Value → Nat
  | .slice _ n _ => n
  | _ => 0
def MrgRel (w : World) (z5 z6 : List Nd) (va vb vo : Value) (wr : World) : Prop :=
  ∃ ta tb zo, Mrg z5 z6 zo ta tb ∧ RdN wr va ta ∧ RdN wr vb tb ∧ OwnN wr w.heap.size vo zo ∧ (∀ g, va.ownBlock = some g → g < w.heap.size) ∧ (∀ g, vb.ownBlock = some g → g < w.heap.size) ∧ Below w.heap.size w wr
def SortCut (w : World) (xs ys : List Nd) (va vb : Value) (wr : World) : Prop :=
  ∃ xs' ys', SS xs xs' ∧ SS ys ys' ∧ xs'.length = xs.length ∧ ys'.length = ys.length ∧ OwnN wr w.heap.size va xs' ∧ OwnN wr w.heap.size vb ys' ∧ Below w.heap.size w wr
theorem o_sorts (n : Nat) : ∀ (xs : List Nd) (v : Value) (w : World), xs.length ≤ n → xs.length < 1048576 → RdN w v xs →
    Calls Tryz.prog 222 #[v, .func (.func 223) #[] #[]] w (SortsPost xs w) := by
  induction n with
  | zero =>
    intro xs v w hn hl hr
    have hC := hid (o_clone w hr hl)
    obtain ⟨p, cap, rfl⟩ := hr.val
    have hlt : xs.length < 2 := by omega
    have hS := hid (SS_self hlt)
    go_enter Tryz.func222, Tryz.ntmps222
    go_wp2_with fail
    refine hC.out.mono ?_
    rintro e w1 ⟨v1, rfl, ho1, hb1⟩
    go_wp2_with fail
    go_ret
    exact ⟨_, xs, rfl, hS.out, rfl, ho1, hb1⟩
  | succ n ih =>
    intro xs v w hn hl hr
    by_cases hlt : xs.length < 2
    · have hC := hid (o_clone w hr hl)
      obtain ⟨p, cap, rfl⟩ := hr.val
      have hS := hid (SS_self hlt)
      go_enter Tryz.func222, Tryz.ntmps222
      go_wp2_with fail
      refine hC.out.mono ?_
      rintro e w1 ⟨v1, rfl, ho1, hb1⟩
      go_wp2_with fail
      go_ret
      exact ⟨_, xs, rfl, hS.out, rfl, ho1, hb1⟩
    · have hge : 2 ≤ xs.length := by omega
      rcases hr with ⟨rfl, rfl⟩ | ⟨_, _, _, rfl⟩ | ⟨g, off, cap, rfl, hg, hc, hcells⟩
      · simp at hge
      · simp at hge
      have hr : RdN w (.slice (some ⟨g, off, none⟩) xs.length cap) xs := .inr (.inr ⟨g, off, cap, rfl, hg, hc, hcells⟩)
      obtain ⟨m, hm⟩ : ∃ m, xs.length / 2 = m := ⟨_, rfl⟩
      have hm1 : 1 ≤ m := by omega
      have hm2 : m < xs.length := by omega
      have em : ((xs.length : Int) / 2) = (m : Int) := by omega
      have Em := hid em
      have hA := hr.take m (by omega)
      have hB := hr.drop m (by omega)
      have lA : (xs.take m).length = m := by simp; omega
      have lB : (xs.drop m).length = xs.length - m := by simp
      have IA := hid (fun W q => ih (xs.take m) (.slice (some ⟨g, off, none⟩) m cap) W (by omega) (by omega) q)
      have IB := hid (fun W q => ih (xs.drop m) (.slice (some ⟨g, off + m * 2, none⟩) (xs.length - m) (cap - m)) W (by omega) (by omega) q)
      have hcat : Hid (xs.take m ++ xs.drop m = xs) := List.take_append_drop m xs
      have LA := hid lA
      have LB := hid lB
      have i1 : (0 : Int) ≤ (m : Int) := by omega
      have i2 : (m : Int) ≤ (xs.length : Int) := by omega
      have i3 : (xs.length : Int) ≤ (cap : Int) := by omega
      have i4 : (m : Int) ≤ (cap : Int) := by omega
      have i5 : m < cap := by omega
      have hx1 : Hid (xs.length < 1048576) := hl
      clear ih hcells em hm lA lB hr
      go_enter Tryz.func222, Tryz.ntmps222
      go_upto_region 4 with fail
      rw [Em.out]
      go_cut [6, 7] (fun va vb wr => SortCut w (xs.take m) (xs.drop m) va vb wr)
      case first =>
        have hB0 := Below.refl w.heap.size w
        go_region_held3 (fun w' => Below w.heap.size w w')
          (first | exact hB0 | exact below_drewN hB0 1 | exact hB5 | exact hB6)
          (first
            | (go_at_call_of 222 (Value.slice (some ⟨g, off, none⟩) m cap); have hB4 := ‹Below w.heap.size w _›; refine (IA.out _ (hA.below hB4 nlr)).mono ?_; rintro e w5 ⟨v5, z5, rfl, hs5, hl5, ho5, hb5⟩
               have hB5 := hB4.trans (hb5.mono hB4.size))
            | (go_at_call_of 222 (Value.slice (some ⟨g, off + m * 2, none⟩) (xs.length - m) (cap - m)); have hB4 := ‹Below w.heap.size w _›; refine (IB.out _ (hB.below hB4 nlr)).mono ?_; rintro e w6 ⟨v6, z6, rfl, hs6, hl6, ho6, hb6⟩
               have hB6 := hB4.trans (hb6.mono hB4.size)))
        go_wp2_with fail
        go_meet
        exact ⟨z5, z6, hs5, hs6, hl5, hl6, ho5.below hb6 nlr, ho6.mono hB5.size, hB6⟩
      case rest =>
        obtain ⟨z5, z6, hs5, hs6, hl5, hl6, ho5, ho6, hb6⟩ := hcut
        have hz5 := hid hs5
        have hz6 := hid hs6
        have hLen : z5.length + z6.length = xs.length := by have := LA.out; have := LB.out; omega
        have HLen := hid hLen
        have lS : z5.length + z6.length < 1048576 := by omega
        have l5 : z5.length < 1048576 := by omega
        have l6 : z6.length < 1048576 := by omega
        have M0 := Mrg.start hs5.1 hs6.1
        have hr5 := ho5.rd
        have hr6 := ho6.rd
        have hwc := hb6.size
        clear hs5 hs6 hl5 hl6 hLen hg hc hm1 hm2 hlt hge hl hn i1 i2 i3 i4 i5 hA hB
        go_wp2_with fail
        go_loopw [6, 7, 8] (fun va vb vo wr => MrgRel wc z5 z6 va vb vo wr) (fun va vb _ _ => lenOf va + lenOf vb)
        case atStart => exact ⟨z5, z6, [], M0, hr5, hr6, OwnN.nil _ _, (fun g hg => ho5.lt' g hg), (fun g hg => ho6.lt' g hg), Below.refl _ _⟩
        case round =>
          obtain ⟨ta, tb, zo, M, ra, rb, oo, ua, ub, hbl⟩ := hrel
          have hlo := M.len
          have hwr := hbl.size
          cases ta with
          | nil =>
            obtain ⟨pa, ca, rfl⟩ := ra.val
            obtain ⟨pb, cb, rfl⟩ := rb.val
            have D := hid (M.done (.inl rfl) hz5.out hz6.out)
            have Lo := hid hlo
            have hlz : zo.length < 16777216 := by simp at hlo ⊢; omega
            have hlb : tb.length < 1048576 := by simp at hlo ⊢; omega
            have hlzb : zo.length + tb.length < 16777216 := by simp at hlo ⊢; omega
            clear M hlo
            simp only [List.length_nil] at ra ua ⊢
            go_wp2_with (first
              | (at_builtin; refine appendsN (xs := zo) _ _ oo ra (by simp; omega) (by omega) (by rfl) (by rfl) (by rfl) (by rfl) ?_; intro v1 w1 ho1 hg1
                 have hb1 : Below wc.heap.size wr w1 := below_grown hg1 (by omega) oo.lt
                 have hs1 := hb1.size
                 have rb1 := rb.belowU hb1 ub)
              | (at_builtin; refine appendsN _ _ ho1 rb1 (by simp; omega) (by omega) (by rfl) (by rfl) (by rfl) (by rfl) ?_; intro v2 w2 ho2 hg2))
            go_ret
            have hfin := D.out
            rw [hcat.out] at hfin
            refine ⟨_, _, rfl, hfin, ?_, ho2.mono hwc, hb6.trans (((hbl.trans hb1).trans (below_grown hg2 (by omega) ho1.lt)).mono hwc)⟩
            have := Lo.out
            have := HLen.out
            simp at *
            omega
          | cons x ta =>
            cases tb with
            | nil =>
              obtain ⟨pa, ca, rfl⟩ := ra.val
              obtain ⟨pb, cb, rfl⟩ := rb.val
              have D := hid (M.done (.inr rfl) hz5.out hz6.out)
              have Lo := hid hlo
              have hlz : zo.length < 16777216 := by simp at hlo ⊢; omega
              have hlb : (x :: ta).length < 1048576 := by simp at hlo ⊢; omega
              have hlzb : zo.length + (x :: ta).length < 16777216 := by simp at hlo ⊢; omega
              clear M hlo
              simp only [List.length_nil] at rb ub ⊢
              go_wp2_with (first
                | (at_builtin; refine appendsN (xs := zo) _ _ oo ra (by simp; omega) (by omega) (by rfl) (by rfl) (by rfl) (by rfl) ?_; intro v1 w1 ho1 hg1
                   have hb1 : Below wc.heap.size wr w1 := below_grown hg1 (by omega) oo.lt
                   have hs1 := hb1.size
                   have rb1 := rb.belowU hb1 ub)
                | (at_builtin; refine appendsN _ _ ho1 rb1 (by simp; omega) (by omega) (by rfl) (by rfl) (by rfl) (by rfl) ?_; intro v2 w2 ho2 hg2))
              go_ret
              have hfin := D.out
              rw [hcat.out] at hfin
              refine ⟨_, _, rfl, hfin, ?_, ho2.mono hwc, hb6.trans (((hbl.trans hb1).trans (below_grown hg2 (by omega) ho1.lt)).mono hwc)⟩
              have := Lo.out
              have := HLen.out
              simp at *
              omega
            | cons y tb =>
              rcases ra with ⟨_, h⟩ | ⟨_, _, _, h⟩ | ⟨ga, oa, ca, rfl, hga, hca, hra⟩
              · cases h
              · cases h
              rcases rb with ⟨_, h⟩ | ⟨_, _, _, h⟩ | ⟨gb, ob, cb, rfl, hgb, hcb, hrb⟩
              · cases h
              · cases h
              obtain ⟨x1, x2⟩ := x
              obtain ⟨y1, y2⟩ := y
              have qa := hra 0 (by simp)
              have qb := hrb 0 (by simp)
              simp only [List.getD_cons_zero, Nat.zero_mul, Nat.add_zero] at qa qb
              obtain ⟨qa1, qa2⟩ := qa
              obtain ⟨qb1, qb2⟩ := qb
              have na : 0 < ((x1, x2) :: ta).length := by simp
              have nb : 0 < ((y1, y2) :: tb).length := by simp
              have hga2 := ua ga rfl
              have hgb2 := ub gb rfl
              have ra : RdN wr (.slice (some ⟨ga, oa, none⟩) ((x1, x2) :: ta).length ca) ((x1, x2) :: ta) := .inr (.inr ⟨ga, oa, ca, rfl, hga, hca, hra⟩)
              have rb : RdN wr (.slice (some ⟨gb, ob, none⟩) ((y1, y2) :: tb).length cb) ((y1, y2) :: tb) := .inr (.inr ⟨gb, ob, cb, rfl, hgb, hcb, hrb⟩)
              obtain ⟨oa', sla, rat⟩ := tailN ra
              obtain ⟨ob', slb, rbt⟩ := tailN rb
              have Rbt := hid rbt
              have Rat := hid rat
              have Mr := hid (fun q => M.right q)
              have Ml := hid (fun q => M.left q)
              have Lo := hid hlo
              have Loa : Hid (((x1, x2) :: ta).length = ta.length + 1) := rfl
              have Lob : Hid (((y1, y2) :: tb).length = tb.length + 1) := rfl
              have hzl : zo.length < 16777216 := by omega
              generalize ((x1, x2) :: ta).length = la at *
              generalize ((y1, y2) :: tb).length = lb at *
              clear hra hrb rbt rat M hlo
              go_wp2_with fail
              have ia1 : (0 : Int) < (la : Int) := by omega
              have ib1 : (0 : Int) < (lb : Int) := by omega
              go_region_held3 (fun w' => w'.cell? ⟨ga, oa, none⟩ = some (.int .i64 x1) ∧ w'.cell? ⟨ga, oa + 1, none⟩ = some (.int .i64 x2) ∧ w'.cell? ⟨gb, ob, none⟩ = some (.int .i64 y1) ∧ w'.cell? ⟨gb, ob + 1, none⟩ = some (.int .i64 y2))
                (first | exact ⟨qa1, qa2, qb1, qb2⟩ | exact ⟨hk1, hk2, hk3, hk4⟩)
                (first
                  | (go_at_call 223; refine (o_ahead y1 y2 x1 x2 _).mono ?_; rintro e w3 ⟨rfl, hb3⟩
                     have hk1 := cell_below hb3 qa1 hga
                     have hk2 := cell_below hb3 qa2 hga
                     have hk3 := cell_below hb3 qb1 hgb
                     have hk4 := cell_below hb3 qb2 hgb))
              have hb3' : Below wr.heap.size wr w3 := (below_drewN (Below.refl _ _) 1).trans hb3
              have oo3 := oo.below hb3' nlr
              have ra3 := ra.below hb3' nlr
              have rb3 := rb.below hb3' nlr
              have rat3 := hid (Rat.out.below hb3' nlr)
              have rbt3 := hid (Rbt.out.below hb3' nlr)
              have hs3 := hb3'.size
              have hbw3 := hbl.trans (hb3'.mono hbl.size)
              have hga3 : ga < w3.heap.size := by omega
              have hgb3 : gb < w3.heap.size := by omega
              have hwc3 : wc.heap.size ≤ w3.heap.size := by omega
              clear qa1 qa2 qb1 qb2 hb3 ra rb oo hbl
              by_cases hyx : y1 < x1
              · go_wp2_with fail
                go_region_held3 (fun w' => w'.cell? ⟨gb, ob, none⟩ = some (.int .i64 y1) ∧ w'.cell? ⟨gb, ob + 1, none⟩ = some (.int .i64 y2) ∧ Below wc.heap.size w3 w')
                  (first
                    | exact ⟨hk3, hk4, below_drewN (Below.refl _ _) 1⟩
                    | exact ⟨cell_below ((below_drewN (Below.refl w3.heap.size w3) 1).alloc nlr _) hk3 hgb3, cell_below ((below_drewN (Below.refl w3.heap.size w3) 1).alloc nlr _) hk4 hgb3, (below_drewN (Below.refl _ _) 1).alloc hwc3 _⟩
                    | exact ⟨cell_below hb4 hk3 hgb2, cell_below hb4 hk4 hgb2, hb4⟩)
                  (first
                    | (refine step_appendN (w := w3.drew.alloc (.cells #[.int .i64 y1, .int .i64 y2] 116)) (H := w3.heap.size) (b := y1) (c := y2) _ _ ((oo3.drewN 1).alloc _) hzl (by simp; omega) (Blk.new w3.drew _ _) (by rfl) (by rfl) (by rfl) (by rfl) ?_; intro v4 w4 ho4 hg4
                       have hb4 : Below wc.heap.size w3 w4 := ((below_drewN (Below.refl _ _) 1).alloc hwc3 _).trans (below_grown hg4 (by simp; omega) oo3.lt)))
                go_wp2_with fail
                go_roundw
                case rel => exact ⟨_, tb, _, Mr.out hyx, ra3.belowU hb4 ua, rbt3.out.belowU hb4 (fun g h => ub g h), ho4, ua, (fun g h => ub g h), hbw3.trans hb4⟩
                case measure => simp [lenOf]; omega
              · go_wp2_with fail
                go_region_held3 (fun w' => w'.cell? ⟨ga, oa, none⟩ = some (.int .i64 x1) ∧ w'.cell? ⟨ga, oa + 1, none⟩ = some (.int .i64 x2) ∧ Below wc.heap.size w3 w')
                  (first
                    | exact ⟨hk1, hk2, below_drewN (Below.refl _ _) 1⟩
                    | exact ⟨cell_below ((below_drewN (Below.refl w3.heap.size w3) 1).alloc nlr _) hk1 hga3, cell_below ((below_drewN (Below.refl w3.heap.size w3) 1).alloc nlr _) hk2 hga3, (below_drewN (Below.refl _ _) 1).alloc hwc3 _⟩
                    | exact ⟨cell_below hb4 hk1 hga2, cell_below hb4 hk2 hga2, hb4⟩)
                  (first
                    | (refine step_appendN (w := w3.drew.alloc (.cells #[.int .i64 x1, .int .i64 x2] 116)) (H := w3.heap.size) (b := x1) (c := x2) _ _ ((oo3.drewN 1).alloc _) hzl (by simp; omega) (Blk.new w3.drew _ _) (by rfl) (by rfl) (by rfl) (by rfl) ?_; intro v4 w4 ho4 hg4
                       have hb4 : Below wc.heap.size w3 w4 := ((below_drewN (Below.refl _ _) 1).alloc hwc3 _).trans (below_grown hg4 (by simp; omega) oo3.lt)))
                go_wp2_with fail
                go_roundw
                case rel => exact ⟨ta, _, _, Ml.out (by omega), rat3.out.belowU hb4 (fun g h => ua g h), rb3.belowU hb4 ub, ho4, (fun g h => ua g h), ub, hbw3.trans hb4⟩
                case measure => simp [lenOf]; omega
end Go.Proofs.YtdnlejboijkcfaaGreatDoor
