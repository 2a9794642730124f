/- Texts laid together. -/
import Derived.Test.YtdnlejboijkcfaaGreatDoorP16
/- Trees of sensors, and sets of them (no program in sight). -/
namespace Go.Proofs.YtdnlejboijkcfaaGreatDoor
open Go.RowKit
namespace Tb
def Dep (ps : List Int) : Nat → Nat → Prop
  | 0, i => ps.getD i 0 < 0
  | d + 1, i => ∃ j : Nat, j < ps.length ∧ ps.getD i 0 = j ∧ Dep ps d j
theorem Dep.uniq {ps : List Int} : ∀ {d e i : Nat}, Dep ps d i → Dep ps e i → d = e
  | 0, 0, _, _, _ => rfl
  | 0, e + 1, i, h, ⟨j, _, h2, _⟩ => by simp only [Dep] at h; omega
  | d + 1, 0, i, ⟨j, _, h2, _⟩, h => by simp only [Dep] at h; omega
  | d + 1, e + 1, i, ⟨j, _, h2, h3⟩, ⟨j', _, h2', h3'⟩ => by
    have : j = j' := by omega
    subst this
    rw [Dep.uniq h3 h3']
def Tree (ps : List Int) : Prop := ∀ i, i < ps.length → ∃ d, d < ps.length ∧ Dep ps d i
def kidsN (ps : List Int) (i : Int) : Nat → Nat
  | 0 => 0
  | k + 1 => if ps.getD k 0 = i then kidsN ps i k ||| 2 ^ k else kidsN ps i k
theorem kids_bit (ps : List Int) (i : Int) : ∀ k j, (kidsN ps i k).testBit j = true ↔ j < k ∧ ps.getD j 0 = i
  | 0, j => by simp [kidsN]
  | k + 1, j => by
    have ih := kids_bit ps i k j
    unfold kidsN
    split
    · rename_i h
      rw [Nat.testBit_or, Nat.testBit_two_pow, Bool.or_eq_true, ih, decide_eq_true_eq]
      constructor
      · rintro (⟨h1, h2⟩ | rfl)
        · exact ⟨by omega, h2⟩
        · exact ⟨by omega, h⟩
      · rintro ⟨h1, h2⟩
        by_cases e : k = j
        · exact .inr e
        · exact .inl ⟨by omega, h2⟩
    · rename_i h
      rw [ih]
      constructor
      · rintro ⟨h1, h2⟩; exact ⟨by omega, h2⟩
      · rintro ⟨h1, h2⟩
        refine ⟨?_, h2⟩
        rcases Nat.lt_or_ge j k with h3 | h3
        · exact h3
        · have : j = k := by omega
          subst this; exact absurd h2 h
theorem kids_lt (ps : List Int) (i : Int) (k : Nat) : kidsN ps i k < 2 ^ k := by
  apply Nat.lt_pow_two_of_testBit
  intro j hj
  cases h : (kidsN ps i k).testBit j
  · rfl
  · have := ((kids_bit ps i k j).1 h).1; omega
def upF (ps : List Int) : Nat → Nat → Bool
  | 0, _ => false
  | f + 1, i => if ps.getD i 0 = -1 then true else if ps.getD i 0 < 0 ∨ ps.length ≤ ps.getD i 0 then false else upF ps f (ps.getD i 0).toNat
theorem up_dep {ps : List Int} : ∀ {f i : Nat}, upF ps f i = true → (∃ d, d < f ∧ Dep ps d i) ∧ (ps.getD i 0 = -1 ∨ (0 ≤ ps.getD i 0 ∧ ps.getD i 0 < ps.length))
  | 0, _, h => by cases h
  | f + 1, i, h => by
    unfold upF at h
    split at h
    · rename_i e
      exact ⟨⟨0, by omega, by show ps.getD i 0 < 0; omega⟩, .inl e⟩
    · split at h
      · cases h
      · rename_i e1 e2
        obtain ⟨⟨d, hd, hdd⟩, -⟩ := up_dep h
        exact ⟨⟨d + 1, by omega, (ps.getD i 0).toNat, by omega, by omega, hdd⟩, .inr ⟨by omega, by omega⟩⟩
def rootsN (ps : List Int) : Nat → Nat
  | 0 => 0
  | k + 1 => if ps.getD k 0 = -1 then rootsN ps k + 1 else rootsN ps k
theorem roots_none {ps : List Int} : ∀ {k : Nat}, rootsN ps k = 0 → ∀ j, j < k → ps.getD j 0 ≠ -1
  | 0, _, j, h => by omega
  | k + 1, h, j, hj => by
    unfold rootsN at h
    split at h
    · omega
    · rename_i e
      rcases Nat.lt_or_ge j k with h3 | h3
      · exact roots_none h j h3
      · have : j = k := by omega
        subst this; exact e
theorem roots_one {ps : List Int} : ∀ {k : Nat}, rootsN ps k = 1 → ∃ r, r < k ∧ ∀ j, j < k → (ps.getD j 0 = -1 ↔ j = r)
  | 0, h => by simp [rootsN] at h
  | k + 1, h => by
    unfold rootsN at h
    split at h
    · rename_i e
      have h0 : rootsN ps k = 0 := by omega
      refine ⟨k, by omega, fun j hj => ⟨fun q => ?_, fun q => by subst q; exact e⟩⟩
      rcases Nat.lt_or_ge j k with h3 | h3
      · exact absurd q (roots_none h0 j h3)
      · omega
    · rename_i e
      obtain ⟨r, hr, hh⟩ := roots_one h
      refine ⟨r, by omega, fun j hj => ?_⟩
      rcases Nat.lt_or_ge j k with h3 | h3
      · exact hh j h3
      · have : j = k := by omega
        subst this
        exact ⟨fun q => absurd q e, fun q => by omega⟩
structure Right (ps : List Int) (r : Nat) : Prop where
  n1 : 1 ≤ ps.length
  n2 : ps.length ≤ 48
  tree : Tree ps
  rt : r < ps.length
  root : ∀ i, i < ps.length → (ps.getD i 0 < 0 ↔ i = r)
  neg : ∀ i, i < ps.length → ps.getD i 0 = -1 ∨ (0 ≤ ps.getD i 0 ∧ ps.getD i 0 < ps.length)
theorem Right.of {ps : List Int} (n1 : 1 ≤ ps.length) (n2 : ps.length ≤ 48) (h : ∀ i, i < ps.length → upF ps ps.length i = true) (h1 : rootsN ps ps.length = 1) : ∃ r, Right ps r := by
  obtain ⟨r, hr, hh⟩ := roots_one h1
  refine ⟨r, n1, n2, fun i hi => (up_dep (h i hi)).1, hr, fun i hi => ?_, fun i hi => (up_dep (h i hi)).2⟩
  rw [← hh i hi]
  have := (up_dep (h i hi)).2
  constructor <;> intro q <;> omega
def rightB (ps : List Int) : Bool := decide (1 ≤ ps.length ∧ ps.length ≤ 48 ∧ (∀ i, i < ps.length → upF ps ps.length i = true) ∧ rootsN ps ps.length = 1)
theorem rightB_of {ps : List Int} (h : rightB ps = true) : ∃ r, Right ps r := by
  obtain ⟨h1, h2, h3, h4⟩ := of_decide_eq_true h
  exact Right.of h1 h2 h3 h4
def anc (ps : List Int) : Nat → Nat → Nat
  | 0, x => x
  | m + 1, x => anc ps m (ps.getD x 0).toNat
theorem anc_up (ps : List Int) : ∀ m x, anc ps (m + 1) x = (ps.getD (anc ps m x) 0).toNat
  | 0, x => rfl
  | m + 1, x => by
    show anc ps (m + 1) (ps.getD x 0).toNat = _
    rw [anc_up ps m]; rfl
theorem anc_dep {ps : List Int} : ∀ {m d x : Nat}, Dep ps (d + m) x → Dep ps d (anc ps m x)
  | 0, d, x, h => h
  | m + 1, d, x, h => by
    obtain ⟨j, hj, e, h'⟩ : Dep ps (d + m + 1) x := h
    show Dep ps d (anc ps m (ps.getD x 0).toNat)
    rw [e]
    exact anc_dep h'
theorem anc_lt {ps : List Int} : ∀ {m d x : Nat}, x < ps.length → Dep ps (d + m) x → anc ps m x < ps.length
  | 0, d, x, h, _ => h
  | m + 1, d, x, _, h => by
    obtain ⟨j, hj, e, h'⟩ : Dep ps (d + m + 1) x := h
    show anc ps m (ps.getD x 0).toNat < _
    rw [e]
    exact anc_lt hj h'
def sub (ps : List Int) (d i x : Nat) : Prop := x < ps.length ∧ ∃ m, Dep ps (d + m) x ∧ anc ps m x = i
theorem sub_self {ps : List Int} {d i : Nat} (hi : i < ps.length) (h : Dep ps d i) : sub ps d i i := ⟨hi, 0, h, rfl⟩
theorem sub_kid {ps : List Int} {d i j x : Nat} (hj : ps.getD j 0 = i) (h : sub ps (d + 1) j x) : sub ps d i x := by
  obtain ⟨h1, m, h2, h3⟩ := h
  refine ⟨h1, m + 1, by rw [show d + (m + 1) = d + 1 + m by omega]; exact h2, ?_⟩
  rw [anc_up, h3, hj]; rfl
theorem sub_via {ps : List Int} {d i x : Nat} (h : sub ps d i x) (hne : x ≠ i) : ∃ j, j < ps.length ∧ ps.getD j 0 = i ∧ sub ps (d + 1) j x := by
  obtain ⟨h1, m, h2, h3⟩ := h
  match m, h2, h3 with
  | 0, _, h3 => exact absurd h3 hne
  | m + 1, h2, h3 =>
    have h2' : Dep ps (d + 1 + m) x := by rw [show d + 1 + m = d + (m + 1) by omega]; exact h2
    obtain ⟨j', _, e, _⟩ := anc_dep h2'
    rw [anc_up, e] at h3
    refine ⟨anc ps m x, anc_lt h1 h2', ?_, h1, m, h2', rfl⟩
    rw [e]
    have : j' = i := by simpa using h3
    rw [this]
theorem sub_one {ps : List Int} {d j j' x : Nat} (h : sub ps d j x) (h' : sub ps d j' x) : j = j' := by
  obtain ⟨_, m, h2, h3⟩ := h
  obtain ⟨_, m', h2', h3'⟩ := h'
  have : m = m' := by have := h2.uniq h2'; omega
  subst this
  rw [← h3, ← h3']
theorem sub_not {ps : List Int} {d i j : Nat} (h : Dep ps d i) : ¬ sub ps (d + 1) j i := by
  rintro ⟨_, m, h2, _⟩
  have := h.uniq h2; omega
structure OrdP (ps : List Int) (d i : Nat) (ys : List Nat) : Prop where
  nd : ys.Nodup
  mem : ∀ x, x ∈ ys ↔ sub ps d i x
  last : ∃ zs, ys = zs ++ [i]
structure KidsP (ps : List Int) (d : Nat) (pre ys : List Nat) : Prop where
  nd : ys.Nodup
  mem : ∀ x, x ∈ ys ↔ ∃ j ∈ pre, sub ps (d + 1) j x
theorem KidsP.nil (ps : List Int) (d : Nat) : KidsP ps d [] [] := ⟨List.nodup_nil, fun x => by simp⟩
theorem KidsP.step {ps : List Int} {d j : Nat} {pre ys zs : List Nat} (h : KidsP ps d pre ys) (hj : j ∉ pre) (o : OrdP ps (d + 1) j zs) : KidsP ps d (pre ++ [j]) (ys ++ zs) := by
  refine ⟨List.nodup_append.2 ⟨h.nd, o.nd, fun a ha b hb e => ?_⟩, fun x => ?_⟩
  · subst e
    obtain ⟨j', hj', hs⟩ := (h.mem a).1 ha
    have := sub_one hs ((o.mem a).1 hb)
    subst this; exact hj hj'
  · rw [List.mem_append, h.mem, o.mem]
    constructor
    · rintro (⟨j', h1, h2⟩ | h1)
      · exact ⟨j', List.mem_append_left _ h1, h2⟩
      · exact ⟨j, List.mem_append_right _ (by simp), h1⟩
    · rintro ⟨j', h1, h2⟩
      rcases List.mem_append.1 h1 with h1 | h1
      · exact .inl ⟨j', h1, h2⟩
      · rw [List.mem_singleton.1 h1] at h2; exact .inr h2
theorem KidsP.fin {ps : List Int} {d i : Nat} {pre ys : List Nat} (h : KidsP ps d pre ys) (hi : i < ps.length) (hd : Dep ps d i) (hk : ∀ j, j ∈ pre ↔ j < ps.length ∧ ps.getD j 0 = i) : OrdP ps d i (ys ++ [i]) := by
  refine ⟨List.nodup_append.2 ⟨h.nd, by simp, fun a ha b hb e => ?_⟩, fun x => ?_, _, rfl⟩
  · rw [List.mem_singleton.1 hb] at e
    subst e
    obtain ⟨j', _, hs⟩ := (h.mem a).1 ha
    exact sub_not hd hs
  · rw [List.mem_append, h.mem, List.mem_singleton]
    constructor
    · rintro (⟨j, h1, h2⟩ | rfl)
      · exact sub_kid ((hk j).1 h1).2 h2
      · exact sub_self hi hd
    · intro hs
      by_cases e : x = i
      · exact .inr e
      · obtain ⟨j, h1, h2, h3⟩ := sub_via hs e
        exact .inl ⟨j, (hk j).2 ⟨h1, h2⟩, h3⟩
theorem OrdP.len {ps : List Int} {d i : Nat} {ys : List Nat} (h : OrdP ps d i ys) : ys.length ≤ ps.length := nodup_bd h.nd fun x hx => ((h.mem x).1 hx).1
theorem KidsP.len {ps : List Int} {d : Nat} {pre ys : List Nat} (h : KidsP ps d pre ys) : ys.length ≤ ps.length := nodup_bd h.nd fun x hx => by
  obtain ⟨j, _, h1⟩ := (h.mem x).1 hx; exact h1.1
theorem OrdP.all {ps : List Int} {r : Nat} {ys : List Nat} (R : Right ps r) (h : OrdP ps 0 r ys) : ∀ x, x ∈ ys ↔ x < ps.length := fun x => by
  rw [h.mem]
  constructor
  · exact fun q => q.1
  · intro hx
    obtain ⟨d, _, hd⟩ := R.tree x hx
    refine ⟨hx, d, by rw [Nat.zero_add]; exact hd, ?_⟩
    have h0 : Dep ps 0 (anc ps d x) := anc_dep (by rw [Nat.zero_add]; exact hd)
    exact (R.root _ (anc_lt (d := 0) hx (by rw [Nat.zero_add]; exact hd))).1 h0
end Tb
end Go.Proofs.YtdnlejboijkcfaaGreatDoor
