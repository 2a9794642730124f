/- A table that is looked through (no program in sight): putting nodes, twice as many slots, adding. -/
import Derived.Test.YtejoecoenehooaaPbMath3
namespace Go.Proofs.Ytejoecoenehooaa
namespace Nl

/-- A number that no slot has, put where looking for it ends. -/
theorem new_spec {b : Nat} {xs : List (Int × Int)} (t : Tab b xs) {id c : Int} (h1 : 1 ≤ id) (hc : 0 < c) (ho : occ xs < xs.length) (hno : ∀ i, i < xs.length → 0 < cntA xs i → idA xs i ≠ id) :
    lookI xs b id < xs.length ∧ cntA xs (lookI xs b id) = 0 ∧ Tab b (xs.set (lookI xs b id) (id, c)) ∧ occ (xs.set (lookI xs b id) (id, c)) = occ xs + 1 ∧ sumL (xs.set (lookI xs b id) (id, c)) = sumL xs + c ∧ ∀ id' c', Has (xs.set (lookI xs b id) (id, c)) id' c' ↔ (Has xs id' c' ∨ (id' = id ∧ c' = c)) := by
  obtain ⟨e, he, hce⟩ := has_empty ho
  have hs := stopB_iff (xs := xs) (id := id) (i := e) |>.2 (.inl hce)
  obtain ⟨s1, s2, s3, s4⟩ := look_spec t id he hs
  have h0 : cntA xs (lookI xs b id) = 0 := by
    have := t.pos (lookI xs b id)
    rcases stopB_iff.1 s2 with h | h
    · omega
    · by_cases hp : 0 < cntA xs (lookI xs b id)
      · exact absurd h (hno _ s3 hp)
      · omega
  have tn := t.new h1 hc he hs (by omega)
  generalize lookI xs b id = i at *
  have o1 := occ_set xs i (id, c) s3
  have s5 := sumL_set xs i (id, c) s3
  rw [if_neg (by omega), if_pos hc] at o1
  simp only at s5
  refine ⟨s3, h0, tn, by omega, by omega, fun id' c' => ?_⟩
  have L : (xs.set i (id, c)).length = xs.length := by simp
  unfold Has
  rw [L]
  constructor
  · rintro ⟨j, hj, h2, h3, h4⟩
    rw [idA_set xs i j _ s3] at h2
    rw [cntA_set xs i j _ s3] at h3
    by_cases h5 : i = j
    · rw [if_pos h5] at h2 h3; exact .inr ⟨h2.symm, h3.symm⟩
    · rw [if_neg h5] at h2 h3; exact .inl ⟨j, hj, h2, h3, h4⟩
  · rintro (⟨j, hj, h2, h3, h4⟩ | ⟨rfl, rfl⟩)
    · have h5 : i ≠ j := fun q => by rw [← q, h0] at h3; omega
      exact ⟨j, hj, by rw [idA_set xs i j _ s3, if_neg h5]; exact h2, by rw [cntA_set xs i j _ s3, if_neg h5]; exact h3, h4⟩
    · exact ⟨i, s3, by rw [idA_set xs i i _ s3, if_pos rfl], by rw [cntA_set xs i i _ s3, if_pos rfl], hc⟩

/-- Nodes put one behind the other. -/
def putAll (b : Nat) (t : List (Int × Int)) (ys : List (Int × Int)) : List (Int × Int) := ys.foldl (fun t x => t.set (lookI t b x.1) x) t
theorem putAll_length (b : Nat) (t ys : List (Int × Int)) : (putAll b t ys).length = t.length := by
  unfold putAll
  induction ys generalizing t with
  | nil => rfl
  | cons y r ih => simp only [List.foldl_cons]; rw [ih]; simp
theorem putAll_snoc (b : Nat) (t ys : List (Int × Int)) (y : Int × Int) : putAll b t (ys ++ [y]) = (putAll b t ys).set (lookI (putAll b t ys) b y.1) y := by
  unfold putAll; rw [List.foldl_append]; rfl
theorem putAll_spec {b : Nat} (ys : List (Int × Int)) : ∀ t : List (Int × Int), Tab b t → (∀ y ∈ ys, 1 ≤ y.1 ∧ 0 < y.2) → ys.Pairwise (fun x y => x.1 ≠ y.1) → (∀ y ∈ ys, ∀ i, i < t.length → 0 < cntA t i → idA t i ≠ y.1) → occ t + ys.length < t.length →
    Tab b (putAll b t ys) ∧ occ (putAll b t ys) = occ t + ys.length ∧ sumL (putAll b t ys) = sumL t + sumL ys ∧ ∀ id c, Has (putAll b t ys) id c ↔ (Has t id c ∨ (id, c) ∈ ys) := by
  induction ys with
  | nil => intro t ht _ _ _ _; exact ⟨ht, rfl, by simp [putAll, sumL], fun id c => by simp [putAll]⟩
  | cons y r ih =>
    intro t ht hy hp hn ho
    simp only [List.length_cons] at ho
    have hy1 := hy y (by simp)
    obtain ⟨n1, n2, n3, n4, n5, n6⟩ := new_spec ht hy1.1 hy1.2 (by omega) (hn y (by simp))
    have L : (t.set (lookI t b y.1) (y.1, y.2)).length = t.length := by simp
    have hp2 := List.pairwise_cons.1 hp
    obtain ⟨r1, r2, r3, r4⟩ := ih (t.set (lookI t b y.1) (y.1, y.2)) n3 (fun z hz => hy z (by simp [hz])) hp2.2 (fun z hz i hi hc q => by
      have : Has (t.set (lookI t b y.1) (y.1, y.2)) (idA (t.set (lookI t b y.1) (y.1, y.2)) i) (cntA (t.set (lookI t b y.1) (y.1, y.2)) i) := ⟨i, hi, rfl, rfl, hc⟩
      rcases (n6 _ _).1 this with ⟨j, hj, h2, h3, h4⟩ | ⟨h2, _⟩
      · exact hn z (by simp [hz]) j hj (by omega) (by rw [h2, q])
      · exact hp2.1 z hz (by rw [← h2, q])) (by rw [L]; omega)
    refine ⟨r1, ?_, ?_, fun id c => ?_⟩
    · show occ (putAll b (t.set (lookI t b y.1) (y.1, y.2)) r) = _
      rw [r2]; simp only [List.length_cons]; omega
    · show sumL (putAll b (t.set (lookI t b y.1) (y.1, y.2)) r) = _
      rw [r3]; simp only [sumL]; omega
    · show Has (putAll b (t.set (lookI t b y.1) (y.1, y.2)) r) id c ↔ _
      rw [r4, n6, List.mem_cons, or_assoc]
      constructor
      · rintro (h | ⟨h1, h2⟩ | h)
        · exact .inl h
        · exact .inr (.inl (by rw [h1, h2]))
        · exact .inr (.inr h)
      · rintro (h | h | h)
        · exact .inl h
        · right; left; rw [← h]; exact ⟨rfl, rfl⟩
        · exact .inr (.inr h)

/-- The slots that have nodes. -/
def full (xs : List (Int × Int)) : List (Int × Int) := xs.filter (fun x => decide (0 < x.2))
theorem full_length (xs : List (Int × Int)) : (full xs).length = occ xs := by
  induction xs with
  | nil => rfl
  | cons x r ih =>
    unfold full at *
    rw [List.filter_cons]
    simp only [occ]
    by_cases h : 0 < x.2
    · rw [if_pos (by simpa using h), if_pos h, List.length_cons, ih]; omega
    · rw [if_neg (by simpa using h), if_neg h, ih]; omega
theorem full_sum {xs : List (Int × Int)} (h : ∀ i, 0 ≤ cntA xs i) : sumL (full xs) = sumL xs := by
  induction xs with
  | nil => rfl
  | cons x r ih =>
    have h0 : 0 ≤ x.2 := h 0
    have i := ih (fun i => h (i + 1))
    unfold full at *
    rw [List.filter_cons]
    simp only [sumL]
    by_cases hx : 0 < x.2
    · rw [if_pos (by simpa using hx)]; simp only [sumL]; omega
    · rw [if_neg (by simpa using hx)]; omega
theorem full_mem {xs : List (Int × Int)} {id c : Int} : (id, c) ∈ full xs ↔ Has xs id c := by
  unfold full Has
  rw [List.mem_filter]
  constructor
  · rintro ⟨h1, h2⟩
    obtain ⟨i, hi, he⟩ := List.getElem_of_mem h1
    refine ⟨i, hi, ?_, ?_, by simpa using h2⟩
    · unfold idA; simp [List.getD, List.getElem?_eq_getElem hi, he]
    · unfold cntA; simp [List.getD, List.getElem?_eq_getElem hi, he]
  · rintro ⟨i, hi, h1, h2, h3⟩
    refine ⟨?_, by simpa using h3⟩
    have : xs[i] = (id, c) := by
      rw [← h1, ← h2]
      unfold idA cntA
      simp [List.getD, List.getElem?_eq_getElem hi]
    rw [← this]
    exact List.getElem_mem hi
theorem Tab.full_pair {b : Nat} {xs : List (Int × Int)} (t : Tab b xs) : (full xs).Pairwise (fun x y => x.1 ≠ y.1) := by
  unfold full
  rw [List.pairwise_filter]
  rw [List.pairwise_iff_getElem]
  intro i j hi hj hij h1 h2 q
  have e : ∀ k (hk : k < xs.length), idA xs k = xs[k].1 ∧ cntA xs k = xs[k].2 := fun k hk => by
    unfold idA cntA; simp [List.getD, List.getElem?_eq_getElem hk]
  have := t.dist i j hi hj (by rw [(e i hi).2]; simpa using h1) (by rw [(e j hj).2]; simpa using h2) (by rw [(e i hi).1, (e j hj).1]; exact q)
  omega
theorem Tab.full_ok {b : Nat} {xs : List (Int × Int)} (t : Tab b xs) : ∀ y ∈ full xs, 1 ≤ y.1 ∧ 0 < y.2 := by
  rintro ⟨id, c⟩ h
  obtain ⟨i, hi, h1, h2, h3⟩ := full_mem.1 h
  have := t.one i (by omega)
  simp only; omega
/-- Twice as many slots. -/
def widenP (b : Nat) (xs : List (Int × Int)) : List (Int × Int) := putAll (b + 1) (List.replicate (2 ^ (b + 1)) (0, 0)) (full xs)
theorem cnt_zeros (n i : Nat) : cntA (List.replicate n ((0 : Int), (0 : Int))) i = 0 := by
  unfold cntA
  by_cases h : i < n <;> simp [List.getD, h]
theorem occ_zeros (n : Nat) : occ (List.replicate n ((0 : Int), (0 : Int))) = 0 := by
  induction n with
  | zero => rfl
  | succ n ih => simp [List.replicate_succ, occ, ih]
theorem sum_zeros (n : Nat) : sumL (List.replicate n ((0 : Int), (0 : Int))) = 0 := by
  induction n with
  | zero => rfl
  | succ n ih => simp [List.replicate_succ, sumL, ih]
theorem widen_spec {b : Nat} {xs : List (Int × Int)} (t : Tab b xs) (hb : b + 1 ≤ 62) :
    Tab (b + 1) (widenP b xs) ∧ occ (widenP b xs) = occ xs ∧ sumL (widenP b xs) = sumL xs ∧ (widenP b xs).length = 2 * xs.length ∧ ∀ id c, Has (widenP b xs) id c ↔ Has xs id c := by
  have hl := occ_le xs
  have h0 := t.pos_len
  have e : 2 ^ (b + 1) = 2 * xs.length := by rw [t.len, Nat.pow_succ]; omega
  obtain ⟨r1, r2, r3, r4⟩ := putAll_spec (full xs) (List.replicate (2 ^ (b + 1)) (0, 0)) (Tab.empty (b + 1) hb) t.full_ok t.full_pair (fun y _ i _ hc => by rw [cnt_zeros] at hc; omega) (by rw [occ_zeros, full_length]; simp; omega)
  refine ⟨r1, ?_, ?_, ?_, fun id c => (r4 id c).trans ?_⟩
  · show occ (putAll _ _ _) = _; rw [r2, occ_zeros, full_length]; omega
  · show sumL (putAll _ _ _) = _; rw [r3, sum_zeros, full_sum t.pos]; omega
  · show (putAll _ _ _).length = _; rw [putAll_length]; simp [e]
  · rw [full_mem]
    constructor
    · rintro (⟨i, hi, _, h2, h3⟩ | h)
      · rw [cnt_zeros] at h2; omega
      · exact h
    · exact .inr

/-- Adding to a number's weight. -/
def addT (b : Nat) (xs : List (Int × Int)) (id c : Int) : Nat × List (Int × Int) :=
  if c = 0 then (b, xs)
  else if 0 < cntA xs (lookI xs b id) then (b, xs.set (lookI xs b id) (id, cntA xs (lookI xs b id) + c))
  else if xs.length < 2 * (occ xs + 1) then (b + 1, (widenP b xs).set (lookI (widenP b xs) (b + 1) id) (id, c))
  else (b, xs.set (lookI xs b id) (id, c))
theorem addT_spec {b : Nat} {xs : List (Int × Int)} (t : Tab b xs) (hb : b + 1 ≤ 62) (hf : 2 * occ xs ≤ xs.length) {id c : Int} (h1 : 1 ≤ id) (hc : 0 ≤ c) :
    Tab (addT b xs id c).1 (addT b xs id c).2 ∧ 2 * occ (addT b xs id c).2 ≤ (addT b xs id c).2.length ∧ occ (addT b xs id c).2 ≤ occ xs + 1 ∧ sumL (addT b xs id c).2 = sumL xs + c ∧
      (((addT b xs id c).1 = b ∧ (addT b xs id c).2.length = xs.length) ∨ ((addT b xs id c).1 = b + 1 ∧ (addT b xs id c).2.length = 2 * xs.length ∧ xs.length < 2 * (occ xs + 1) ∧ occ (addT b xs id c).2 = occ xs + 1)) ∧
      ∀ id' c', Has (addT b xs id c).2 id' c' ↔ ((id' ≠ id ∧ Has xs id' c') ∨ (id' = id ∧ c' = cntA xs (lookI xs b id) + c ∧ 0 < c')) := by
  have h0 := t.pos_len
  obtain ⟨e, he, hce⟩ := has_empty (show occ xs < xs.length by omega)
  obtain ⟨s1, s2, s3, s4⟩ := look_spec t id he (stopB_iff.2 (.inl hce))
  have hp := t.pos (lookI xs b id)
  have hsame : 0 < cntA xs (lookI xs b id) → idA xs (lookI xs b id) = id := fun h => by
    rcases stopB_iff.1 s2 with q | q
    · omega
    · exact q
  have hnone : cntA xs (lookI xs b id) ≤ 0 → ∀ i, i < xs.length → 0 < cntA xs i → idA xs i ≠ id := look_none t id
  unfold addT
  by_cases c0 : c = 0
  · rw [if_pos c0]
    dsimp only
    refine ⟨t, hf, by omega, by omega, .inl ⟨rfl, rfl⟩, fun id' c' => ?_⟩
    constructor
    · intro h
      by_cases hi : id' = id
      · right
        obtain ⟨j, hj, g1, g2, g3⟩ := h
        refine ⟨hi, ?_, g3⟩
        have := (look_found t hj (by omega)).2
        rw [g1, hi] at this
        rw [this, g2]; omega
      · exact .inl ⟨hi, h⟩
    · rintro (⟨_, h⟩ | ⟨g1, g2, g3⟩)
      · exact h
      · exact ⟨lookI xs b id, s3, by rw [g1]; exact hsame (by omega), by omega, g3⟩
  rw [if_neg c0]
  by_cases hk : 0 < cntA xs (lookI xs b id)
  · rw [if_pos hk]
    dsimp only
    have hid := hsame hk
    have tu := t.upd s3 hk (c := cntA xs (lookI xs b id) + c) (by omega)
    rw [hid] at tu
    have o1 := occ_set xs (lookI xs b id) (id, cntA xs (lookI xs b id) + c) s3
    have s5 := sumL_set xs (lookI xs b id) (id, cntA xs (lookI xs b id) + c) s3
    rw [if_pos hk, if_pos (by show 0 < cntA xs (lookI xs b id) + c; omega)] at o1
    simp only at s5
    have L : (xs.set (lookI xs b id) (id, cntA xs (lookI xs b id) + c)).length = xs.length := by simp
    refine ⟨tu, by rw [L]; omega, by omega, by omega, .inl ⟨rfl, L⟩, fun id' c' => ?_⟩
    unfold Has
    rw [L]
    constructor
    · rintro ⟨j, hj, g1, g2, g3⟩
      rw [idA_set xs _ j _ s3] at g1
      rw [cntA_set xs _ j _ s3] at g2
      by_cases h5 : lookI xs b id = j
      · rw [if_pos h5] at g1 g2; exact .inr ⟨g1.symm, g2.symm, g3⟩
      · rw [if_neg h5] at g1 g2
        refine .inl ⟨fun q => h5 ?_, j, hj, g1, g2, g3⟩
        exact t.dist _ j s3 hj hk (by omega) (by rw [hid, g1, q])
    · rintro (⟨g0, j, hj, g1, g2, g3⟩ | ⟨g1, g2, g3⟩)
      · have h5 : lookI xs b id ≠ j := fun q => g0 (by rw [← g1, ← q, hid])
        exact ⟨j, hj, by rw [idA_set xs _ j _ s3, if_neg h5]; exact g1, by rw [cntA_set xs _ j _ s3, if_neg h5]; exact g2, g3⟩
      · exact ⟨lookI xs b id, s3, by rw [idA_set xs _ _ _ s3, if_pos rfl]; exact g1.symm, by rw [cntA_set xs _ _ _ s3, if_pos rfl]; exact g2.symm, g3⟩
  · rw [if_neg hk]
    have hz : cntA xs (lookI xs b id) = 0 := by omega
    have hno := hnone (by omega)
    have hnh : ∀ c', ¬ Has xs id c' := fun c' ⟨j, hj, g1, g2, g3⟩ => hno j hj (by omega) g1
    have fin : ∀ (ys : List (Int × Int)), (∀ id' c', Has ys id' c' ↔ (Has xs id' c' ∨ (id' = id ∧ c' = c))) → ∀ id' c', Has ys id' c' ↔ ((id' ≠ id ∧ Has xs id' c') ∨ (id' = id ∧ c' = cntA xs (lookI xs b id) + c ∧ 0 < c')) := by
      intro ys h id' c'
      rw [h, hz]
      constructor
      · rintro (g | ⟨g1, g2⟩)
        · exact .inl ⟨fun q => hnh c' (q ▸ g), g⟩
        · exact .inr ⟨g1, by omega, by omega⟩
      · rintro (⟨_, g⟩ | ⟨g1, g2, _⟩)
        · exact .inl g
        · exact .inr ⟨g1, by omega⟩
    by_cases hw : xs.length < 2 * (occ xs + 1)
    · rw [if_pos hw]
      dsimp only
      obtain ⟨w1, w2, w3, w4, w5⟩ := widen_spec t hb
      obtain ⟨n1, n2, n3, n4, n5, n6⟩ := new_spec w1 h1 (show 0 < c by omega) (by omega) (fun i hi hci q => by
        have : Has (widenP b xs) id (cntA (widenP b xs) i) := ⟨i, hi, q, rfl, hci⟩
        exact hnh _ ((w5 _ _).1 this))
      have L : ((widenP b xs).set (lookI (widenP b xs) (b + 1) id) (id, c)).length = (widenP b xs).length := by simp
      refine ⟨n3, by rw [L]; omega, by omega, by omega, .inr ⟨rfl, by rw [L]; omega, hw, by omega⟩, ?_⟩
      exact fin _ (fun id' c' => by rw [n6, w5])
    · rw [if_neg hw]
      dsimp only
      obtain ⟨n1, n2, n3, n4, n5, n6⟩ := new_spec t h1 (show 0 < c by omega) (by omega) hno
      have L : (xs.set (lookI xs b id) (id, c)).length = xs.length := by simp
      refine ⟨n3, by rw [L]; omega, by omega, by omega, .inl ⟨rfl, L⟩, ?_⟩
      exact fin _ n6
end Nl
end Go.Proofs.Ytejoecoenehooaa
