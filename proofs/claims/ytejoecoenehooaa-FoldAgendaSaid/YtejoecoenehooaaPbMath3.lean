/- A table that is looked through (no program in sight): taking a node away. -/
import Derived.Test.YtejoecoenehooaaPbMath2
namespace Go.Proofs.Ytejoecoenehooaa
namespace Nl

/-- A node lies in some slot. -/
def Has (xs : List (Int × Int)) (id c : Int) : Prop := ∃ i, i < xs.length ∧ idA xs i = id ∧ cntA xs i = c ∧ 0 < c

theorem TabH.start {b : Nat} {xs : List (Int × Int)} (t : Tab b xs) {h : Nat} (hh : h < xs.length) : TabH b (xs.set h (0, 0)) h 1 := by
  have C := fun j => cntA_set xs h j (0, 0) hh
  have I := fun j => idA_set xs h j (0, 0) hh
  have L : (xs.set h ((0 : Int), (0 : Int))).length = xs.length := by simp
  refine ⟨L.trans t.len, t.bits, fun j => ?_, fun j => ?_, fun j => ?_, fun j j' hj hj' hcj hcj' q => ?_, by rw [L]; exact hh, by rw [C, if_pos rfl]; exact Int.le_refl _, Nat.le_refl _, by rw [L]; omega, fun k h1 h2 => by omega, fun j hj hcj k hk => ?_⟩
  · rw [C]; split
    · exact Int.le_refl _
    · exact t.pos j
  · rw [C, I]; split
    · intro _; rfl
    · exact t.zero j
  · rw [C, I]; split
    · intro h; exact absurd h (by decide)
    · exact t.one j
  · rw [L] at hj hj'
    rw [C] at hcj hcj'
    rw [I, I] at q
    by_cases h1 : h = j
    · rw [if_pos h1] at hcj; exact absurd hcj (by decide)
    · by_cases h2 : h = j'
      · rw [if_pos h2] at hcj'; exact absurd hcj' (by decide)
      · rw [if_neg h1] at hcj q; rw [if_neg h2] at hcj' q
        exact t.dist j j' hj hj' hcj hcj' q
  · rw [L] at hj hk ⊢
    rw [C] at hcj
    by_cases h1 : h = j
    · rw [if_pos h1] at hcj; exact absurd hcj (by decide)
    · rw [if_neg h1] at hcj
      rw [I, if_neg h1] at hk ⊢
      by_cases h2 : h = (homeA b (idA xs j) + k) % xs.length
      · right; exact ⟨h2.symm, by omega⟩
      · left; rw [C, if_neg h2]; exact t.reach j hj hcj k hk

section
variable {b : Nat} {xs : List (Int × Int)} {hole m : Nat}
theorem TabH.skip (t : TabH b xs hole m) (hc : 0 < cntA xs ((hole + m) % xs.length))
    (hn : ¬ way xs.length (homeA b (idA xs ((hole + m) % xs.length))) hole ≤ way xs.length (homeA b (idA xs ((hole + m) % xs.length))) ((hole + m) % xs.length)) : TabH b xs hole (m + 1) := by
  have h0 : 0 < xs.length := by have := t.hl; omega
  have hm : m < xs.length := by
    have := t.m2
    by_cases h : m = xs.length
    · rw [h, Nat.add_mod_right, Nat.mod_eq_of_lt t.hl] at hc
      have := t.he; omega
    · omega
  refine ⟨t.len, t.bits, t.pos, t.zero, t.one, t.dist, t.hl, t.he, by omega, by omega, fun k h1 h2 => ?_, fun j hj hcj k hk => ?_⟩
  · by_cases h : k = m
    · rw [h]; exact hc
    · exact t.mid k h1 (by omega)
  · rcases t.reach j hj hcj k hk with h1 | ⟨h1, h2⟩
    · exact .inl h1
    · right
      refine ⟨h1, ?_⟩
      by_cases h : k + m = way xs.length (homeA b (idA xs j)) j
      · exfalso
        have hh := t.home (idA xs j)
        have hw := way_lt (homeA b (idA xs j)) j h0
        have ha := way_at hh hj
        rw [← h, ← mod_mod_add, h1] at ha
        rw [ha] at hn
        have := way_eq hh (k := k) (by omega) h1
        omega
      · omega
theorem TabH.move (t : TabH b xs hole m) {i : Nat} (hi : i = (hole + m) % xs.length) (hc : 0 < cntA xs i)
    (hw : way xs.length (homeA b (idA xs i)) hole ≤ way xs.length (homeA b (idA xs i)) i) : TabH b ((xs.set hole (idA xs i, cntA xs i)).set i (0, 0)) i 1 := by
  have h0 : 0 < xs.length := by have := t.hl; omega
  have hil : i < xs.length := by rw [hi]; exact Nat.mod_lt _ h0
  have hne : hole ≠ i := fun q => by have := t.he; rw [q] at this; omega
  have hL1 : i < (xs.set hole (idA xs i, cntA xs i)).length := by simpa using hil
  have L : ((xs.set hole (idA xs i, cntA xs i)).set i ((0 : Int), (0 : Int))).length = xs.length := by simp
  have C : ∀ j, cntA ((xs.set hole (idA xs i, cntA xs i)).set i (0, 0)) j = if i = j then 0 else if hole = j then cntA xs i else cntA xs j := fun j => by
    rw [cntA_set _ i j _ hL1, cntA_set xs hole j _ t.hl]
  have I : ∀ j, idA ((xs.set hole (idA xs i, cntA xs i)).set i (0, 0)) j = if i = j then 0 else if hole = j then idA xs i else idA xs j := fun j => by
    rw [idA_set _ i j _ hL1, idA_set xs hole j _ t.hl]
  generalize (xs.set hole (idA xs i, cntA xs i)).set i ((0 : Int), (0 : Int)) = ys at *
  have key : ∀ s, 0 < cntA xs s ∨ s = hole → s ≠ i → 0 < cntA ys s := fun s h1 h2 => by
    rw [C, if_neg (Ne.symm h2)]
    split
    · exact hc
    · rcases h1 with h1 | h1
      · exact h1
      · rename_i h3; exact absurd h1.symm h3
  refine ⟨L.trans t.len, t.bits, fun j => ?_, fun j => ?_, fun j => ?_, fun j j' hj hj' hcj hcj' q => ?_, by rw [L]; exact hil, by rw [C, if_pos rfl]; exact Int.le_refl _, Nat.le_refl _, by rw [L]; omega, fun k h1 h2 => by omega, fun j hj hcj k hk => ?_⟩
  · rw [C]; split
    · exact Int.le_refl _
    · split
      · omega
      · exact t.pos j
  · rw [C, I]; split
    · intro _; rfl
    · split
      · intro h; omega
      · exact t.zero j
  · rw [C, I]; split
    · intro h; exact absurd h (by decide)
    · split
      · intro _; exact t.one i hc
      · exact t.one j
  · rw [L] at hj hj'
    rw [C] at hcj hcj'
    rw [I, I] at q
    by_cases h1 : i = j
    · rw [if_pos h1] at hcj; exact absurd hcj (by decide)
    by_cases h2 : i = j'
    · rw [if_pos h2] at hcj'; exact absurd hcj' (by decide)
    rw [if_neg h1] at hcj q
    rw [if_neg h2] at hcj' q
    by_cases h3 : hole = j <;> by_cases h4 : hole = j'
    · omega
    · rw [if_pos h3, if_neg h4] at q
      rw [if_neg h4] at hcj'
      exact absurd (t.dist i j' hil hj' hc hcj' q) h2
    · rw [if_neg h3, if_pos h4] at q
      rw [if_neg h3] at hcj
      exact absurd (t.dist j i hj hil hcj hc q).symm h1
    · rw [if_neg h3, if_neg h4] at q
      rw [if_neg h3] at hcj
      rw [if_neg h4] at hcj'
      exact t.dist j j' hj hj' hcj hcj' q
  · rw [L] at hj hk ⊢
    rw [C] at hcj
    by_cases h1 : i = j
    · rw [if_pos h1] at hcj; exact absurd hcj (by decide)
    rw [if_neg h1] at hcj
    rw [I, if_neg h1] at hk ⊢
    by_cases h2 : hole = j
    · -- the node that was moved
      rw [if_pos h2] at hk ⊢
      rw [← h2] at hk
      have hh := t.home (idA xs i)
      have hwl := way_lt (homeA b (idA xs i)) i h0
      have hwn : way xs.length (homeA b (idA xs i)) hole ≠ way xs.length (homeA b (idA xs i)) i := fun q => by
        have e1 := way_at hh hil
        have e2 := way_at hh t.hl
        rw [← q, e2] at e1; exact hne e1
      left
      refine key _ ?_ (fun q => ?_)
      · rcases t.reach i hil hc k (by omega) with h3 | ⟨h3, _⟩
        · exact .inl h3
        · exact .inr h3
      · have := way_eq hh (k := k) (by omega) q
        omega
    · rw [if_neg h2] at hcj hk ⊢
      by_cases h5 : (homeA b (idA xs j) + k) % xs.length = i
      · right; exact ⟨h5, by omega⟩
      · left
        refine key _ ?_ h5
        rcases t.reach j hj hcj k hk with h3 | ⟨h3, _⟩
        · exact .inl h3
        · exact .inr h3

theorem has_move (t : TabH b xs hole m) {i : Nat} (hil : i < xs.length) (hc : 0 < cntA xs i) (id c : Int) : Has ((xs.set hole (idA xs i, cntA xs i)).set i (0, 0)) id c ↔ Has xs id c := by
  have hne : hole ≠ i := fun q => by have := t.he; rw [q] at this; omega
  have hL1 : i < (xs.set hole (idA xs i, cntA xs i)).length := by simpa using hil
  have L : ((xs.set hole (idA xs i, cntA xs i)).set i ((0 : Int), (0 : Int))).length = xs.length := by simp
  have C : ∀ j, cntA ((xs.set hole (idA xs i, cntA xs i)).set i (0, 0)) j = if i = j then 0 else if hole = j then cntA xs i else cntA xs j := fun j => by
    rw [cntA_set _ i j _ hL1, cntA_set xs hole j _ t.hl]
  have I : ∀ j, idA ((xs.set hole (idA xs i, cntA xs i)).set i (0, 0)) j = if i = j then 0 else if hole = j then idA xs i else idA xs j := fun j => by
    rw [idA_set _ i j _ hL1, idA_set xs hole j _ t.hl]
  unfold Has
  rw [L]
  constructor
  · rintro ⟨j, hj, h1, h2, h3⟩
    rw [I] at h1
    rw [C] at h2
    by_cases h4 : i = j
    · rw [if_pos h4] at h2; omega
    · rw [if_neg h4] at h1 h2
      by_cases h5 : hole = j
      · rw [if_pos h5] at h1 h2; exact ⟨i, hil, h1, h2, h3⟩
      · rw [if_neg h5] at h1 h2; exact ⟨j, hj, h1, h2, h3⟩
  · rintro ⟨j, hj, h1, h2, h3⟩
    by_cases h4 : i = j
    · refine ⟨hole, t.hl, ?_, ?_, h3⟩
      · rw [I, if_neg (Ne.symm hne), if_pos rfl, h4]; exact h1
      · rw [C, if_neg (Ne.symm hne), if_pos rfl, h4]; exact h2
    · have h5 : hole ≠ j := fun q => by have := t.he; rw [q, h2] at this; omega
      exact ⟨j, hj, by rw [I, if_neg h4, if_neg h5]; exact h1, by rw [C, if_neg h4, if_neg h5]; exact h2, h3⟩
end

theorem takeF_spec {b : Nat} (f : Nat) : ∀ (xs : List (Int × Int)) (hole m i e : Nat), TabH b xs hole m → i = (hole + m) % xs.length → e < xs.length → e ≠ hole → cntA xs e ≤ 0 → way xs.length i e < f →
    Tab b (takeF b f xs hole i) ∧ occ (takeF b f xs hole i) = occ xs ∧ sumL (takeF b f xs hole i) = sumL xs ∧ (takeF b f xs hole i).length = xs.length ∧ ∀ id c, Has (takeF b f xs hole i) id c ↔ Has xs id c := by
  induction f with
  | zero => intro xs hole m i e _ _ _ _ _ h; omega
  | succ f ih =>
    intro xs hole m i e t hi he hne hce hf
    have h0 : 0 < xs.length := by omega
    have hil : i < xs.length := by rw [hi]; exact Nat.mod_lt _ h0
    rw [takeF]
    by_cases h1 : cntA xs i ≤ 0
    · rw [if_pos h1]
      exact ⟨t.done (by rw [← hi]; exact h1), rfl, rfl, rfl, fun _ _ => Iff.rfl⟩
    · rw [if_neg h1]
      have hc : 0 < cntA xs i := by omega
      have hie : i ≠ e := fun q => by rw [q] at h1; exact h1 hce
      have hwn := way_next hil he hie
      by_cases h2 : way xs.length (homeA b (idA xs i)) hole ≤ way xs.length (homeA b (idA xs i)) i
      · rw [if_pos h2]
        have tm := t.move hi hc h2
        have L : ((xs.set hole (idA xs i, cntA xs i)).set i ((0 : Int), (0 : Int))).length = xs.length := by simp
        have hL1 : i < (xs.set hole (idA xs i, cntA xs i)).length := by simpa using hil
        have hhi : hole ≠ i := fun q => by have := t.he; rw [q] at this; omega
        have hce' : cntA ((xs.set hole (idA xs i, cntA xs i)).set i (0, 0)) e ≤ 0 := by
          rw [cntA_set _ i e _ hL1, if_neg hie, cntA_set xs hole e _ t.hl, if_neg (Ne.symm hne)]; exact hce
        have o1 := occ_set xs hole (idA xs i, cntA xs i) t.hl
        have o2 := occ_set (xs.set hole (idA xs i, cntA xs i)) i (0, 0) hL1
        have s1 := sumL_set xs hole (idA xs i, cntA xs i) t.hl
        have s2 := sumL_set (xs.set hole (idA xs i, cntA xs i)) i (0, 0) hL1
        have c2 : cntA (xs.set hole (idA xs i, cntA xs i)) i = cntA xs i := by rw [cntA_set xs hole i _ t.hl, if_neg hhi]
        have hhe := t.he
        have hhp := t.pos hole
        rw [c2] at o2 s2
        rw [if_pos hc] at o1 o2
        rw [if_neg (by omega)] at o1
        rw [if_neg (by decide)] at o2
        simp only at s1 s2
        have := ih _ i 1 ((i + 1) % xs.length) e tm (by rw [L]) (by rw [L]; exact he) (Ne.symm hie) hce' (by rw [L]; omega)
        obtain ⟨r1, r2, r3, r4, r5⟩ := this
        refine ⟨r1, by omega, by omega, r4.trans L, fun id c => (r5 id c).trans (has_move t hil hc id c)⟩
      · rw [if_neg h2]
        have ts := t.skip (by rw [← hi]; exact hc) (by rw [← hi]; exact h2)
        exact ih _ hole (m + 1) ((i + 1) % xs.length) e ts (by rw [hi]; exact add_mod_next) he hne hce (by omega)

/-- Taking a node away: the others stay. -/
theorem takeP_spec {b : Nat} {xs : List (Int × Int)} (t : Tab b xs) (id : Int) {e : Nat} (he : e < xs.length) (hce : cntA xs e ≤ 0) (hc : 0 < cntA xs (lookI xs b id)) :
    Tab b (takeP b xs id) ∧ occ (takeP b xs id) + 1 = occ xs ∧ sumL (takeP b xs id) = sumL xs - cntA xs (lookI xs b id) ∧ (takeP b xs id).length = xs.length ∧ ∀ id' c, Has (takeP b xs id) id' c ↔ (Has xs id' c ∧ id' ≠ id) := by
  obtain ⟨s1, s2, s3, s4⟩ := look_spec t id he (stopB_iff.2 (.inl hce))
  have hid : idA xs (lookI xs b id) = id := by
    rcases stopB_iff.1 s2 with h | h
    · omega
    · exact h
  unfold takeP
  generalize lookI xs b id = h at *
  have hne : e ≠ h := fun q => by rw [q] at hce; omega
  have L : (xs.set h ((0 : Int), (0 : Int))).length = xs.length := by simp
  have hce' : cntA (xs.set h (0, 0)) e ≤ 0 := by rw [cntA_set xs h e _ s3, if_neg (Ne.symm hne)]; exact hce
  have h0 : 0 < xs.length := by omega
  have hw := way_lt ((h + 1) % xs.length) e h0
  obtain ⟨r1, r2, r3, r4, r5⟩ := takeF_spec xs.length _ h 1 ((h + 1) % xs.length) e (TabH.start t s3) (by rw [L]) (by rw [L]; exact he) hne hce' (by rw [L]; exact hw)
  have o1 := occ_set xs h (0, 0) s3
  have s1 := sumL_set xs h (0, 0) s3
  rw [if_pos hc, if_neg (by decide)] at o1
  simp only at s1
  refine ⟨r1, by omega, by omega, r4.trans L, fun id' c => (r5 id' c).trans ?_⟩
  unfold Has
  rw [L]
  constructor
  · rintro ⟨j, hj, h1, h2, h3⟩
    rw [idA_set xs h j _ s3] at h1
    rw [cntA_set xs h j _ s3] at h2
    by_cases h4 : h = j
    · rw [if_pos h4] at h2; omega
    · rw [if_neg h4] at h1 h2
      refine ⟨⟨j, hj, h1, h2, h3⟩, fun q => h4 ?_⟩
      exact (t.dist j h hj s3 (by omega) hc (by rw [h1, hid, q])).symm
  · rintro ⟨⟨j, hj, h1, h2, h3⟩, h5⟩
    have h4 : h ≠ j := fun q => h5 (by rw [← h1, ← q, hid])
    refine ⟨j, hj, ?_, ?_, h3⟩
    · rw [idA_set xs h j _ s3, if_neg h4]; exact h1
    · rw [cntA_set xs h j _ s3, if_neg h4]; exact h2
end Nl
end Go.Proofs.Ytejoecoenehooaa
