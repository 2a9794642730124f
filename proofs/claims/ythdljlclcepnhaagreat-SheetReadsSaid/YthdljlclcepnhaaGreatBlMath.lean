/- Joining two rolls, and lowering (no program in sight). -/
import Derived.Test.YthdljlclcepnhaaGreatFO
namespace Go.Proofs.YthdljlclcepnhaaGreat
open Go.RowKit
namespace Nl

/-- A pass over a sorted list. -/
theorem mstep_spec {out : List (Int × Int)} {x : Int × Int} (h : Strict out) (h1 : 1 ≤ x.1) (h2 : 0 < x.2) (hle : ∀ y ∈ out, y.1 ≤ x.1) :
    Strict (mstep out x) ∧ (∀ y ∈ mstep out x, y.1 ≤ x.1) ∧ (∀ y ∈ mstep out x, y.1 = x.1 ∨ ∃ z ∈ out, z.1 = y.1) ∧ (mstep out x).length ≤ out.length + 1 ∧
      ∀ f : Int → Int → Int, (∀ i a b, f i (a + b) = f i a + f i b) → gsum f (mstep out x) = gsum f out + f x.1 x.2 := by
  unfold mstep
  rw [if_neg (by omega)]
  by_cases hc : 0 < out.length ∧ (out.getD (out.length - 1) (0, 0)).1 = x.1
  · rw [if_pos hc]
    have e := last_split hc.1
    have hx := hc.2
    generalize out.getD (out.length - 1) (0, 0) = y at *
    generalize out.dropLast = D at *
    subst e
    have hD := h.left
    have hp := List.pairwise_append.1 h.1
    have hy := h.2 y (by simp)
    refine ⟨⟨List.pairwise_append.2 ⟨hp.1, by simp, fun a ha b hb => ?_⟩, fun a ha => ?_⟩, fun a ha => ?_, fun a ha => ?_, by simp, fun f hf => ?_⟩
    · simp only [List.mem_singleton] at hb; subst hb; exact hp.2.2 a ha y (by simp)
    · rcases List.mem_append.1 ha with ha | ha
      · exact h.2 a (by simp [ha])
      · simp only [List.mem_singleton] at ha; subst ha; simp only; omega
    · rcases List.mem_append.1 ha with ha | ha
      · exact hle a (by simp [ha])
      · simp only [List.mem_singleton] at ha; subst ha; simp only; omega
    · rcases List.mem_append.1 ha with ha | ha
      · exact .inr ⟨a, by simp [ha], rfl⟩
      · simp only [List.mem_singleton] at ha; subst ha; exact .inl hx
    · rw [gsum_append, gsum_append]
      simp only [gsum, hf, hx]; omega
  · rw [if_neg hc]
    have hlt : ∀ y ∈ out, y.1 < x.1 := by
      intro y hy
      have hl : 0 < out.length := List.length_pos_of_mem hy
      have hne : (out.getD (out.length - 1) (0, 0)).1 ≠ x.1 := fun q => hc ⟨hl, q⟩
      have e := last_split hl
      have hm : out.getD (out.length - 1) (0, 0) ∈ out := getD_mem out _ (by omega)
      have hlast := hle _ hm
      rw [e] at hy
      have hs := h.1
      rw [e] at hs
      rcases List.mem_append.1 hy with hy | hy
      · have := (List.pairwise_append.1 hs).2.2 y hy _ (List.mem_singleton.2 rfl); omega
      · simp only [List.mem_singleton] at hy; subst hy; omega
    refine ⟨⟨List.pairwise_append.2 ⟨h.1, by simp, fun a ha b hb => ?_⟩, fun a ha => ?_⟩, fun a ha => ?_, fun a ha => ?_, by simp, fun f _ => ?_⟩
    · simp only [List.mem_singleton] at hb; subst hb; exact hlt a ha
    · rcases List.mem_append.1 ha with ha | ha
      · exact h.2 a ha
      · simp only [List.mem_singleton] at ha; subst ha; exact ⟨h1, h2⟩
    · rcases List.mem_append.1 ha with ha | ha
      · exact hle a ha
      · simp only [List.mem_singleton] at ha; subst ha; omega
    · rcases List.mem_append.1 ha with ha | ha
      · exact .inr ⟨a, ha, rfl⟩
      · simp only [List.mem_singleton] at ha; subst ha; exact .inl rfl
    · rw [gsum_append]; simp only [gsum]; omega
theorem pass_spec (S : List (Int × Int)) : ∀ out : List (Int × Int), Strict out → Srt S → (∀ x ∈ S, 1 ≤ x.1 ∧ 0 < x.2) → (∀ y ∈ out, ∀ x ∈ S, y.1 ≤ x.1) →
    ∃ zs, pass out S = some zs ∧ Strict zs ∧ (∀ z ∈ zs, (∃ x ∈ S, x.1 = z.1) ∨ ∃ y ∈ out, y.1 = z.1) ∧ zs.length ≤ out.length + S.length ∧
      ∀ f : Int → Int → Int, (∀ i a b, f i (a + b) = f i a + f i b) → gsum f zs = gsum f out + gsum f S := by
  induction S with
  | nil => intro out h _ _ _; exact ⟨out, rfl, h, fun z hz => .inr ⟨z, hz, rfl⟩, by simp, fun f _ => by simp [gsum]⟩
  | cons x r ih =>
    intro out h hs hp hl
    have hx := hp x (List.mem_cons_self ..)
    obtain ⟨m1, m2, m3, m4, m5⟩ := mstep_spec h hx.1 hx.2 (fun y hy => hl y hy x (List.mem_cons_self ..))
    obtain ⟨s1, s2⟩ := srt_tail hs
    obtain ⟨zs, z1, z2, z3, z4, z5⟩ := ih (mstep out x) m1 s1 (fun y hy => hp y (List.mem_cons_of_mem _ hy)) (fun y hy z hz => Int.le_trans (m2 y hy) (s2 z hz))
    refine ⟨zs, by rw [pass, if_neg (by omega)]; exact z1, z2, fun z hz => ?_, by simp only [List.length_cons]; omega, fun f hf => by rw [z5 f hf, m5 f hf]; simp only [gsum]; omega⟩
    rcases z3 z hz with ⟨a, ha, e⟩ | ⟨a, ha, e⟩
    · exact .inl ⟨a, List.mem_cons_of_mem _ ha, e⟩
    · rcases m3 a ha with q | ⟨b, hb, q⟩
      · exact .inl ⟨x, List.mem_cons_self .., by omega⟩
      · exact .inr ⟨b, hb, by omega⟩
theorem gsum_perm {f : Int → Int → Int} {xs ys : List (Int × Int)} (h : xs.Perm ys) : gsum f xs = gsum f ys := by
  induction h with
  | nil => rfl
  | cons x _ ih => simp only [gsum, ih]
  | swap x y l => simp only [gsum]; omega
  | trans _ _ ih1 ih2 => exact ih1.trans ih2
/-- Folding any nodes. -/
theorem foldL_spec {xs : List (Int × Int)} (hp : ∀ x ∈ xs, 1 ≤ x.1 ∧ 0 < x.2) (hs : sumL xs ≤ 72057594037927935) :
    ∃ zs, foldL xs = some zs ∧ Strict zs ∧ (∀ z ∈ zs, ∃ x ∈ xs, x.1 = z.1) ∧ zs.length ≤ xs.length ∧
      ∀ f : Int → Int → Int, (∀ i a b, f i (a + b) = f i a + f i b) → gsum f zs = gsum f xs := by
  have hpos : Pos xs := fun x hx => by have := (hp x hx).2; omega
  have ht : totOk xs = true := by unfold totOk; rw [totF_pos hpos (by omega)]; rfl
  have hsrt : Srt (sortL xs) := (sort_SS_aux xs [] List.Pairwise.nil).1
  obtain ⟨zs, z1, z2, z3, z4, z5⟩ := pass_spec (sortL xs) [] ⟨List.Pairwise.nil, fun _ h => absurd h (List.not_mem_nil)⟩ hsrt (fun x hx => hp x ((sortL_mem _ _).1 hx)) (fun _ h => absurd h (List.not_mem_nil))
  refine ⟨zs, by unfold foldL; rw [ht]; exact z1, z2, fun z hz => ?_, by rw [sortL_length] at z4; simpa using z4, fun f hf => ?_⟩
  · rcases z3 z hz with ⟨x, hx, e⟩ | ⟨y, hy, _⟩
    · exact ⟨x, (sortL_mem _ _).1 hx, e⟩
    · exact absurd hy (List.not_mem_nil)
  · rw [z5 f hf]
    have : gsum f (sortL xs) = gsum f xs := gsum_perm (sortL_perm xs)
    simp only [gsum]; omega
/-- Two lists of nodes as one. -/
def joinL (xs ys : List (Int × Int)) : List (Int × Int) := (foldL (xs ++ ys)).getD []
theorem join_spec {l : Int} {xs ys : List (Int × Int)} (hx : Roll l xs) (hy : Roll l ys) (hs : sumL xs + sumL ys ≤ 72057594037927935) :
    foldL (xs ++ ys) = some (joinL xs ys) ∧ Roll l (joinL xs ys) ∧ (joinL xs ys).length ≤ xs.length + ys.length ∧ sumL (joinL xs ys) = sumL xs + sumL ys ∧
      ∀ f : Int → Int → Int, (∀ i a b, f i (a + b) = f i a + f i b) → gsum f (joinL xs ys) = gsum f xs + gsum f ys := by
  obtain ⟨zs, z1, z2, z3, z4, z5⟩ := foldL_spec (xs := xs ++ ys) (fun x h => by
    rcases List.mem_append.1 h with h | h
    · exact hx.strict.2 x h
    · exact hy.strict.2 x h) (by rw [sumL_append]; exact hs)
  have e : joinL xs ys = zs := by unfold joinL; rw [z1]; rfl
  rw [e]
  have z6 : ∀ f : Int → Int → Int, (∀ i a b, f i (a + b) = f i a + f i b) → gsum f zs = gsum f xs + gsum f ys := fun f hf => by rw [z5 f hf, gsum_append]
  have hsum : sumL zs = sumL xs + sumL ys := by
    rw [← gsum_sum, ← gsum_sum, ← gsum_sum]; exact z6 (fun _ c => c) (fun _ _ _ => rfl)
  refine ⟨z1, ⟨hx.l1, hx.l2, z2, by omega, fun z hz => ?_⟩, by rw [List.length_append] at z4; exact z4, hsum, z6⟩
  obtain ⟨x, hx', e⟩ := z3 z hz
  rw [← e]
  rcases List.mem_append.1 hx' with h | h
  · exact hx.ids x h
  · exact hy.ids x h
theorem join_comm {l : Int} {xs ys : List (Int × Int)} (hx : Roll l xs) (hy : Roll l ys) (hs : sumL xs + sumL ys ≤ 72057594037927935) : joinL xs ys = joinL ys xs := by
  obtain ⟨_, r1, _, _, g1⟩ := join_spec hx hy hs
  obtain ⟨_, r2, _, _, g2⟩ := join_spec hy hx (by omega)
  have key : ∀ {zs : List (Int × Int)}, Strict zs → ∀ id, gsum (fun i c => if i = id then c else 0) zs = findL id zs := by
    intro zs
    induction zs with
    | nil => intro _ _; rfl
    | cons z r ih =>
      intro h id
      simp only [gsum, findL, ih h.tail]
      by_cases q : z.1 = id
      · rw [if_pos q, if_pos q]
        have : findL id r = 0 := by
          have hh := h.head
          clear ih h
          induction r with
          | nil => rfl
          | cons y r ih =>
            have := hh y (List.mem_cons_self ..)
            simp only [findL]
            rw [if_neg (by omega)]
            exact ih (fun a ha => hh a (List.mem_cons_of_mem _ ha))
        omega
      · rw [if_neg q, if_neg q]; omega
  have hf : ∀ id, findL id (joinL xs ys) = findL id (joinL ys xs) := fun id => by
    have hadd : ∀ i a b : Int, (fun i c => if i = id then c else (0 : Int)) i (a + b) = (fun i c => if i = id then c else (0 : Int)) i a + (fun i c => if i = id then c else (0 : Int)) i b := fun i a b => by simp only; split <;> omega
    rw [← key r1.strict, ← key r2.strict, g1 _ hadd, g2 _ hadd]; omega
  have mem : ∀ {zs : List (Int × Int)}, Strict zs → ∀ z, z ∈ zs ↔ (0 < z.2 ∧ findL z.1 zs = z.2) := by
    intro zs h z
    constructor
    · intro hz; exact ⟨(h.2 z hz).2, strict_at h hz⟩
    · rintro ⟨h0, h1⟩
      induction zs with
      | nil => simp only [findL] at h1; omega
      | cons y r ih =>
        simp only [findL] at h1
        by_cases q : y.1 = z.1
        · rw [if_pos q] at h1
          have : y = z := Prod.ext q h1
          rw [this]; exact List.mem_cons_self ..
        · rw [if_neg q] at h1
          exact List.mem_cons_of_mem _ (ih h.tail h1)
  exact strict_ext r1.strict r2.strict (fun z => by rw [mem r1.strict, mem r2.strict, hf])
/-- Folded for a k. -/
def lowL (l k : Int) (zs : List (Int × Int)) : List (Int × Int) := (runR l (capV (sumL zs) k) zs).1
theorem cap_le {n k K : Int} (hn : 0 ≤ n) (h1 : 1 ≤ k) (h2 : k ≤ K) : capV n K ≤ capV n k := by
  unfold capV
  rw [if_neg (by omega), if_neg (by omega)]
  refine (Int.le_ediv_iff_mul_le (by omega)).2 ?_
  have a := Int.ediv_mul_le n (show K ≠ 0 by omega)
  have b := Int.mul_le_mul_of_nonneg_left h2 (Int.ediv_nonneg hn (show 0 ≤ K by omega))
  omega
theorem low_spec {l k K : Int} {zs : List (Int × Int)} (d : Dg l K zs) (h1 : 1 ≤ k) (h2 : k ≤ K) :
    Dg l k (lowL l k zs) ∧ sumL (lowL l k zs) = sumL zs ∧ (lowL l k zs).length ≤ zs.length ∧ ((lowL l k zs).length : Int) ≤ 4 * k - 1 := by
  obtain ⟨f1, f2, f3, f4, f5⟩ := run_facts (most := capV (sumL zs) k) d.roll
  have h0 : 0 ≤ sumL zs := sumL_nonneg d.roll.strict.pos
  have hl := run_light (cap_nn (sumL zs) k) d.roll (light_mono (cap_le h0 h1 h2) d.light)
  have ht := tight_len (k := k) f1 h1 (by rw [f2]; exact f4)
  have := d.k2
  exact ⟨⟨f1, h1, by omega, by show lightB l (runR l (capV (sumL zs) k) zs).1 _ = true; rw [show sumL (lowL l k zs) = sumL zs from f2]; exact hl, by show ((runR l (capV (sumL zs) k) zs).1.length : Int) ≤ 8 * k; omega⟩, f2, f3, ht⟩
end Nl
end Go.Proofs.YthdljlclcepnhaaGreat
