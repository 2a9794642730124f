/- What a run keeps, and how few are left (no program in sight). -/
import Derived.Test.YtbbkfjbaocpknaaGreatPr6
namespace Go.Proofs.YtbbkfjbaocpknaaGreat
open Go.RowKit
namespace Nl

/-! Light. -/
def heavyF (l most i c : Int) : Int := if kidsB l i && decide (most < c) then 1 else 0
theorem heavyF_nn (l most i c : Int) : 0 ≤ heavyF l most i c := by unfold heavyF; split <;> omega
theorem light_sum {l most : Int} {zs : List (Int × Int)} : lightB l zs most = true ↔ gsum (heavyF l most) zs = 0 := by
  induction zs with
  | nil => simp [lightB, gsum]
  | cons x r ih =>
    have h0 := gsum_zero (f := heavyF l most) (zs := r) (fun x _ => heavyF_nn ..)
    unfold lightB at ih ⊢
    rw [List.all_cons, Bool.and_eq_true, ih]
    simp only [gsum, heavyB]
    unfold heavyF at *
    cases hx : (kidsB l x.1 && decide (most < x.2))
    · simp
    · simp only [Bool.not_true, Bool.false_eq_true, false_and, if_true, false_iff]; omega
theorem light_keep {l most : Int} {zs : List (Int × Int)} (h0 : 0 ≤ most) (r : Roll l zs) {p : Int} (hp : readyB l zs p most = true) (h : lightB l zs most = true) : lightB l (foldDo l zs p).1 most = true := by
  have hk := ready_kids hp
  obtain ⟨_, h2, _⟩ := ready_pair hp
  have e := gsum_fold (f := heavyF l most) (fun i => by unfold heavyF; rw [if_neg]; simp; intro _; omega) r hk
  rw [light_sum] at h ⊢
  have z : heavyF l most p (allV l zs p) = 0 := by unfold heavyF; rw [if_neg]; simp; intro _; omega
  have n1 := heavyF_nn l most (2 * p) (findL (2 * p) zs)
  have n2 := heavyF_nn l most (2 * p + 1) (findL (2 * p + 1) zs)
  have n3 := heavyF_nn l most p (findL p zs)
  have n4 := gsum_zero (f := heavyF l most) (zs := (foldDo l zs p).1) (fun x _ => heavyF_nn ..)
  omega
theorem cap_nn (n k : Int) : 0 ≤ capV n k := by
  unfold capV
  split
  · omega
  · exact Int.ediv_nonneg (by omega) (by omega)
theorem run_light {l most : Int} {zs : List (Int × Int)} (h0 : 0 ≤ most) (r : Roll l zs) (h : lightB l zs most = true) : lightB l (runR l most zs).1 most = true :=
  (run_keeps (most := most) (fun ys => lightB l ys most = true) (fun _ _ r' q hp => light_keep h0 r' hp q) _ zs r h (Nat.le_refl _)).2.1

/-! How few. -/
theorem nodup_le {xs ys : List Int} (h : xs.Nodup) (hs : ∀ x ∈ xs, x ∈ ys) : xs.length ≤ ys.length := by
  induction xs generalizing ys with
  | nil => simp
  | cons x r ih =>
    obtain ⟨n1, n2⟩ := List.nodup_cons.1 h
    have hx := hs x (List.mem_cons_self ..)
    have := ih n2 (ys := ys.erase x) (fun y hy => (List.mem_erase_of_ne (fun e => n1 (by rw [← e]; exact hy))).2 (hs y (List.mem_cons_of_mem _ hy)))
    have hl := List.length_erase_of_mem hx
    have := List.length_pos_of_mem hx
    simp only [List.length_cons]; omega
theorem roots_len {l : Int} {zs : List (Int × Int)} (r : Roll l zs) : zs.length ≤ 1 + 2 * (parentsL zs).length := by
  have hn : (zs.map Prod.fst).Nodup := by
    rw [List.Nodup, List.pairwise_map]
    exact List.Pairwise.imp (fun h => by omega) r.strict.1
  have h := nodup_le hn (ys := 1 :: (parentsL zs).flatMap (fun p => [2 * p, 2 * p + 1])) (fun i hi => by
    obtain ⟨x, hx, rfl⟩ := List.mem_map.1 hi
    have := (r.strict.2 x hx).1
    by_cases h1 : x.1 = 1
    · rw [h1]; exact List.mem_cons_self ..
    · refine List.mem_cons_of_mem _ (List.mem_flatMap.2 ⟨x.1 / 2, parents_mem.2 ⟨x, hx, by omega, rfl⟩, ?_⟩)
      simp only [List.mem_cons, List.not_mem_nil, or_false]
      omega)
  have e : ∀ P : List Int, (P.flatMap (fun p => [2 * p, 2 * p + 1])).length = 2 * P.length := by
    intro P
    induction P with
    | nil => rfl
    | cons p P ih => rw [List.flatMap_cons, List.length_append, ih]; simp; omega
  rw [List.length_map, List.length_cons, e] at h
  omega
/-- Over nodes each once, what they weigh. -/
def psum (f : Int → Int) : List Int → Int
  | [] => 0
  | p :: r => f p + psum f r
theorem psum_add (f g : Int → Int) (P : List Int) : psum (fun p => f p + g p) P = psum f P + psum g P := by
  induction P with
  | nil => rfl
  | cons p P ih => simp only [psum, ih]; omega
theorem psum_le {f g : Int → Int} {P : List Int} (h : ∀ p ∈ P, f p ≤ g p) : psum f P ≤ psum g P := by
  induction P with
  | nil => simp [psum]
  | cons p P ih =>
    have := h p (List.mem_cons_self ..)
    have := ih (fun q hq => h q (List.mem_cons_of_mem _ hq))
    simp only [psum]; omega
theorem psum_const (k : Int) (P : List Int) : psum (fun _ => k) P = P.length * k := by
  induction P with
  | nil => simp [psum]
  | cons p P ih => simp only [psum, ih, List.length_cons]; rw [Int.natCast_add, Int.add_mul]; simp; omega
theorem psum_zero {f : Int → Int} {P : List Int} (h : ∀ p ∈ P, f p = 0) : psum f P = 0 := by
  induction P with
  | nil => rfl
  | cons p P ih =>
    simp only [psum, h p (List.mem_cons_self ..), ih (fun q hq => h q (List.mem_cons_of_mem _ hq))]; rfl
theorem psum_one {P : List Int} (hn : P.Nodup) (a v : Int) (hv : 0 ≤ v) : psum (fun p => if p = a then v else 0) P ≤ v := by
  induction P with
  | nil => simpa [psum] using hv
  | cons p P ih =>
    obtain ⟨n1, n2⟩ := List.nodup_cons.1 hn
    simp only [psum]
    by_cases e : p = a
    · rw [if_pos e, psum_zero (fun q hq => if_neg (fun h => n1 (by rw [e, ← h]; exact hq)))]; omega
    · rw [if_neg e]; have := ih n2; omega
theorem find_le {zs : List (Int × Int)} (hp : Pos zs) (id : Int) : 0 ≤ findL id zs := by
  induction zs with
  | nil => simp [findL]
  | cons x r ih =>
    have h1 := hp x (List.mem_cons_self ..)
    have h2 := ih (fun y hy => hp y (List.mem_cons_of_mem _ hy))
    simp only [findL]; split <;> omega
/-- By an index that is each node's own, what is found under it is at most all. -/
theorem psum_find {zs : List (Int × Int)} (hp : Pos zs) {P : List Int} (hn : P.Nodup) : psum (fun p => findL p zs) P ≤ sumL zs := by
  induction zs with
  | nil => exact Int.le_of_eq (psum_zero (f := fun p => findL p []) (fun p _ => rfl))
  | cons x r ih =>
    have h1 := hp x (List.mem_cons_self ..)
    have hr : Pos r := fun y hy => hp y (List.mem_cons_of_mem _ hy)
    have h2 := ih hr
    have h3 := psum_one hn x.1 x.2 h1
    have h4 : psum (fun p => findL p (x :: r)) P ≤ psum (fun p => (if p = x.1 then x.2 else 0) + findL p r) P := psum_le (fun p _ => by
      have := find_le hr p
      simp only [findL]
      by_cases e : x.1 = p
      · rw [if_pos e, if_pos e.symm]; omega
      · rw [if_neg e, if_neg (fun h => e h.symm)]; omega)
    rw [psum_add] at h4
    simp only [sumL]; omega
theorem psum_pair {zs : List (Int × Int)} (hp : Pos zs) (hs : zs.Pairwise (fun a b => a.1 < b.1)) {P : List Int} (hn : P.Nodup) : psum (fun p => findL (2 * p) zs + findL (2 * p + 1) zs) P ≤ sumL zs := by
  induction zs with
  | nil => exact Int.le_of_eq (psum_zero (f := fun p => findL (2 * p) [] + findL (2 * p + 1) []) (fun p _ => rfl))
  | cons x r ih =>
    have h1 := hp x (List.mem_cons_self ..)
    have hr : Pos r := fun y hy => hp y (List.mem_cons_of_mem _ hy)
    have h2 := ih hr (List.pairwise_cons.1 hs).2
    have h3 := psum_one hn (x.1 / 2) x.2 h1
    have h4 : psum (fun p => findL (2 * p) (x :: r) + findL (2 * p + 1) (x :: r)) P ≤ psum (fun p => (if p = x.1 / 2 then x.2 else 0) + (findL (2 * p) r + findL (2 * p + 1) r)) P := psum_le (fun p _ => by
      have a1 := find_le hr (2 * p)
      have a2 := find_le hr (2 * p + 1)
      simp only [findL]
      by_cases e1 : x.1 = 2 * p
      · rw [if_pos e1, if_neg (by omega), if_pos (by omega)]; omega
      · rw [if_neg e1]
        by_cases e2 : x.1 = 2 * p + 1
        · rw [if_pos e2, if_pos (by omega)]; omega
        · rw [if_neg e2, if_neg (by omega)]; omega)
    rw [psum_add (fun p => if p = x.1 / 2 then x.2 else 0)] at h4
    simp only [sumL]; omega
/-- A tight pool has at most four times k nodes, less one. -/
theorem tight_len {l k : Int} {zs : List (Int × Int)} (r : Roll l zs) (hk : 1 ≤ k) (h : firstR l zs (capV (sumL zs) k) = none) : (zs.length : Int) ≤ 4 * k - 1 := by
  have hL := roots_len r
  have hn := (parents_ord zs).nodup
  have hs0 := r.sum
  have h1 := psum_find r.strict.pos hn
  have h2 := psum_pair r.strict.pos r.strict.1 hn
  have ht := (first_none r).1 h
  have h3 : psum (fun _ => sumL zs + 1) (parentsL zs) ≤ psum (fun p => k * (findL p zs + (findL (2 * p) zs + findL (2 * p + 1) zs))) (parentsL zs) := psum_le (fun p hp => by
    obtain ⟨x, hx, e1, e2⟩ := parents_mem.1 hp
    have hid := r.ids x hx
    have hkid : kidsB l p = true := by
      have h1 := (r.strict.2 x hx).1
      simp only [rightB, decide_eq_true_eq] at hid
      simp only [kidsB, rightB, Bool.and_eq_true, decide_eq_true_eq]
      generalize (2 : Int) ^ l.toNat = M at *
      omega
    have f0 := r.find p
    have f1 := r.find (2 * p)
    have f2 := r.find (2 * p + 1)
    have hpos : 0 < findL (2 * p) zs + findL (2 * p + 1) zs := by
      have hw := (r.strict.2 x hx).2
      have hat := strict_at r.strict (show (x.1, x.2) ∈ zs from hx)
      rcases (show x.1 = 2 * p ∨ x.1 = 2 * p + 1 by omega) with e | e
      · rw [e] at hat; omega
      · rw [e] at hat; omega
    have hr := ht p
    unfold readyB pairV allV at hr
    rw [hkid] at hr
    simp only [if_true, decide_eq_false_iff_not, not_and] at hr
    have h5 := hr hpos
    generalize findL (2 * p) zs + findL (2 * p + 1) zs = c at *
    generalize findL p zs = d at *
    have h6 : capV (sumL zs) k = sumL zs / k := by unfold capV; rw [if_neg (by omega)]
    rw [h6] at h5
    have h7 : sumL zs < k * (d + c) := by
      have h8 : sumL zs / k < d + c := by omega
      have := Int.lt_mul_of_ediv_lt (by omega) h8
      rw [Int.mul_comm]; exact this
    omega)
  rw [psum_const] at h3
  have hmul : ∀ (f : Int → Int) (P : List Int), psum (fun p => k * f p) P = k * psum f P := by
    intro f P
    induction P with
    | nil => simp [psum]
    | cons p P ih => simp only [psum, ih]; rw [Int.mul_add]
  rw [hmul, psum_add] at h3
  have h4 : k * (psum (fun p => findL p zs) (parentsL zs) + psum (fun p => findL (2 * p) zs + findL (2 * p + 1) zs) (parentsL zs)) ≤ k * (2 * sumL zs) := Int.mul_le_mul_of_nonneg_left (by omega) (by omega)
  have h5 : ((parentsL zs).length : Int) * (sumL zs + 1) ≤ k * (2 * sumL zs) := Int.le_trans h3 h4
  have h6 : ((parentsL zs).length : Int) ≤ 2 * k - 1 := by
    by_cases hc : ((parentsL zs).length : Int) ≤ 2 * k - 1
    · exact hc
    · have h7 : 2 * k * (sumL zs + 1) ≤ ((parentsL zs).length : Int) * (sumL zs + 1) := Int.mul_le_mul_of_nonneg_right (by omega) (by omega)
      rw [Int.mul_add] at h7
      have h8 : k * (2 * sumL zs) = 2 * k * sumL zs := by rw [← Int.mul_assoc, Int.mul_comm k 2]
      omega
  omega

/-! Below a node. -/
theorem run_le {l most : Int} {zs : List (Int × Int)} (f : Int → Int → Int) (hf : ∀ i, f i 0 = 0)
    (hq : ∀ zs p, Roll l zs → kidsB l p = true → f p (allV l zs p) ≤ f (2 * p) (findL (2 * p) zs) + f (2 * p + 1) (findL (2 * p + 1) zs) + f p (findL p zs)) (r : Roll l zs) : gsum f (runR l most zs).1 ≤ gsum f zs :=
  (run_keeps (most := most) (fun ys => gsum f ys ≤ gsum f zs) (fun ys p r' q hp => by
    have e := gsum_fold hf r' (ready_kids hp)
    have := hq ys p r' (ready_kids hp)
    omega) _ zs r (Int.le_refl _) (Nat.le_refl _)).2.1
end Nl
end Go.Proofs.YtbbkfjbaocpknaaGreat
