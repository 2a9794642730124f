/- The dense store is the document's: plain law. -/
import Derived.Test.YtejoecoenehooaaNdMath2
import Derived.Test.YtejoecoenehooaaStore2
import Derived.Test.YtejoecoenehooaaDense3
namespace Go.Proofs.Ytejoecoenehooaa
open Go.RowKit
namespace Nl

theorem snapF_mem {k : Nat} {cs : List Int} : ∀ x ∈ snapF k cs, (k : Int) ≤ x.1 ∧ x.1 < k + cs.length ∧ 0 < x.2 := by
  induction cs generalizing k with
  | nil => intro x hx; simp [snapF] at hx
  | cons n r ih =>
    intro x hx
    have hr : ∀ x ∈ snapF (k + 1) r, (k : Int) ≤ x.1 ∧ x.1 < k + (n :: r).length ∧ 0 < x.2 := fun x hx => by
      have := ih x hx; simp only [List.length_cons]; omega
    simp only [snapF] at hx
    split at hx
    · cases hx with
      | head => simp only [List.length_cons]; exact ⟨Int.le_refl _, by omega, by assumption⟩
      | tail _ hx => exact hr x hx
    · exact hr x hx
theorem snapF_pair (k : Nat) (cs : List Int) : (snapF k cs).Pairwise (fun a b => a.1 < b.1) := by
  induction cs generalizing k with
  | nil => simp [snapF]
  | cons n r ih =>
    simp only [snapF]
    split
    · rw [List.pairwise_cons]
      exact ⟨fun y hy => by have := (snapF_mem y hy).1; simp only; omega, ih _⟩
    · exact ih _
theorem snapF_strict {cs : List Int} (h : cs.getD 0 0 = 0) : Strict (snapF 0 cs) := by
  refine ⟨snapF_pair 0 cs, ?_⟩
  cases cs with
  | nil => intro x hx; simp [snapF] at hx
  | cons n r =>
    simp at h
    subst h
    intro x hx
    simp only [snapF] at hx
    have := snapF_mem x hx
    omega
theorem snapF_sum (k : Nat) {cs : List Int} (h : ∀ x ∈ cs, 0 ≤ x) : sumL (snapF k cs) = isum cs := by
  induction cs generalizing k with
  | nil => rfl
  | cons n r ih =>
    have h1 := h n (by simp)
    simp only [snapF, isum]
    split
    · simp only [sumL]; rw [ih _ (fun x hx => h x (by simp [hx]))]
    · rw [ih _ (fun x hx => h x (by simp [hx]))]; omega
theorem snapF_nnz (k : Nat) (cs : List Int) : ((snapF k cs).length : Int) = nnz cs := by
  induction cs generalizing k with
  | nil => rfl
  | cons n r ih =>
    simp only [snapF, nnz]
    split
    · simp only [List.length_cons]; have := ih (k + 1); omega
    · have := ih (k + 1); omega
theorem findL_app {id : Int} {xs ys : List (Int × Int)} (h : ∀ x ∈ xs, x.1 ≠ id) : findL id (xs ++ ys) = findL id ys := by
  induction xs with
  | nil => rfl
  | cons x r ih =>
    rw [List.cons_append, findL, if_neg (h x (by simp)), ih (fun y hy => h y (by simp [hy]))]
theorem findL_no {id : Int} {xs : List (Int × Int)} (h : ∀ x ∈ xs, x.1 ≠ id) : findL id xs = 0 := by
  have := findL_app (ys := []) h
  simpa [findL] using this
theorem snapF_split (cs : List Int) (n : Nat) (hn : n < cs.length) : snapF 0 cs = snapF 0 (cs.take n) ++ ((if 0 < cs.getD n 0 then [((n : Int), cs.getD n 0)] else []) ++ snapF (n + 1) (cs.drop (n + 1))) := by
  conv => lhs; rw [← List.take_append_drop (n + 1) cs]
  rw [snapF_append, snapF_take cs n hn, List.length_take, show 0 + min (n + 1) cs.length = n + 1 by omega]
  simp
theorem snapF_set (cs : List Int) (n : Nat) (hn : n < cs.length) (x : Int) : snapF 0 (cs.set n x) = snapF 0 (cs.take n) ++ ((if 0 < x then [((n : Int), x)] else []) ++ snapF (n + 1) (cs.drop (n + 1))) := by
  have h := snapF_split (cs.set n x) n (by simpa using hn)
  have e : (cs.set n x).getD n 0 = x := by simp [List.getD, hn]
  rw [e] at h
  rw [h, List.take_set_of_le (Nat.le_refl n), List.drop_set_of_lt (Nat.lt_succ_self n)]
theorem snap_low (cs : List Int) (n : Nat) : ∀ x ∈ snapF 0 (cs.take n), x.1 < n := fun x hx => by
  have := snapF_mem x hx
  simp only [List.length_take] at this
  omega
theorem snap_high (cs : List Int) (n : Nat) : ∀ x ∈ snapF (n + 1) (cs.drop (n + 1)), (n : Int) < x.1 := fun x hx => by
  have := snapF_mem x hx; omega

theorem right_len {l u t : Int} {cs : List Int} (v : Dv l u t cs) {id : Int} (h : rightB l id = true) : ∃ n : Nat, id = n ∧ 1 ≤ n ∧ n < cs.length := by
  obtain ⟨n, h1, h2, h3⟩ := right_nat h
  exact ⟨n, h1, h2, by rw [v.len]; exact h3⟩
theorem right_no {l u t : Int} {cs : List Int} (v : Dv l u t cs) {id : Int} (h : rightB l id = false) : ∀ x ∈ snapF 0 cs, x.1 ≠ id := by
  intro x hx e
  have h1 := (snapF_strict v.first).2 x hx
  have h2 := snapF_mem x hx
  have e2 : (2 : Int) * 2 ^ l.toNat = ((2 * 2 ^ l.toNat : Nat) : Int) := by simp
  have h3 := v.len
  have h4 := v.l1
  have h5 := v.l2
  have : rightB l id = true := by
    unfold rightB
    rw [e2]
    simp only [decide_eq_true_eq]
    omega
  rw [h] at this
  cases this
theorem find_snap {l u t : Int} {cs : List Int} (v : Dv l u t cs) (id : Int) : findL id (snapF 0 cs) = dGet l cs id := by
  unfold dGet
  cases h : rightB l id
  · exact findL_no (right_no v h)
  · obtain ⟨n, rfl, h1, h2⟩ := right_len v h
    rw [snapF_split cs n h2, findL_app (fun x hx => by have := snap_low cs n x hx; omega)]
    simp only [if_true, Int.toNat_natCast]
    have hno : findL (n : Int) (snapF (n + 1) (cs.drop (n + 1))) = 0 := findL_no (fun x hx => by have := snap_high cs n x hx; omega)
    have hx := v.at n h2
    split
    · simp [findL]
    · rw [List.nil_append, hno]; omega
theorem tot_snap {l u t : Int} {cs : List Int} (v : Dv l u t cs) : totV (snapF 0 cs) = t := by
  rw [totV_sum (snapF_strict v.first).pos, snapF_sum 0 v.pos, v.tot]
  rw [snapF_sum 0 v.pos, ← v.tot]; exact v.most
theorem add_snap {l u t : Int} {cs : List Int} (v : Dv l u t cs) (id c : Int) : stAdd l (snapF 0 cs) id c = (snapF 0 (dAdd l cs id c), dAddCode l cs id c) := by
  unfold stAdd
  rw [tot_snap v]
  unfold dAdd dAddCode
  have ht := v.tot
  by_cases h1 : rightB l id = false ∨ c < 0
  · rw [if_pos h1, if_pos h1, if_neg (by decide)]
  · rw [if_neg h1, if_neg h1]
    by_cases h2 : 72057594037927935 < isum cs + c
    · rw [if_pos (show 72057594037927935 - t < c by omega), if_pos h2, if_neg (by decide)]
    · rw [if_neg (show ¬ 72057594037927935 - t < c by omega), if_neg h2, if_pos rfl]
      have hr : rightB l id = true := by
        cases h : rightB l id
        · exact absurd (.inl h) h1
        · rfl
      have hc : 0 ≤ c := by
        by_cases h : c < 0
        · exact absurd (.inr h) h1
        · omega
      obtain ⟨n, rfl, hn1, hn2⟩ := right_len v hr
      have hx := v.at n hn2
      rw [foldL_add (snapF_strict v.first) (by omega) hc (by rw [snapF_sum 0 v.pos]; omega)]
      simp only [Option.getD_some, Int.toNat_natCast, Prod.mk.injEq, and_true]
      rw [snapF_set cs n hn2, snapF_split cs n hn2]
      exact addS_parts (snap_low cs n) (snap_high cs n) hx.1 hc
theorem take_snap {l u t : Int} {cs : List Int} (v : Dv l u t cs) (id : Int) : stTake (snapF 0 cs) id = (snapF 0 (dTake l cs id), dGet l cs id) := by
  unfold stTake
  rw [find_snap v]
  congr 1
  unfold dTake
  cases h : rightB l id
  · rw [List.filter_eq_self.2 (fun x hx => by simpa using right_no v h x hx)]; rfl
  · obtain ⟨n, rfl, h1, h2⟩ := right_len v h
    simp only [if_true, Int.toNat_natCast]
    rw [snapF_set cs n h2, snapF_split cs n h2, List.filter_append, List.filter_append]
    have f1 : (snapF 0 (cs.take n)).filter (fun x => x.1 ≠ (n : Int)) = snapF 0 (cs.take n) := List.filter_eq_self.2 (fun x hx => by have := snap_low cs n x hx; simp; omega)
    have f2 : (snapF (n + 1) (cs.drop (n + 1))).filter (fun x => x.1 ≠ (n : Int)) = snapF (n + 1) (cs.drop (n + 1)) := List.filter_eq_self.2 (fun x hx => by have := snap_high cs n x hx; simp; omega)
    rw [f1, f2]
    congr 2
    split <;> simp
/-- What a call does to a dense store, and what it tells. -/
def dDo (l : Int) (cs : List Int) (kind id c : Int) : List Int × Int :=
  if kind = 0 then (dAdd l cs id c, dAddCode l cs id c) else if kind = 1 then (dTake l cs id, dGet l cs id) else (cs, dGet l cs id)
theorem do_snap {l u t : Int} {cs : List Int} (v : Dv l u t cs) (kind id c : Int) : stDo l (snapF 0 cs) kind id c = (snapF 0 (dDo l cs kind id c).1, (dDo l cs kind id c).2) := by
  unfold stDo dDo
  split
  · exact add_snap v id c
  · split
    · exact take_snap v id
    · rw [find_snap v]
end Nl
open Nl
theorem DnV.tch {w w' : World} {g h g' h' : Nat} {l : Int} {cs : List Int} (d : DnV w g h l cs) (tc : Tch g' h' w w') (e1 : g ≠ g') (e2 : g ≠ h') (e3 : h ≠ g') (e4 : h ≠ h') : DnV w' g h l cs := by
  obtain ⟨u, t, d, v⟩ := d; exact ⟨u, t, d.tch tc e1 e2 e3 e4, v⟩
theorem DnV.below {w w' : World} {g h B : Nat} {l : Int} {cs : List Int} (d : DnV w g h l cs) (b : Below B w w') (hB : w.heap.size ≤ B) : DnV w' g h l cs := by
  obtain ⟨u, t, d, v⟩ := d; exact ⟨u, t, d.below b hB, v⟩
theorem DnV.lt {w : World} {g h : Nat} {l : Int} {cs : List Int} (d : DnV w g h l cs) : g < w.heap.size ∧ h < w.heap.size ∧ g ≠ h := by
  obtain ⟨u, t, d, v⟩ := d; exact ⟨d.1.lt, d.2.1.lt, d.2.2⟩

theorem rd_lit (w : World) (xs : List Nd) (T : TypeId) (_h : xs ≠ []) : RdN (w.alloc (.cells (ncells xs).toArray T)) (.slice (some ⟨w.heap.size, 0, none⟩) xs.length xs.length) xs := by
  refine .inr (.inr ⟨w.heap.size, 0, xs.length, rfl, by simp, Nat.le_refl _, fun k hk => ?_⟩)
  have B := Blk.new w (ncells xs).toArray T
  obtain ⟨g1, g2⟩ := ncells_get xs k hk
  refine ⟨?_, ?_⟩
  · rw [Nat.zero_add]; exact (B.cell _).trans (by simpa using g1)
  · rw [Nat.zero_add]; exact (B.cell _).trans (by simpa using g2)

end Go.Proofs.Ytejoecoenehooaa
