/- A table that is looked through (no program in sight): the document's way of putting and adding is the same. -/
import Derived.Test.YtbbkfjbaocpknaaBC2
namespace Go.Proofs.Ytbbkfjbaocpknaa
namespace Nl

/-- A node put: its weight more, where looking for it ends. -/
def hput (b : Nat) (t : List (Int × Int)) (x : Int × Int) : List (Int × Int) := t.set (lookI t b x.1) (x.1, cntA t (lookI t b x.1) + x.2)
theorem hput_zero {b : Nat} {t : List (Int × Int)} {x : Int × Int} (h : cntA t (lookI t b x.1) = 0) : hput b t x = t.set (lookI t b x.1) x := by
  unfold hput; rw [h, Int.zero_add]
/-- Where the next of the nodes comes, it is empty. -/
theorem putAll_free {b : Nat} {t A B : List (Int × Int)} {y : Int × Int} (ht : Tab b t) (hy : ∀ z ∈ A ++ y :: B, 1 ≤ z.1 ∧ 0 < z.2) (hp : (A ++ y :: B).Pairwise (fun x y => x.1 ≠ y.1)) (hn : ∀ z ∈ A ++ y :: B, ∀ i, i < t.length → 0 < cntA t i → idA t i ≠ z.1) (ho : occ t + (A ++ y :: B).length < t.length) :
    Tab b (putAll b t A) ∧ cntA (putAll b t A) (lookI (putAll b t A) b y.1) = 0 ∧ (putAll b t A).length = t.length ∧ occ (putAll b t A) < t.length := by
  simp only [List.length_append, List.length_cons] at ho
  obtain ⟨r1, r2, r3, r4⟩ := putAll_spec A t ht (fun z hz => hy z (by simp [hz])) (List.pairwise_append.1 hp).1 (fun z hz => hn z (by simp [hz])) (by omega)
  have hl := putAll_length b t A
  have hy1 := hy y (by simp)
  obtain ⟨n1, n2, _⟩ := new_spec r1 hy1.1 hy1.2 (by omega) (fun i hi hc q => by
    rcases (r4 y.1 (cntA (putAll b t A) i)).1 ⟨i, hi, q, rfl, hc⟩ with ⟨j, hj, g1, g2, g3⟩ | hm
    · exact hn y (by simp) j hj (by omega) g1
    · exact (List.pairwise_append.1 hp).2.2 _ hm y (by simp) rfl)
  exact ⟨r1, n2, hl, by omega⟩
/-- The same of the slots of a table that is widened. -/
theorem widen_free {b : Nat} {xs : List (Int × Int)} (t : Tab b xs) (hb : b + 1 ≤ 62) {k : Nat} (hk : k < (full xs).length) :
    Tab (b + 1) (putAll (b + 1) (List.replicate (2 ^ (b + 1)) (0, 0)) ((full xs).take k)) ∧ cntA (putAll (b + 1) (List.replicate (2 ^ (b + 1)) (0, 0)) ((full xs).take k)) (lookI (putAll (b + 1) (List.replicate (2 ^ (b + 1)) (0, 0)) ((full xs).take k)) (b + 1) ((full xs).getD k (0, 0)).1) = 0 ∧
      (putAll (b + 1) (List.replicate (2 ^ (b + 1)) (0, 0)) ((full xs).take k)).length = 2 ^ (b + 1) ∧ occ (putAll (b + 1) (List.replicate (2 ^ (b + 1)) (0, 0)) ((full xs).take k)) < 2 ^ (b + 1) := by
  have e : full xs = (full xs).take k ++ (full xs).getD k (0, 0) :: (full xs).drop (k + 1) := by
    rw [← drop_at (d := ((0, 0) : Int × Int)) (full xs) k hk, List.take_append_drop]
  have ok := t.full_ok
  have pr := t.full_pair
  have hl := full_length xs
  have ho := occ_le xs
  have h0 := t.pos_len
  have hlen := t.len
  have e2 : 2 ^ (b + 1) = 2 * xs.length := by rw [hlen, Nat.pow_succ]; omega
  rw [e] at ok pr
  have h := putAll_free (Tab.empty (b + 1) hb) ok pr (fun z _ i _ hc => by rw [cnt_zeros] at hc; omega) (by rw [← e, hl, occ_zeros]; simp only [List.length_replicate]; omega)
  simpa using h
/-- Adding, as the document has it. -/
theorem hadd_eq {l : Int} {b : Nat} {xs : List (Int × Int)} (v : Pv l b xs) (hb : b + 1 ≤ 62) {id c : Int} (hr : rightB l id = true) (hc : 0 < c) :
    addT b xs id c = if cntA xs (lookI xs b id) = 0 ∧ xs.length < 2 * ((full xs).length + 1) then (b + 1, hput (b + 1) (widenP b xs) (id, c)) else (b, hput b xs (id, c)) := by
  have hp := v.tab.pos (lookI xs b id)
  have h1 := right_pos hr
  rw [full_length]
  unfold addT
  rw [if_neg (by omega)]
  by_cases h2 : 0 < cntA xs (lookI xs b id)
  · rw [if_pos h2, if_neg (by omega)]; rfl
  · have h0 : cntA xs (lookI xs b id) = 0 := by omega
    rw [if_neg h2]
    by_cases h3 : xs.length < 2 * (occ xs + 1)
    · rw [if_pos h3, if_pos ⟨h0, h3⟩]
      obtain ⟨w1, w2, w3, w4, w5⟩ := widen_spec v.tab hb
      have hno := look_none v.tab id (by omega)
      have hh := v.half
      have h00 := v.tab.pos_len
      have hz := (new_spec w1 h1 hc (by omega) (fun j hj hcj q => by
        obtain ⟨j', hj', g1, g2, g3⟩ := (w5 id _).1 ⟨j, hj, q, rfl, hcj⟩
        exact hno j' hj' (by omega) g1)).2.1
      exact congrArg (Prod.mk (b + 1)) (hput_zero (b := b + 1) (t := widenP b xs) (x := (id, c)) hz).symm
    · rw [if_neg h3, if_neg (fun q => h3 q.2)]
      exact congrArg (Prod.mk b) (hput_zero (b := b) (t := xs) (x := (id, c)) h0).symm
end Nl
end Go.Proofs.Ytbbkfjbaocpknaa
