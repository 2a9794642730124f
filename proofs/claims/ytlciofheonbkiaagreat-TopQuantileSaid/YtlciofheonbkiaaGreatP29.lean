/- Texts laid together. -/
import Derived.Test.YtlciofheonbkiaaGreatP21
import Derived.Test.YtlciofheonbkiaaGreatP22
import Derived.Test.YtlciofheonbkiaaGreatP13
/- What bytes are a digest's (plain). -/
namespace Go.Proofs.YtlciofheonbkiaaGreat
open Nl Vy
namespace Vy
def encB (l k : Int) (zs : List Nd) : List UInt8 := encL l k (sumL zs) (zs.map (·.1)) (zs.map (·.2))
def Dead (s : List UInt8) : Prop := ∀ (l k : Int) (zs : List Nd), loadE 2 l k zs = 0 → s ≠ encB l k zs
theorem sumI_map (zs : List Nd) : sumI (zs.map (·.2)) = sumL zs := by
  induction zs with
  | nil => rfl
  | cons x r ih => simp only [List.map_cons, sumI, sumL]; rw [ih]
theorem riseF_of {zs : List Nd} : ∀ last : Int, (∀ x ∈ zs, last < x.1) → zs.Pairwise (fun a b => a.1 < b.1) → (∀ x ∈ zs, x.1 ≤ 9223372036854775807) → riseF last (zs.map (·.1)) := by
  induction zs with
  | nil => intro _ _ _ _; trivial
  | cons x r ih =>
    intro last h1 h2 h3
    obtain ⟨h4, h5⟩ := List.pairwise_cons.1 h2
    exact ⟨h1 x (by simp), h3 x (by simp), ih x.1 h4 h5 (fun y hy => h3 y (by simp [hy]))⟩
theorem rise_pair : ∀ (ids : List Int) (last : Int), riseF last ids → ids.Pairwise (· < ·) ∧ ∀ x ∈ ids, last < x := by
  intro ids
  induction ids with
  | nil => intro _ _; exact ⟨List.Pairwise.nil, fun x hx => by cases hx⟩
  | cons a r ih =>
    rintro last ⟨h1, h2, h3⟩
    obtain ⟨h4, h5⟩ := ih a h3
    refine ⟨List.pairwise_cons.2 ⟨h5, h4⟩, fun x hx => ?_⟩
    rcases List.mem_cons.1 hx with rfl | hx
    · exact h1
    · have := h5 x hx; omega
theorem right_le {l id : Int} (h : rightB l id = true) : id ≤ 9223372036854775807 := by
  simp only [rightB, decide_eq_true_eq] at h
  obtain ⟨n, rfl⟩ := Int.eq_ofNat_of_zero_le (show 0 ≤ l by omega)
  have hp := pow48 (n := n) (by omega)
  rw [Int.toNat_natCast] at h
  omega
theorem good_chain {l k : Int} {zs : List Nd} {s : List UInt8} (h : loadE 2 l k zs = 0) (hs : s = encB l k zs) :
    ∃ t q, s4 s = some t ∧ (vL s : Int) = l ∧ (vK s : Int) = k ∧ idsF (8 * (vK s : Int)) t = some (zs.map (·.1), q) ∧ (zs.map (·.1)).all (rightB (vL s)) = true ∧ wsF (zs.map (·.1)).length (vN s) q = some (zs.map (·.2), 0, []) := by
  have inv := load_inv h
  have hr := inv.roll
  have hk1 := inv.k1
  have hk2 := inv.k2
  have hrm := inv.room
  have hs0 : 0 ≤ sumL zs := by have := hr.sum; omega
  obtain ⟨L, eL⟩ := Int.eq_ofNat_of_zero_le (show 0 ≤ l by have := hr.l1; omega)
  obtain ⟨K, eK⟩ := Int.eq_ofNat_of_zero_le (show 0 ≤ k by omega)
  obtain ⟨M, eM⟩ := Int.eq_ofNat_of_zero_le hs0
  have h1 := hr.l1
  have h2 := hr.l2
  have h3 := hr.most
  have rise := riseF_of (zs := zs) 0 (fun x hx => by have := (hr.strict.2 x hx).1; omega) hr.strict.1 (fun x hx => right_le (hr.ids x hx))
  obtain ⟨t, q, a1, a2, a3, a4, a5, a6⟩ := read_of (l := L) (k := K) (n := M) (ids := zs.map (·.1)) (ws := zs.map (·.2)) (by omega) (by omega) (by omega) (by omega) (by omega) rise (by rw [List.length_map]; omega) (by simp) (fun a ha => by
    obtain ⟨x, hx, rfl⟩ := List.mem_map.1 ha
    exact (hr.strict.2 x hx).2) (by rw [sumI_map, eM])
  have e : s = encL L K M (zs.map (·.1)) (zs.map (·.2)) := by rw [hs]; unfold encB; rw [eL, eK, eM]
  rw [← e] at a1 a2 a3 a4
  refine ⟨t, q, a1, by rw [a2, eL], by rw [a3, eK], by rw [a3]; exact a5, ?_, by rw [a4]; exact a6⟩
  rw [List.all_eq_true]
  intro a ha
  obtain ⟨x, hx, rfl⟩ := List.mem_map.1 ha
  rw [a2, ← eL]
  exact hr.ids x hx
theorem dead4 {s : List UInt8} (h : s4 s = none) : Dead s := fun l k zs hz hs => by
  obtain ⟨t, q, a1, -⟩ := good_chain hz hs
  rw [h] at a1; cases a1
theorem dead_ids {s t : List UInt8} (h : s4 s = some t) (hi : idsS (8 * (vK s : Int)) (vL s) (some t) = none) : Dead s := fun l k zs hz hs => by
  obtain ⟨t', q, a1, a2, a3, a4, a5, a6⟩ := good_chain hz hs
  rw [h] at a1
  obtain rfl := Option.some.inj a1
  simp only [idsS, a4, allS, a5, if_true] at hi
  cases hi
theorem dead_ws {s t q : List UInt8} {ids : List Int} (h : s4 s = some t) (hi : idsF (8 * (vK s : Int)) t = some (ids, q)) (hw : ∀ ws, wsF ids.length (vN s) q ≠ some (ws, 0, [])) : Dead s := fun l k zs hz hs => by
  obtain ⟨t', q', a1, a2, a3, a4, a5, a6⟩ := good_chain hz hs
  rw [h] at a1
  obtain rfl := Option.some.inj a1
  rw [hi] at a4
  obtain ⟨rfl, rfl⟩ : ids = zs.map (·.1) ∧ q = q' := by simpa using a4
  exact hw _ a6
theorem zip_fst {ids ws : List Int} (h : ws.length = ids.length) : (ids.zip ws).map (·.1) = ids := by rw [List.map_fst_zip]; omega
theorem zip_snd {ids ws : List Int} (h : ws.length = ids.length) : (ids.zip ws).map (·.2) = ws := by rw [List.map_snd_zip]; omega
theorem zip_map (zs : List Nd) : (zs.map (·.1)).zip (zs.map (·.2)) = zs := by
  induction zs with
  | nil => rfl
  | cons x r ih => simp only [List.map_cons, List.zip_cons_cons, ih]
theorem read_all {s t q : List UInt8} {ids ws : List Int} (h : s4 s = some t) (hi : idsF (8 * (vK s : Int)) t = some (ids, q)) (hr : ids.all (rightB (vL s)) = true) (hw : wsF ids.length (vN s) q = some (ws, 0, [])) :
    s = encB (vL s) (vK s) (ids.zip ws) ∧ rollB (vL s) (ids.zip ws) = true ∧ poolIs 2 (vL s) = true ∧ isK (vK s) = true ∧ ((ids.zip ws).length : Int) ≤ 8 * (vK s : Int) ∧ sumL (ids.zip ws) = vN s := by
  obtain ⟨a1, a2, a3, a4, a5, a6⟩ := read_sound h hi hw
  obtain ⟨b1, b2, b3, b4, b5, -⟩ := s4_some h
  have e1 := zip_fst a4
  have e2 := zip_snd a4
  have hl : (ids.zip ws).length = ids.length := by rw [List.length_zip]; omega
  have hsum : sumL (ids.zip ws) = vN s := by rw [← sumI_map, e2, a6]
  have pw := rise_pair ids 0 a2
  have roll : Roll (vL s) (ids.zip ws) := {
    l1 := by omega
    l2 := by omega
    strict := ⟨by
      have := pw.1
      rw [← e1] at this
      exact (List.pairwise_map.1 this), fun x hx => ⟨by
        have := pw.2 x.1 (by rw [← e1]; exact List.mem_map_of_mem hx)
        omega, by
        have := a5 x.2 (by rw [← e2]; exact List.mem_map_of_mem hx)
        omega⟩⟩
    most := by omega
    ids := fun x hx => by
      rw [List.all_eq_true] at hr
      exact hr x.1 (by rw [← e1]; exact List.mem_map_of_mem hx) }
  refine ⟨?_, rollB_iff.2 roll, ?_, decide_eq_true ⟨by omega, by omega⟩, by rw [hl]; exact a3, hsum⟩
  · unfold encB
    rw [e1, e2, hsum]
    exact a1
  · unfold poolIs
    simp
    omega
theorem dead_load {s t q : List UInt8} {ids ws : List Int} (h : s4 s = some t) (hi : idsF (8 * (vK s : Int)) t = some (ids, q)) (hw : wsF ids.length (vN s) q = some (ws, 0, [])) (hl : loadE 2 (vL s) (vK s) (ids.zip ws) ≠ 0) : Dead s := fun l k zs hz hs => by
  obtain ⟨t', q', a1, a2, a3, a4, a5, a6⟩ := good_chain hz hs
  rw [h] at a1
  obtain rfl := Option.some.inj a1
  rw [hi] at a4
  obtain ⟨rfl, rfl⟩ : ids = zs.map (·.1) ∧ q = q' := by simpa using a4
  rw [hw] at a6
  obtain rfl : ws = zs.map (·.2) := by simpa using a6
  rw [zip_map, a2, a3] at hl
  exact hl hz
def mapW (ws : List Int) : Option (List Int × Int × List UInt8) → Option (List Int × Int × List UInt8)
  | none => none
  | some (l, x, r) => some (ws ++ l, x, r)
theorem mapW_nil (x : Option (List Int × Int × List UInt8)) : mapW [] x = x := by cases x <;> rfl
theorem ws_step {m : Nat} {left : Int} {q r : List UInt8} (ws : List Int) (h : btS 1 left (some q) = some r) (_hl : left ≤ 9223372036854775807) : mapW ws (wsF (m + 1) left q) = mapW (ws ++ [(numV (some q) : Int)]) (wsF m (left - numV (some q)) r) := by
  obtain ⟨h1, h2, h3⟩ := btS_some h
  have hq : q = vyL (numV (some q)) ++ r := Option.some.inj h3
  have hg := getF_iff.2 ⟨hq, by omega⟩
  rw [wsF, hg]
  simp only
  rw [if_neg (by omega)]
  cases wsF m (left - (numV (some q) : Int)) r with
  | none => rfl
  | some x => obtain ⟨l, x, t⟩ := x; simp [mapW]
theorem ws_none {m : Nat} {left : Int} {q : List UInt8} (h : btS 1 left (some q) = none) (hl : left ≤ 9223372036854775807) : wsF (m + 1) left q = none := by
  rw [wsF]
  cases hg : getF q with
  | none => rfl
  | some x =>
    obtain ⟨n, r⟩ := x
    simp only
    by_cases hb : n < 1 ∨ left < n
    · rw [if_pos hb]
    · obtain ⟨e1, -⟩ := getF_iff.1 hg
      have := btS_of (a := 1) (b := left) (n := n) r (by omega) (by omega) (by omega)
      rw [← e1, h] at this
      cases this.1
theorem zip_snoc {ids ws : List Int} {j : Nat} (h : j < ids.length) (hw : ws.length = j) (n : Int) : (ids.take j).zip ws ++ [(ids.getD j 0, n)] = (ids.take (j + 1)).zip (ws ++ [n]) := by
  have e : ids.getD j 0 = ids[j] := by simp [List.getD, h]
  rw [List.take_succ_eq_append_getElem h, e, List.zip_append (by rw [List.length_take]; omega)]
  rfl
end Vy
end Go.Proofs.YtlciofheonbkiaaGreat
