/- A digest's bytes are read back (no program in sight). -/
import Derived.Test.YtbbkfjbaocpknaaGreatRvMath
import Derived.Test.YtbbkfjbaocpknaaGreatWtMath
namespace Go.Proofs.YtbbkfjbaocpknaaGreat
namespace Vy

theorem gapsF_snoc (last : Int) (l : List Int) (a : Int) : gapsF last (l ++ [a]) = gapsF last l ++ vyL (a - (if l = [] then last else l.getD (l.length - 1) 0)).toNat := by
  induction l generalizing last with
  | nil => simp [gapsF]
  | cons b l ih =>
    rw [List.cons_append, gapsF, ih b, gapsF, List.append_assoc]
    congr 4
    by_cases h : l = []
    · subst h; simp
    · obtain ⟨c, t, rfl⟩ : ∃ c t, l = c :: t := by cases l with | nil => exact absurd rfl h | cons c t => exact ⟨c, t, rfl⟩
      simp [List.getD]
theorem gapsL_take (l : List Int) : ∀ j, j ≤ l.length → gapsL l j = gapsF 0 (l.take j) := by
  intro j
  induction j with
  | zero => intro _; simp [gapsL, gapsF]
  | succ j ih =>
    intro h
    have hj : j < l.length := by omega
    rw [gapsL, ih (by omega), List.take_succ_eq_append_getElem hj, gapsF_snoc]
    have e1 : l.getD j 0 = l[j] := by simp [List.getD, hj]
    have e2 : (if l.take j = [] then 0 else (l.take j).getD ((l.take j).length - 1) 0) = lastI l j := by
      cases j with
      | zero => simp [lastI]
      | succ j =>
        rw [if_neg (by intro e; have := congrArg List.length e; rw [List.length_take, List.length_nil] at this; omega)]
        simp [lastI, List.getD, List.length_take, show min (j + 1) l.length = j + 1 by omega, List.getElem?_eq_getElem (show j < l.length by omega)]
    rw [e1, e2]
theorem gaps_all (l : List Int) : gapsL l l.length = gapsF 0 l := by rw [gapsL_take l _ (Nat.le_refl _), List.take_length]
theorem vysL_snoc (l : List Int) (a : Int) : vysL (l ++ [a]) = vysL l ++ vyL a.toNat := by
  induction l with
  | nil => simp [vysL]
  | cons b l ih => rw [List.cons_append, vysL, ih, vysL, List.append_assoc]
theorem wsL_take (l : List Int) : ∀ j, j ≤ l.length → wsL l j = vysL (l.take j) := by
  intro j
  induction j with
  | zero => intro _; simp [wsL, vysL]
  | succ j ih =>
    intro h
    have hj : j < l.length := by omega
    rw [wsL, ih (by omega), List.take_succ_eq_append_getElem hj, vysL_snoc]
    simp [List.getD, hj]
theorem ws_all (l : List Int) : wsL l l.length = vysL l := by rw [wsL_take l _ (Nat.le_refl _), List.take_length]
/-- The reader's states: what is left, or none once something was wrong. -/
abbrev VSt := Option (List UInt8)
def failS (b : Bool) (st : VSt) : VSt := if b then none else st
def rawS (n : Nat) : VSt → VSt
  | none => none
  | some s => if n ≤ s.length then some (s.drop n) else none
def rawV (n : Nat) : VSt → List UInt8
  | none => []
  | some s => if n ≤ s.length then s.take n else []
def numS : VSt → VSt
  | none => none
  | some s => match getF s with
    | none => none
    | some (_, r) => some r
def numV : VSt → Nat
  | none => 0
  | some s => match getF s with
    | none => 0
    | some (n, _) => n
def byteV (st : VSt) : Nat := match rawV 1 st with
  | [] => 0
  | c :: _ => c.toNat
/-- It isn't so that the number lies so. -/
def outB (n : Nat) (a b : Int) : Bool := decide ((n : Int) < a) || decide (b < (n : Int))
def openS (s : List UInt8) : VSt := if openB s then some (s.take (s.length - 4)) else none
def magicS (st : VSt) : VSt := failS (!decide (rawV 4 st = [68, 87, 80, 1])) (rawS 4 st)
def lS (st : VSt) : VSt := failS (outB (byteV st) 1 48) (rawS 1 st)
def btS (a b : Int) (st : VSt) : VSt := failS (outB (numV st) a b) (numS st)
def s1 (s : List UInt8) : VSt := magicS (openS s)
def s2 (s : List UInt8) : VSt := lS (s1 s)
def s3 (s : List UInt8) : VSt := btS 1 1048576 (s2 s)
def s4 (s : List UInt8) : VSt := btS 0 72057594037927935 (s3 s)
def vL (s : List UInt8) : Nat := byteV (s1 s)
def vK (s : List UInt8) : Nat := numV (s2 s)
def vN (s : List UInt8) : Nat := numV (s3 s)
theorem open_inv {s : List UInt8} (h : openB s = true) : s = sealL (s.take (s.length - 4)) := by
  simp only [openB, decide_eq_true_eq] at h
  obtain ⟨h1, h2⟩ := h
  have e : (s.take (s.length - 4)).length = s.length - 4 := by rw [List.length_take]; omega
  unfold sealL
  rw [e, ← h2, List.take_append_drop]
theorem open_sealS (t : List UInt8) : openS (sealL t) = some t := by
  unfold openS
  rw [if_pos (open_seal t)]
  have := seal_len t
  rw [show (sealL t).length - 4 = t.length by omega]
  unfold sealL
  rw [List.take_left]
theorem openS_some {s t : List UInt8} (h : openS s = some t) : s = sealL t := by
  unfold openS at h
  split at h
  · rename_i ho
    have e : s.take (s.length - 4) = t := by simpa using h
    rw [← e]
    exact open_inv ho
  · cases h
theorem fail_some {b : Bool} {st : VSt} {t : List UInt8} (h : failS b st = some t) : b = false ∧ st = some t := by
  unfold failS at h
  cases b with
  | true => cases h
  | false => exact ⟨rfl, h⟩
theorem magic_some {st : VSt} {t : List UInt8} (h : magicS st = some t) : st = some ([68, 87, 80, 1] ++ t) := by
  obtain ⟨h1, h2⟩ := fail_some h
  have h1 : rawV 4 st = [68, 87, 80, 1] := by simpa using h1
  cases st with
  | none => cases h2
  | some s =>
    simp only [rawV, rawS] at h1 h2
    split at h2
    · rename_i hl
      rw [if_pos hl] at h1
      have e : s.drop 4 = t := by simpa using h2
      rw [← h1, ← e, List.take_append_drop]
    · cases h2
theorem magic_of (t : List UInt8) : magicS (some ([68, 87, 80, 1] ++ t)) = some t := by
  have h : 4 ≤ ([68, 87, 80, 1] ++ t : List UInt8).length := by simp
  unfold magicS failS rawV rawS
  simp
theorem lS_some {st : VSt} {t : List UInt8} (h : lS st = some t) : 1 ≤ byteV st ∧ byteV st ≤ 48 ∧ st = some (UInt8.ofNat (byteV st) :: t) := by
  obtain ⟨h1, h2⟩ := fail_some h
  simp only [outB, Bool.or_eq_false_iff, decide_eq_false_iff_not] at h1
  cases st with
  | none => cases h2
  | some s =>
    cases s with
    | nil => simp [rawS] at h2
    | cons c s =>
      have e : byteV (some (c :: s)) = c.toNat := by simp [byteV, rawV]
      have e2 : s = t := by simpa [rawS] using h2
      rw [e] at h1 ⊢
      exact ⟨by omega, by omega, by rw [of_nat, e2]⟩
theorem lS_of {l : Nat} (t : List UInt8) (h1 : 1 ≤ l) (h2 : l ≤ 48) : lS (some (UInt8.ofNat l :: t)) = some t ∧ byteV (some (UInt8.ofNat l :: t)) = l := by
  have e : byteV (some (UInt8.ofNat l :: t)) = l := by simp [byteV, rawV]; omega
  refine ⟨?_, e⟩
  unfold lS
  rw [e]
  have : outB l 1 48 = false := by simp only [outB, Bool.or_eq_false_iff, decide_eq_false_iff_not]; omega
  rw [this]
  simp [failS, rawS]
theorem btS_some {a b : Int} {st : VSt} {t : List UInt8} (h : btS a b st = some t) : a ≤ numV st ∧ numV st ≤ b ∧ st = some (vyL (numV st) ++ t) := by
  obtain ⟨h1, h2⟩ := fail_some h
  simp only [outB, Bool.or_eq_false_iff, decide_eq_false_iff_not] at h1
  cases st with
  | none => cases h2
  | some s =>
    cases hg : getF s with
    | none => simp only [numS, hg] at h2; cases h2
    | some x =>
      obtain ⟨n, r⟩ := x
      have e : numV (some s) = n := by simp only [numV, hg]
      have e2 : r = t := by simpa [numS, hg] using h2
      rw [e] at h1 ⊢
      exact ⟨by omega, by omega, by rw [(getF_iff.1 hg).1, e2]⟩
theorem btS_of {a b : Int} {n : Nat} (t : List UInt8) (h1 : a ≤ n) (h2 : n ≤ b) (h3 : n ≤ 9223372036854775807) : btS a b (some (vyL n ++ t)) = some t ∧ numV (some (vyL n ++ t)) = n := by
  have hg := getF_iff.2 ⟨(rfl : vyL n ++ t = vyL n ++ t), h3⟩
  have e : numV (some (vyL n ++ t)) = n := by simp only [numV, hg]
  refine ⟨?_, e⟩
  unfold btS
  rw [e]
  have : outB n a b = false := by simp only [outB, Bool.or_eq_false_iff, decide_eq_false_iff_not]; omega
  rw [this]
  simp [failS, numS, hg]
theorem s4_some {s t : List UInt8} (h : s4 s = some t) : 1 ≤ vL s ∧ vL s ≤ 48 ∧ 1 ≤ vK s ∧ vK s ≤ 1048576 ∧ vN s ≤ 72057594037927935 ∧ s = sealL (headB (vL s) (vK s) (vN s) ++ t) := by
  obtain ⟨-, a2, a3⟩ := btS_some h
  obtain ⟨b1, b2, b3⟩ := btS_some a3
  obtain ⟨c1, c2, c3⟩ := lS_some b3
  have d := magic_some c3
  have e := openS_some d
  refine ⟨c1, c2, by unfold vK; omega, by unfold vK; omega, by unfold vN; omega, ?_⟩
  conv => lhs; rw [e]
  simp only [headB, vL, vK, vN, Int.toNat_natCast]
  simp
theorem s4_of {l k n : Nat} (t : List UInt8) (h1 : 1 ≤ l) (h2 : l ≤ 48) (h3 : 1 ≤ k) (h4 : k ≤ 1048576) (h5 : n ≤ 72057594037927935) :
    s4 (sealL (headB l k n ++ t)) = some t ∧ vL (sealL (headB l k n ++ t)) = l ∧ vK (sealL (headB l k n ++ t)) = k ∧ vN (sealL (headB l k n ++ t)) = n := by
  have e : (headB l k n ++ t : List UInt8) = [68, 87, 80, 1] ++ (UInt8.ofNat l :: (vyL k ++ (vyL n ++ t))) := by simp [headB]
  have e1 : s1 (sealL (headB l k n ++ t)) = some (UInt8.ofNat l :: (vyL k ++ (vyL n ++ t))) := by unfold s1; rw [open_sealS, e, magic_of]
  obtain ⟨a1, a2⟩ := lS_of (vyL k ++ (vyL n ++ t)) h1 h2
  have e2 : s2 (sealL (headB l k n ++ t)) = some (vyL k ++ (vyL n ++ t)) := by unfold s2; rw [e1, a1]
  obtain ⟨b1, b2⟩ := btS_of (a := 1) (b := 1048576) (vyL n ++ t) (by omega) (by omega) (by omega : k ≤ 9223372036854775807)
  have e3 : s3 (sealL (headB l k n ++ t)) = some (vyL n ++ t) := by unfold s3; rw [e2, b1]
  obtain ⟨c1, c2⟩ := btS_of (a := 0) (b := 72057594037927935) t (by omega) (by omega) (by omega : n ≤ 9223372036854775807)
  have e4 : s4 (sealL (headB l k n ++ t)) = some t := by unfold s4; rw [e3, c1]
  exact ⟨e4, by unfold vL; rw [e1, a2], by unfold vK; rw [e2, b2], by unfold vN; rw [e3, c2]⟩
/-- The rising numbers that bytes begin with. -/
def idsF (most : Int) (s : List UInt8) : Option (List Int × List UInt8) := match getF s with
  | none => none
  | some (m, r) => if most < m then none else fallsF m 0 r
theorem idsF_iff {most : Int} {s : List UInt8} {l : List Int} {r : List UInt8} (hm : most ≤ 9223372036854775807) : idsF most s = some (l, r) ↔ s = risesL l ++ r ∧ riseF 0 l ∧ (l.length : Int) ≤ most := by
  unfold idsF risesL
  rw [gaps_all]
  constructor
  · intro e
    cases hg : getF s with
    | none => rw [hg] at e; cases e
    | some x =>
      obtain ⟨m, q⟩ := x
      rw [hg] at e
      simp only at e
      split at e
      · cases e
      · obtain ⟨a, b, c⟩ := (fallsF_iff m 0 q l r (by omega) (by omega)).1 e
        refine ⟨?_, b, by omega⟩
        rw [(getF_iff.1 hg).1, c, a, List.append_assoc]
  · rintro ⟨a, b, c⟩
    rw [List.append_assoc] at a
    rw [getF_iff.2 ⟨a, by omega⟩]
    simp only
    rw [if_neg (by omega)]
    exact (fallsF_iff _ 0 _ l r (by omega) (by omega)).2 ⟨rfl, b, rfl⟩
/-- All of it. -/
theorem read_sound {s t q : List UInt8} {ids ws : List Int} (h : s4 s = some t) (hi : idsF (8 * (vK s : Int)) t = some (ids, q)) (hw : wsF ids.length (vN s) q = some (ws, 0, [])) :
    s = encL (vL s) (vK s) (vN s) ids ws ∧ riseF 0 ids ∧ (ids.length : Int) ≤ 8 * (vK s : Int) ∧ ws.length = ids.length ∧ (∀ a ∈ ws, 1 ≤ a) ∧ sumI ws = vN s := by
  obtain ⟨a1, a2, a3, a4, a5, a6⟩ := s4_some h
  obtain ⟨b1, b2, b3⟩ := (idsF_iff (by omega)).1 hi
  obtain ⟨c1, c2, c3, -, c5⟩ := (wsF_iff _ _ _ _ _ _ (by omega)).1 hw
  refine ⟨?_, b2, b3, c1, c2, by omega⟩
  unfold encL
  rw [ws_all]
  conv => lhs; rw [a6, b1, c5, List.append_nil]
  rw [List.append_assoc]
theorem read_of {l k n : Nat} {ids ws : List Int} (h1 : 1 ≤ l) (h2 : l ≤ 48) (h3 : 1 ≤ k) (h4 : k ≤ 1048576) (h5 : n ≤ 72057594037927935) (hr : riseF 0 ids) (hi : (ids.length : Int) ≤ 8 * (k : Int)) (he : ws.length = ids.length) (hp : ∀ a ∈ ws, 1 ≤ a) (hs : sumI ws = n) :
    ∃ t q, s4 (encL l k n ids ws) = some t ∧ vL (encL l k n ids ws) = l ∧ vK (encL l k n ids ws) = k ∧ vN (encL l k n ids ws) = n ∧ idsF (8 * (k : Int)) t = some (ids, q) ∧ wsF ids.length n q = some (ws, 0, []) := by
  have e : encL l k n ids ws = sealL (headB l k n ++ (risesL ids ++ vysL ws)) := by unfold encL; rw [ws_all, List.append_assoc]
  obtain ⟨a1, a2, a3, a4⟩ := s4_of (l := l) (k := k) (n := n) (risesL ids ++ vysL ws) h1 h2 h3 h4 h5
  rw [e]
  exact ⟨_, vysL ws, a1, a2, a3, a4, (idsF_iff (by omega)).2 ⟨rfl, hr, hi⟩, (wsF_iff _ _ _ _ _ _ (by omega)).2 ⟨he, hp, by omega, .inr (Int.le_refl _), by simp⟩⟩
end Vy
end Go.Proofs.YtbbkfjbaocpknaaGreat
