/- Texts laid together. -/
import Derived.Test.YtlciofheonbkiaaGreatP33
import Derived.Test.YtlciofheonbkiaaGreatP36
import Derived.Test.YtlciofheonbkiaaGreatP38
/- Texts laid together: SrMath, SrMath2. -/
/- What is read of a text's lines (no program in sight). -/
namespace Go.Proofs.YtlciofheonbkiaaGreat
open Go.RowKit Nl Sh
namespace Sh
theorem node_right {L lo hi : Int} (h : nodeB L lo hi = true) : rightB L (nodeV L lo hi) = true := by
  have h' := h
  unfold nodeB at h'
  rw [Bool.and_eq_true, List.any_eq_true] at h'
  obtain ⟨hl, j, hj, hh⟩ := h'
  obtain ⟨n, x, rfl, rfl, h1, h2, hx⟩ := leaf_rep hl
  have hj2 : j ≤ n := by have := List.mem_range.1 hj; simp at this; omega
  rw [(node_some hl (by simpa using hj2) hh).2]
  exact up_right h1 h2 hx hj2
abbrev St := Int × Int × Int × List (Int × Int)
def stepR (st : St) (n : Nat) (l : List UInt8) : Option St :=
  if n = 1 then (if headOk l then some ((thr0 l tDig : Nat), (thr1 l tDig [32] : Nat), (thr2 l tDig [32] [32] : Nat), st.2.2.2) else none)
  else if nodeOk st.1 st.2.2.1 st.2.2.2 l then some (st.1, st.2.1, st.2.2.1 - ndN l, st.2.2.2 ++ [(ndI st.1 l, ndN l)]) else none
def runR (st : St) : List (Nat × List UInt8) → Nat ⊕ St
  | [] => .inr st
  | x :: r => match stepR st x.1 x.2 with
    | none => .inl x.1
    | some st' => runR st' r
theorem runR_snoc : ∀ (xs : List (Nat × List UInt8)) (st st' : St) (x : Nat × List UInt8), runR st xs = .inr st' → runR st (xs ++ [x]) = match stepR st' x.1 x.2 with
    | none => .inl x.1
    | some st2 => .inr st2
  | [], st, st', x, h => by
    simp only [runR, Sum.inr.injEq] at h
    subst h
    simp only [List.nil_append, runR]
  | y :: r, st, st', x, h => by
    simp only [runR, List.cons_append] at h ⊢
    cases hs : stepR st y.1 y.2 with
    | none => rw [hs] at h; cases h
    | some s2 => rw [hs] at h; exact runR_snoc r s2 st' x h
theorem runR_app : ∀ (xs r : List (Nat × List UInt8)) (st : St) (n : Nat), runR st xs = .inl n → runR st (xs ++ r) = .inl n
  | [], _, _, _, h => by cases h
  | y :: t, r, st, n, h => by
    simp only [runR, List.cons_append] at h ⊢
    cases hs : stepR st y.1 y.2 with
    | none => rw [hs] at h; exact h
    | some s2 => rw [hs] at h; exact runR_app t r s2 n h
structure GoodR (n : Nat) (st : St) : Prop where
  bL : In64 st.1
  bl : 0 ≤ st.2.2.1 ∧ st.2.2.1 ≤ 72057594037927935
  nb : NB st.2.2.2
  len : st.2.2.2.length ≤ n
theorem right_in {L id : Int} (h : rightB L id = true) : In64 id := by
  have h0 := (right_pos1 h).1
  refine ⟨by omega, ?_⟩
  simp only [rightB, decide_eq_true_eq] at h
  obtain ⟨n, rfl⟩ := Int.eq_ofNat_of_zero_le (show 0 ≤ L by omega)
  have hp := pow48 (n := n) (by omega)
  rw [Int.toNat_natCast] at h
  omega
theorem GoodR.zero : GoodR 0 (0, 0, 0, []) := ⟨⟨by decide, by decide⟩, ⟨by decide, by decide⟩, fun x hx => (by cases hx), nlr⟩
theorem GoodR.step {n k : Nat} {st st' : St} {l : List UInt8} (g : GoodR n st) (h : stepR st k l = some st') : GoodR (n + 1) st' := by
  obtain ⟨h1, h2, h3, h4⟩ := g
  unfold stepR at h
  split at h
  · split at h
    · rename_i hk hh
      obtain rfl := Option.some.inj h
      unfold headOk at hh
      simp only [Bool.and_eq_true, decide_eq_true_eq] at hh
      have b0 : thr0 l tDig ≤ 9223372036854775807 := numV_bd _
      exact ⟨⟨by dsimp only; omega, by dsimp only; omega⟩, ⟨by dsimp only; omega, by dsimp only; omega⟩, h3, by dsimp only; omega⟩
    · cases h
  · split at h
    · rename_i hk hh
      obtain rfl := Option.some.inj h
      unfold nodeOk at hh
      simp only [Bool.and_eq_true, decide_eq_true_eq] at hh
      obtain ⟨⟨⟨⟨t1, t2⟩, t3⟩, t4⟩, t5⟩ := hh
      refine ⟨h1, ⟨by dsimp only; omega, by dsimp only; omega⟩, fun x hx => ?_, by simp; omega⟩
      simp only [List.mem_append, List.mem_singleton] at hx
      rcases hx with hx | rfl
      · exact h3 x hx
      · exact ⟨right_in (node_right t2), ⟨by dsimp only; omega, by dsimp only; omega⟩⟩
    · cases h
def readV (s : List UInt8) : (Nat × Int) ⊕ (Int × Int × List (Int × Int)) :=
  if s = [] then .inl (1, 10) else match runR (0, 0, 0, []) (linesF 1 s) with
    | .inl n => .inl (n, 10)
    | .inr st => if endV st.1 st.2.1 st.2.2.1 st.2.2.2 = 0 then .inr (st.1, st.2.1, st.2.2.2) else .inl (0, endV st.1 st.2.1 st.2.2.1 st.2.2.2)
theorem linesF_head {s : List UInt8} (h : s ≠ []) : ∃ l r, linesF 1 s = (1, l) :: r := by
  cases hb : brkL s with
  | none => exact ⟨_, _, linesF_none h hb⟩
  | some x => obtain ⟨a, b⟩ := x; exact ⟨_, _, linesF_some hb⟩
theorem head_ok {l : List UInt8} (h : headOk l = true) : poolIs 2 (thr0 l tDig : Nat) = true ∧ isK (thr1 l tDig [32] : Nat) = true := by
  unfold headOk at h
  simp only [Bool.and_eq_true, decide_eq_true_eq] at h
  obtain ⟨⟨⟨⟨t1, t2⟩, t3⟩, t4⟩, t5⟩ := h
  obtain ⟨b1, b2, b3⟩ := right_pos1 t2
  exact ⟨by unfold poolIs; simp; omega, decide_eq_true ⟨by omega, by omega⟩⟩
theorem run_okR : ∀ (xs : List (Nat × List UInt8)) (st st' : St), runR st xs = .inr st' → poolIs 2 st.1 = true → isK st.2.1 = true → poolIs 2 st'.1 = true ∧ isK st'.2.1 = true
  | [], st, st', h, h1, h2 => by
    simp only [runR, Sum.inr.injEq] at h
    subst h; exact ⟨h1, h2⟩
  | y :: r, st, st', h, h1, h2 => by
    simp only [runR] at h
    cases hs : stepR st y.1 y.2 with
    | none => rw [hs] at h; cases h
    | some s2 =>
      rw [hs] at h
      have h3 : poolIs 2 s2.1 = true ∧ isK s2.2.1 = true := by
        unfold stepR at hs
        split at hs
        · split at hs
          · rename_i hh; obtain rfl := Option.some.inj hs; exact head_ok hh
          · cases hs
        · split at hs
          · obtain rfl := Option.some.inj hs; exact ⟨h1, h2⟩
          · cases hs
      exact run_okR r s2 st' h h3.1 h3.2
theorem run_end {s : List UInt8} {st : St} (h0 : s ≠ []) (h : runR (0, 0, 0, []) (linesF 1 s) = .inr st) : poolIs 2 st.1 = true ∧ isK st.2.1 = true := by
  obtain ⟨l, r, e⟩ := linesF_head h0
  rw [e] at h
  simp only [runR] at h
  cases hs : stepR (0, 0, 0, []) 1 l with
  | none => rw [hs] at h; cases h
  | some s2 =>
    rw [hs] at h
    unfold stepR at hs
    rw [if_pos rfl] at hs
    split at hs
    · rename_i hh
      obtain rfl := Option.some.inj hs
      obtain ⟨h1, h2⟩ := head_ok hh
      exact run_okR r _ _ h h1 h2
    · cases hs
end Sh
end Go.Proofs.YtlciofheonbkiaaGreat
/- What is told is read as the same; what is read is told just so (no program in sight). -/
namespace Go.Proofs.YtlciofheonbkiaaGreat
open Go.RowKit Nl Sh
namespace Sh
def valL (n : Nat) : List UInt8 → Nat
  | [] => n
  | c :: r => valL (10 * n + (c.toNat - 48)) r
theorem valL_nil (n : Nat) : valL n [] = n := rfl
theorem valL_snoc : ∀ (ds : List UInt8) (n : Nat) (c : UInt8), valL n (ds ++ [c]) = 10 * valL n ds + (c.toNat - 48)
  | [], _, _ => rfl
  | _ :: r, _, c => valL_snoc r _ c
theorem numL_inv : ∀ (l : List UInt8) (n k m k' : Nat), numL n k l = some (m, k') → ∃ ds rest, l = ds ++ rest ∧ (∀ c ∈ ds, isDig c = true) ∧ m = valL n ds ∧ k' = k + ds.length
  | [], n, k, m, k', h => by
    obtain ⟨rfl, rfl⟩ : n = m ∧ k = k' := by simpa [numL] using h
    exact ⟨[], [], rfl, fun c hc => (by cases hc), rfl, rfl⟩
  | c :: r, n, k, m, k', h => by
    rw [numL] at h
    split at h
    · rename_i hc
      split at h
      · cases h
      · obtain ⟨ds, rest, e1, e2, e3, e4⟩ := numL_inv r _ _ m k' h
        refine ⟨c :: ds, rest, by rw [e1]; rfl, fun x hx => ?_, e3, by simp; omega⟩
        rcases List.mem_cons.1 hx with rfl | hx
        · exact hc
        · exact e2 x hx
    · obtain ⟨rfl, rfl⟩ : n = m ∧ k = k' := by simpa using h
      exact ⟨[], c :: r, rfl, fun c hc => (by cases hc), rfl, rfl⟩
theorem dig_lt {c : UInt8} (h : isDig c = true) : 48 ≤ c.toNat ∧ c.toNat - 48 < 10 := by
  simp only [isDig, decide_eq_true_eq] at h; omega
theorem dig_back {c : UInt8} (h : isDig c = true) : UInt8.ofNat (48 + (c.toNat - 48)) = c := by
  have := dig_lt h
  rw [show 48 + (c.toNat - 48) = c.toNat by omega]
  exact UInt8.ofNat_toNat
theorem decL_val (k : Nat) : ∀ ds : List UInt8, ds.length = k → ds ≠ [] → (∀ c ∈ ds, isDig c = true) → (ds.head? = some 48 → ds.length = 1) → decL (valL 0 ds) = ds := by
  induction k with
  | zero => intro ds h1 h2; exact absurd (List.eq_nil_of_length_eq_zero h1) h2
  | succ k ih =>
    intro ds h1 h2 h3 h4
    obtain ⟨ini, c, rfl⟩ : ∃ ini c, ds = ini ++ [c] := ⟨ds.dropLast, ds.getLast h2, (List.dropLast_concat_getLast h2).symm⟩
    rw [valL_snoc]
    have hc := h3 c (by simp)
    have hcl := dig_lt hc
    by_cases hi : ini = []
    · have hv0 : valL 0 ini = 0 := by rw [hi, valL_nil]
      rw [hv0, Nat.mul_zero, Nat.zero_add, decL_low hcl.2, dig_back hc, hi, List.nil_append]
    · have hh : ini.head? ≠ some 48 := fun q => by
        have e := h4 (by rw [head_app hi]; exact q)
        have : 0 < ini.length := List.length_pos_iff.2 hi
        rw [List.length_append, List.length_singleton] at e; omega
      have e := ih ini (by simpa using h1) hi (fun x hx => h3 x (by simp [hx])) (fun q => absurd q hh)
      have hv : valL 0 ini ≠ 0 := fun q => by
        rw [q, decL_low (by omega)] at e
        exact hh (by rw [← e]; rfl)
      rw [decL_big (by omega), show (10 * valL 0 ini + (c.toNat - 48)) / 10 = valL 0 ini by omega, e, show (10 * valL 0 ini + (c.toNat - 48)) % 10 = c.toNat - 48 by omega, dig_back hc]
theorem numV_inv {l : List UInt8} {n k : Nat} (h : numV l = (n, k, true)) : l = decL n ++ l.drop k := by
  unfold numV at h
  cases hn : numL 0 0 l with
  | none => rw [hn] at h; simp at h
  | some x =>
    obtain ⟨m, k'⟩ := x
    rw [hn] at h
    simp only at h
    split at h
    · simp at h
    · rename_i hc
      obtain ⟨rfl, rfl⟩ : m = n ∧ k' = k := by simpa using h
      obtain ⟨ds, rest, e1, e2, e3, e4⟩ := numL_inv l 0 0 _ _ hn
      rw [Nat.zero_add] at e4
      have h0 : ds ≠ [] := fun q => hc (.inl (by rw [e4, q]; rfl))
      have hd := decL_val _ ds rfl h0 e2 (fun q => by
        by_cases h1 : 1 < ds.length
        · exact absurd (.inr ⟨by omega, by rw [e1, head_app h0]; exact q⟩) hc
        · have : 0 < ds.length := List.length_pos_iff.2 h0
          omega)
      rw [e3, hd, e4, e1]
      simp
theorem next_ok {s t r : List UInt8} {m : Nat} {ok : Bool} (hs : s = t ++ (decL m ++ r)) (hm : m ≤ 9223372036854775807) (hr : ∀ c q, r = c :: q → isDig c = false) : nextV s t = m ∧ nextL s t = r ∧ nextB s t ok = ok := by
  have hb : begB s t = true := by
    unfold begB; rw [hs]
    simp
  have hc : cutL s t = decL m ++ r := by unfold cutL; rw [hb, if_pos rfl, hs]; simp
  have hv := numV_dec hm hr
  unfold nextV nextL nextB
  rw [hc, hv, hb]
  simp
theorem next_inv {s t : List UInt8} {ok : Bool} (h : nextB s t ok = true) : ok = true ∧ s = t ++ (decL (nextV s t) ++ nextL s t) := by
  unfold nextB at h
  simp only [Bool.and_eq_true] at h
  obtain ⟨⟨h1, h2⟩, h3⟩ := h
  refine ⟨h1, ?_⟩
  have hc : cutL s t = s.drop t.length := by unfold cutL; rw [h2, if_pos rfl]
  have hs : s = t ++ s.drop t.length := by
    unfold begB at h2
    simp only [Bool.and_eq_true, beq_iff_eq] at h2
    conv => lhs; rw [← List.take_append_drop t.length s, h2.2]
  have hv : numV (s.drop t.length) = ((numV (s.drop t.length)).1, (numV (s.drop t.length)).2.1, true) := by
    rw [hc] at h3
    rw [← h3]
  have hi := numV_inv hv
  unfold nextV nextL
  rw [hc, ← hi]
  exact hs
theorem thr_ok {t0 t1 t2 : List UInt8} {a b c : Nat} (ha : a ≤ 9223372036854775807) (hb : b ≤ 9223372036854775807) (hc : c ≤ 9223372036854775807) (h1 : ∀ x q, t1 = x :: q → isDig x = false) (h2 : ∀ x q, t2 = x :: q → isDig x = false) (n1 : t1 ≠ []) (n2 : t2 ≠ []) :
    thr0 (t0 ++ decL a ++ t1 ++ decL b ++ t2 ++ decL c) t0 = a ∧ thr1 (t0 ++ decL a ++ t1 ++ decL b ++ t2 ++ decL c) t0 t1 = b ∧ thr2 (t0 ++ decL a ++ t1 ++ decL b ++ t2 ++ decL c) t0 t1 t2 = c ∧ thrB (t0 ++ decL a ++ t1 ++ decL b ++ t2 ++ decL c) t0 t1 t2 = true := by
  have k1 : ∀ x q, t1 ++ (decL b ++ (t2 ++ (decL c ++ []))) = x :: q → isDig x = false := fun x q e => by
    cases t1 with
    | nil => exact absurd rfl n1
    | cons y r => simp only [List.cons_append, List.cons.injEq] at e; exact h1 x r (by rw [e.1])
  have k2 : ∀ x q, t2 ++ (decL c ++ []) = x :: q → isDig x = false := fun x q e => by
    cases t2 with
    | nil => exact absurd rfl n2
    | cons y r => simp only [List.cons_append, List.cons.injEq] at e; exact h2 x r (by rw [e.1])
  have e0 : t0 ++ decL a ++ t1 ++ decL b ++ t2 ++ decL c = t0 ++ (decL a ++ (t1 ++ (decL b ++ (t2 ++ (decL c ++ []))))) := by simp
  obtain ⟨a1, a2, a3⟩ := next_ok (ok := true) e0 ha k1
  obtain ⟨b1, b2, b3⟩ := next_ok (ok := true) (s := nextL (t0 ++ decL a ++ t1 ++ decL b ++ t2 ++ decL c) t0) (t := t1) a2 hb k2
  obtain ⟨c1, c2, c3⟩ := next_ok (ok := true) (s := nextL (nextL (t0 ++ decL a ++ t1 ++ decL b ++ t2 ++ decL c) t0) t1) (t := t2) b2 hc (fun x q e => by cases e)
  refine ⟨a1, b1, c1, ?_⟩
  unfold thrB
  rw [a3, b3, c3, c2]
  rfl
theorem thr_inv {s t0 t1 t2 : List UInt8} (h : thrB s t0 t1 t2 = true) : s = t0 ++ decL (thr0 s t0) ++ t1 ++ decL (thr1 s t0 t1) ++ t2 ++ decL (thr2 s t0 t1 t2) := by
  unfold thrB at h
  simp only [Bool.and_eq_true, List.isEmpty_iff] at h
  obtain ⟨h1, h2⟩ := h
  obtain ⟨h3, e3⟩ := next_inv h1
  obtain ⟨h4, e4⟩ := next_inv h3
  obtain ⟨-, e5⟩ := next_inv h4
  unfold thr0 thr1 thr2
  rw [h2] at e3
  conv => lhs; rw [e5, e4, e3]
  simp
theorem dec_no10 (k : Nat) : ∀ n : Nat, n ≤ k → (10 : UInt8) ∉ decL n := by
  have low : ∀ n : Nat, n < 10 → UInt8.ofNat (48 + n) ≠ 10 := fun n hn e => by
    have := dig_of hn
    rw [e] at this
    have h10 : (10 : UInt8).toNat = 10 := rfl
    omega
  induction k with
  | zero =>
    intro n hn
    obtain rfl : n = 0 := by omega
    rw [decL_low (by omega)]
    simpa only [List.mem_singleton] using (low 0 (by omega)).symm
  | succ k ih =>
    intro n hn
    by_cases h : n < 10
    · rw [decL_low h]; simpa only [List.mem_singleton] using (low n h).symm
    · rw [decL_big h]
      simp only [List.mem_append, List.mem_singleton, not_or]
      exact ⟨ih _ (by omega), (low _ (by omega)).symm⟩
theorem thr_no10 {s t0 t1 t2 : List UInt8} (h : thrB s t0 t1 t2 = true) (h0 : (10 : UInt8) ∉ t0) (h1 : (10 : UInt8) ∉ t1) (h2 : (10 : UInt8) ∉ t2) : (10 : UInt8) ∉ s := by
  rw [thr_inv h]
  simp only [List.mem_append, not_or]
  exact ⟨⟨⟨⟨⟨h0, dec_no10 _ _ nlr⟩, h1⟩, dec_no10 _ _ nlr⟩, h2⟩, dec_no10 _ _ nlr⟩
theorem brk_app : ∀ {l : List UInt8} (r : List UInt8), (10 : UInt8) ∉ l → brkL (l ++ 10 :: r) = some (l, r)
  | [], r, _ => by simp [brkL]
  | c :: t, r, h => by
    simp only [List.mem_cons, not_or] at h
    simp only [List.cons_append, brkL]
    rw [if_neg (fun q => h.1 q.symm), brk_app r h.2]
theorem linesF_app {n : Nat} {l : List UInt8} (r : List UInt8) (h : (10 : UInt8) ∉ l) : linesF n (l ++ 10 :: r) = (n, l) :: linesF (n + 1) r := linesF_some (brk_app r h)
def joinL (xs : List (Nat × List UInt8)) : List UInt8 := (xs.map fun x => x.2 ++ [10]).flatten
theorem digL_nat (n : Nat) : digL (n : Int) = decL n := by unfold digL; rw [if_neg (by omega), Int.toNat_natCast]
theorem ends_nat {L id : Int} (h : rightB L id = true) : ∃ a b : Nat, endsLo L id = (a : Int) ∧ endsHi L id = (b : Int) ∧ a ≤ 9223372036854775807 ∧ b ≤ 9223372036854775807 := by
  obtain ⟨h1, h2⟩ := node_ends h
  obtain ⟨i1, i2⟩ := ends_in h
  unfold nodeB at h1
  rw [Bool.and_eq_true, List.any_eq_true] at h1
  obtain ⟨hl, j, hj, hh⟩ := h1
  obtain ⟨n, x, -, e2, -⟩ := leaf_rep hl
  simp only [Bool.and_eq_true, beq_iff_eq] at hh
  have hp : (0 : Int) < 2 ^ j := Int.pow_pos (by omega)
  refine ⟨x, (endsHi L id).toNat, e2, ?_, ?_, ?_⟩
  · rw [Int.toNat_of_nonneg]; omega
  · have := i1.2; omega
  · have := i2.2; omega
def ndL (a b c : Nat) : List UInt8 := [] ++ decL a ++ [46, 46] ++ decL b ++ [32] ++ decL c
theorem last_lt {zs : List (Int × Int)} {x : Int × Int} {r : List (Int × Int)} (h : Strict (zs ++ x :: r)) : lastB zs x.1 = true := by
  unfold lastB
  cases hz : zs.isEmpty with
  | true => rfl
  | false =>
    have hne : zs ≠ [] := fun q => by rw [q] at hz; cases hz
    have hpos : 0 < zs.length := List.length_pos_iff.2 hne
    have hm : zs.getD (zs.length - 1) (0, 0) ∈ zs := getD_mem (d := ((0, 0) : Int × Int)) zs _ (by omega)
    have := (List.pairwise_append.1 h.1).2.2 _ hm x (by simp)
    simpa using this
theorem nodes_run {L K : Int} : ∀ (ys zs : List (Int × Int)) (n : Nat), 2 ≤ n → Roll L (zs ++ ys) → runR (L, K, sumL ys, zs) (linesF n (bodyL L ys)) = .inr (L, K, 0, zs ++ ys)
  | [], zs, n, _, _ => by
    rw [show bodyL L [] = [] from rfl, linesF_nil, List.append_nil]; rfl
  | (a, c) :: r, zs, n, hn, hr => by
    have hmem : ((a, c) : Int × Int) ∈ zs ++ (a, c) :: r := by simp
    have hid := hr.ids _ hmem
    have hs := hr.strict.2 _ hmem
    have hle := Pos.le_sum hr.strict.pos _ hmem
    have hmo := hr.most
    dsimp only at hid hs hle
    obtain ⟨lo, hi, e1, e2, b1, b2⟩ := ends_nat hid
    obtain ⟨w, rfl⟩ := Int.eq_ofNat_of_zero_le (show 0 ≤ c by omega)
    obtain ⟨t1, t2, t3, t4⟩ := thr_ok (t0 := []) (t1 := [46, 46]) (t2 := [32]) (a := lo) (b := hi) (c := w) b1 b2 (by omega) (fun x q e => by rw [← (List.cons.inj e).1]; rfl) (fun x q e => by rw [← (List.cons.inj e).1]; rfl) (by simp) (by simp)
    have el : bodyL L ((a, (w : Int)) :: r) = ndL lo hi w ++ 10 :: bodyL L r := by
      unfold bodyL
      rw [List.map_cons, List.flatten_cons]
      unfold lineL ndL
      simp only
      rw [e1, e2, digL_nat, digL_nat, digL_nat]
      simp
    have n10 : (10 : UInt8) ∉ ndL lo hi w := thr_no10 t4 (by decide) (by decide) (by decide)
    rw [el, linesF_app _ n10]
    obtain ⟨k1, k2⟩ := node_ends hid
    rw [e1, e2] at k1 k2
    have hI : ndI L (ndL lo hi w) = a := by unfold ndI ndL; rw [t1, t2, k2]
    have hN : ndN (ndL lo hi w) = (w : Int) := by unfold ndN ndL; rw [t3]
    have hpos : 0 ≤ sumL r := sumL_nonneg (fun x hx => hr.strict.pos x (by simp [hx]))
    have hok : nodeOk L (sumL ((a, (w : Int)) :: r)) zs (ndL lo hi w) = true := by
      unfold nodeOk
      rw [hI, hN, show thr0 (ndL lo hi w) [] = lo from t1, show thr1 (ndL lo hi w) [] [46, 46] = hi from t2, show thrB (ndL lo hi w) [] [46, 46] [32] = true from t4, k1, last_lt (x := (a, (w : Int))) hr.strict]
      simp only [Bool.true_and, Bool.and_eq_true, decide_eq_true_eq, sumL]
      exact ⟨by omega, decide_eq_true (by omega)⟩
    simp only [runR]
    unfold stepR
    rw [if_neg (by omega)]
    dsimp only
    rw [if_pos hok, hI, hN]
    dsimp only
    rw [show sumL ((a, (w : Int)) :: r) - (w : Int) = sumL r by simp only [sumL]; omega]
    rw [nodes_run r (zs ++ [(a, (w : Int))]) (n + 1) (by omega) (by simpa using hr)]
    simp
theorem told_read {L K : Int} {zs : List (Int × Int)} (h : loadE 2 L K zs = 0) : readV (textL L K zs) = .inr (L, K, zs) ∧ runR (0, 0, 0, []) (linesF 1 (textL L K zs)) = .inr (L, K, 0, zs) := by
  obtain ⟨h1, h2, h3, h4, h5⟩ := load_ok h
  have hr := rollB_iff.1 h3
  have k1 := (load_inv h).k1
  have k2 := (load_inv h).k2
  have l1 := hr.l1
  have l2 := hr.l2
  have hmo := hr.most
  have hpos := sumL_nonneg hr.strict.pos
  obtain ⟨l, rfl⟩ := Int.eq_ofNat_of_zero_le (show 0 ≤ L by omega)
  obtain ⟨k, rfl⟩ := Int.eq_ofNat_of_zero_le (show 0 ≤ K by omega)
  obtain ⟨m, em⟩ := Int.eq_ofNat_of_zero_le hpos
  obtain ⟨t1, t2, t3, t4⟩ := thr_ok (t0 := tDig) (t1 := [32]) (t2 := [32]) (a := l) (b := k) (c := m) (by omega) (by omega) (by omega) (fun x q e => by rw [← (List.cons.inj e).1]; rfl) (fun x q e => by rw [← (List.cons.inj e).1]; rfl) (by simp) (by simp)
  obtain ⟨hl, ehl⟩ : ∃ x, tDig ++ decL l ++ [32] ++ decL k ++ [32] ++ decL m = x := ⟨_, rfl⟩
  rw [ehl] at t1 t2 t3 t4
  have n10 : (10 : UInt8) ∉ hl := thr_no10 t4 (by decide) (by decide) (by decide)
  have et : textL (l : Int) (k : Int) zs = hl ++ 10 :: bodyL (l : Int) zs := by
    unfold textL headL
    rw [em, digL_nat, digL_nat, digL_nat, ← ehl]
    simp [tDig]
  have hrt : rightB (l : Int) 1 = true := by
    have hp : (1 : Int) ≤ 2 ^ (l : Int).toNat := by
      have : (0 : Int) < 2 ^ (l : Int).toNat := Int.pow_pos (by omega)
      omega
    exact decide_eq_true ⟨by omega, by omega, by omega, by omega⟩
  have hok : headOk hl = true := by
    unfold headOk
    rw [t1, t2, t3, t4, hrt]
    simp only [Bool.true_and, Bool.and_eq_true, decide_eq_true_eq]
    omega
  have hrun : runR (0, 0, 0, []) (linesF 1 (textL (l : Int) (k : Int) zs)) = .inr ((l : Int), (k : Int), 0, zs) := by
    rw [et, linesF_app _ n10]
    simp only [runR]
    unfold stepR
    rw [if_pos rfl, if_pos hok, t1, t2, t3]
    dsimp only
    rw [← em]
    exact nodes_run zs [] 2 nlr (by simpa using hr)
  refine ⟨?_, hrun⟩
  unfold readV
  rw [if_neg (by rw [et]; simp), hrun]
  dsimp only
  have he : endV (l : Int) (k : Int) 0 zs = 0 := by unfold endV; rw [if_neg (by omega)]; exact h
  rw [if_pos he]
end Sh
end Go.Proofs.YtlciofheonbkiaaGreat
