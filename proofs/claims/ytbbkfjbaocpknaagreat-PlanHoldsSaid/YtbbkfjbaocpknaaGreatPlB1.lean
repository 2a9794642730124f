/- Mem RkBits RkKnuth RkDiv RkProg RkProg2 RkMath RkProg3 RkWalk1 RkWalk2 RkWalk3 RkWalk4 RkRef RkProg4 RkLaws, for a seat with the digest too. -/
import Derived.Test.YtbbkfjbaocpknaaGreatBA
import Derived.Test.YtbbkfjbaocpknaaGreatBF
import Derived.Test.YtbbkfjbaocpknaaGreatBC
import Derived.Test.YtbbkfjbaocpknaaGreatBB
import Derived.Test.YtbbkfjbaocpknaaGreatRows
import Derived.WalkKit
import Derived.WalkSpells
import Derived.WalkLawsBesides
import Derived.Deep.QuietTactic
import Derived.BigQuiet
import Derived.Laws.MathBits
import Derived.Deep.DeepCutAuto
import Derived.Deep.CutBlock
section
namespace Go.Proofs.YtbbkfjbaocpknaaGreat
open Go.RowKit



/-- A slice of ints of the call's own: it holds xs. -/
def Own (w : World) (B : Nat) (v : Value) (xs : List Int) : Prop := w.ownsRow B 3 1 v xs.length (xs.map (Value.int .i64))

theorem Own.nil (w : World) (B : Nat) : Own w B (.slice none 0 0) [] := World.ownsRow_nil w B _ _
theorem Own.lt {w : World} {B : Nat} {v : Value} {xs : List Int} (h : Own w B v xs) : ∀ k, v.ownBlock = some k → B ≤ k := fun k hk => (World.ownsRow.lt h k hk).1
theorem Own.lt' {w : World} {B : Nat} {v : Value} {xs : List Int} (h : Own w B v xs) : ∀ k, v.ownBlock = some k → k < w.heap.size := fun k hk => (World.ownsRow.lt h k hk).2
theorem Own.mono {w : World} {B B' : Nat} {v : Value} {xs : List Int} (h : Own w B v xs) (hB : B' ≤ B) : Own w B' v xs := by
  refine ⟨h.1, ?_⟩
  rcases h.2 with h2 | ⟨g, cap, cur, hv, hg, r⟩
  · exact .inl h2
  · exact .inr ⟨g, cap, cur, hv, Nat.le_trans hB hg, r⟩
/-- What is owned stays so where its block stays. -/
theorem Own.keep {w w' : World} {B : Nat} {v : Value} {xs : List Int} (h : Own w B v xs) (hk : ∀ k, v.ownBlock = some k → w'.heap[k]? = w.heap[k]?) : Own w' B v xs := by
  refine ⟨h.1, ?_⟩
  rcases h.2 with h2 | ⟨g, cap, cur, rfl, hg, hh, r⟩
  · exact .inl h2
  · exact .inr ⟨g, cap, cur, rfl, hg, by rw [hk g rfl]; exact hh, r⟩
theorem Own.below {w w' : World} {B B' : Nat} {v : Value} {xs : List Int} (h : Own w B v xs) (hb : Below B' w w') (hB : w.heap.size ≤ B') : Own w' B v xs :=
  h.keep fun k hk => hb.block k (Nat.lt_of_lt_of_le (h.lt' k hk) hB)
theorem Own.alloc {w : World} {B : Nat} {v : Value} {xs : List Int} (h : Own w B v xs) (o : Obj) : Own (w.alloc o) B v xs :=
  h.keep fun k hk => Below.heap_alloc w o k (h.lt' k hk)
/-- The slice's value: nil, or a block's head. -/
theorem Own.shape {w : World} {B : Nat} {v : Value} {xs : List Int} (h : Own w B v xs) :
    (v = .slice none 0 0 ∧ xs = []) ∨ ∃ g cap, v = .slice (some ⟨g, 0, none⟩) xs.length cap ∧ ∀ i, i < xs.length → w.cell? ⟨g, i, none⟩ = some (.int .i64 (xs.getD i 0)) := by
  rcases h.2 with ⟨h1, h2⟩ | ⟨g, cap, cur, hv, hg, hh, h3, h4, h5, h6⟩
  · exact .inl ⟨h1, List.eq_nil_of_length_eq_zero h2⟩
  · refine .inr ⟨g, cap, hv, fun i hi => ?_⟩
    have hx : (xs.map (Value.int .i64))[i]? = some (.int .i64 (xs.getD i 0)) := by
      simp [List.getElem?_eq_getElem hi, List.getD]
    have := World.ownsRow.cells h (g := g) (by rw [hv]; rfl) i _ hx
    have hadd : (⟨g, 0, none⟩ : Addr).add i = ⟨g, i, none⟩ := by unfold Addr.add; split <;> simp_all
    rw [hadd] at this
    exact this
/-- An element of it. -/
theorem Own.at {w : World} {B n cap : Nat} {p : Option Addr} {xs : List Int} {j : Nat} {d : Int} (h : Own w B (.slice p n cap) xs) (hj : j < xs.length) (hd : xs.getD j 0 = d) :
    ∃ g, p = some ⟨g, 0, none⟩ ∧ w.cell? ⟨g, j, none⟩ = some (.int .i64 d) := by
  rcases h.shape with ⟨_, h2⟩ | ⟨g, cap, h1, h2⟩
  · subst h2; simp at hj
  · simp only [Value.slice.injEq] at h1
    exact ⟨g, h1.1, by rw [h2 j hj, hd]⟩
theorem Own.grown {w w' : World} {B : Nat} {v : Value} {xs : List Int} {row : Option Nat} (h : Own w B v xs) (hg : w.grownBy w' row) (hne : ∀ k, v.ownBlock = some k → some k ≠ row) : Own w' B v xs :=
  h.keep fun k hk => hg.block k (h.lt' k hk) (hne k hk)

theorem Own.drewN {w : World} {B : Nat} {v : Value} {xs : List Int} (h : Own w B v xs) (n : Nat) : Own (w.drewN n) B v xs := h.keep fun _ _ => rfl
/-- A callee that leaves the world alone, in a region that draws. -/
theorem quietly {P : Program} {f : FuncId} {args : Array Value} {w : World} {n : Nat} {v : Value}
    (h : Calls P f args (w.drewN n) fun e w' => e = .returned v ∧ w.drewN n = w') : Calls P f args (w.drewN n) fun e w'' => e = .returned v ∧ ∃ m, w'' = w.drewN m :=
  h.mono fun _ _ ⟨he, hm⟩ => ⟨he, n, hm.symm⟩

/-- append(s, c) on a slice of ints of the call's own. -/
theorem append1 {ops : Array Oper} {rest : List Oper} {o : Oper} {a : Act} {Q : Exit → Act → World → Prop} {w wr : World} {c : Int} {v : Value} {xs : List Int} {B T : Nat} (s x : Operand)
    (hown : Own wr B v xs) (hlen : xs.length < 1048576) (hBr : B ≤ wr.heap.size)
    (hw : w = wr.alloc (.cells #[.int .i64 c] T))
    (hgd : o.guard = none) (ho : o.op = .call { callee := .builtin .append, args := #[s, x], argTypes := #[104, 104] })
    (hv : a.eval s = v) (hx : a.eval x = .slice (some ⟨wr.heap.size, 0, none⟩) 1 1)
    (h : ∀ v' w', Own w' B v' (xs ++ [c]) → wr.grownBy w' v.ownBlock → v' ≠ .slice none 0 0 → wpList Tryz.prog ops Q rest (a.put o.dst v') w') :
    wpList Tryz.prog ops Q (o :: rest) a w := by
  obtain ⟨i0, hi, hz0, hz1, hz2⟩ := info_parts Tryz.infoInt
  subst hw
  refine wpList_append_own _ hgd s x 104 ho B 3 i0 (.int .i64 0) 1 8 Tryz.underlying104 hi hz0 hz1 hz2 rfl (by decide) v xs.length (xs.map (Value.int .i64)) hv (hown.alloc _) ⟨wr.heap.size, 0, none⟩ 1 1 [.int .i64 c] hx rfl ?_ ?_ ?_ ?_ ?_ ?_
  · intro j u hj
    cases j with
    | zero => simp at hj; subst hj; simp [Addr.add]
    | succ j => simp at hj
  · intro u hu; simp at hu; subst hu; rfl
  · unfold maxLen; omega
  · omega
  · simp; omega
  · intro v' w' h1 h2 h3
    refine h v' w' ?_ (grownBy_of_alloc h2) (fun e => by have := h3.1 e; simp at this)
    unfold Own
    simpa using h1
end Go.Proofs.YtbbkfjbaocpknaaGreat
end

section
namespace Go.Proofs.YtbbkfjbaocpknaaGreat
open Go.RowKit

theorem ret_two {k l : IntKind} {a b c d : Int} (h1 : a = c) (h2 : b = d) : Ending.returned (.tuple #[.int k a, .int l b]) = .returned (.tuple #[.int k c, .int l d]) := by rw [h1, h2]

set_option maxHeartbeats 400000 in
/-- The product of two words, as two words. -/
theorem mul64_any (a b : Int) (w : World) (ha : 0 ≤ a) (hb : 0 ≤ b) (ha1 : a ≤ 18446744073709551615) (hb1 : b ≤ 18446744073709551615) :
    Calls Tryz.prog 182 #[.int .u64 a, .int .u64 b] w fun e w' => e = .returned (.tuple #[.int .u64 (a * b / 18446744073709551616), .int .u64 (a * b % 18446744073709551616)]) ∧ w = w' := by
  go_enter Tryz.func182, Tryz.ntmps182
  go_wp2
  go_ret2
  refine ⟨ret_two ?_ (wrap_u _), rfl⟩
  simp only [wrap_u]
  rw [and_low32 a ha (by omega), and_low32 b hb (by omega), and_low32 _ (by omega) (by omega)]
  exact mul64_arith a b ha (by omega) hb (by omega)


end Go.Proofs.YtbbkfjbaocpknaaGreat
end

section
namespace Go.Proofs.YtbbkfjbaocpknaaGreat
namespace Kn

/-- What the loop for one half of a quotient has come to: q is not too small, and r is what q leaves of the upper part. -/
def Inv (U v1 Q q r : Int) : Prop := q * v1 + r = U ∧ 0 ≤ r ∧ 0 ≤ q ∧ Q ≤ q

section
variable {U v1 v0 u1 q r : Int}

theorem quot_small (hv0 : 0 ≤ v0) (hv1 : 1 ≤ v1) (hU : U < v1 * 4294967296 + v0) (hu1 : u1 ≤ 4294967295) :
    (U * 4294967296 + u1) / (v1 * 4294967296 + v0) < 4294967296 := by
  refine (Int.ediv_lt_iff_lt_mul (by omega)).2 ?_
  generalize v1 * 4294967296 + v0 = Y at *
  omega

theorem Inv.start (hU : 0 ≤ U) (hv0 : 0 ≤ v0) (hv1 : 1 ≤ v1) (hu0 : 0 ≤ u1) (hu1 : u1 ≤ 4294967295) :
    Inv U v1 ((U * 4294967296 + u1) / (v1 * 4294967296 + v0)) (U / v1) (U % v1) ∧ U % v1 < v1 := by
  have h1 := Int.emod_add_mul_ediv U v1
  have h2 := Int.emod_nonneg U (show v1 ≠ 0 by omega)
  have h3 := Int.emod_lt_of_pos U (show 0 < v1 by omega)
  have h4 : 0 ≤ U / v1 := Int.ediv_nonneg hU (by omega)
  refine ⟨⟨by rw [Int.mul_comm]; omega, h2, h4, ?_⟩, h3⟩
  refine Int.le_ediv_of_mul_le (by omega) ?_
  have h5 := Int.ediv_mul_le (U * 4294967296 + u1) (show v1 * 4294967296 + v0 ≠ 0 by omega)
  have h6 : 0 ≤ (U * 4294967296 + u1) / (v1 * 4294967296 + v0) := Int.ediv_nonneg (by omega) (by omega)
  generalize (U * 4294967296 + u1) / (v1 * 4294967296 + v0) = Q at *
  have h7 : Q * (v1 * 4294967296 + v0) = Q * v1 * 4294967296 + Q * v0 := by grind
  have h8 : 0 ≤ Q * v0 := Int.mul_nonneg h6 hv0
  omega

theorem Inv.le {Q : Int} (hv1 : 1 ≤ v1) (h : Inv U v1 Q q r) : q ≤ U := by
  obtain ⟨h1, h2, h3, h4⟩ := h
  have : q * 1 ≤ q * v1 := Int.mul_le_mul_of_nonneg_left hv1 h3
  omega

theorem Inv.more {Q : Int} (hQ : Q = (U * 4294967296 + u1) / (v1 * 4294967296 + v0)) (hv0 : 0 ≤ v0) (hv1 : 1 ≤ v1) (hU : U < v1 * 4294967296 + v0) (hu1 : u1 ≤ 4294967295) (hU0 : 0 ≤ U) (hu0 : 0 ≤ u1)
    (h : Inv U v1 Q q r) (hc : 4294967296 ≤ q ∨ r * 4294967296 + u1 < q * v0) : Inv U v1 Q (q - 1) (r + v1) ∧ r + v1 ≤ U ∧ 1 ≤ q := by
  obtain ⟨h1, h2, h3, h4⟩ := h
  have hQ0 : 0 ≤ Q := by rw [hQ]; exact Int.ediv_nonneg (by omega) (by omega)
  have hlt : Q < q := by
    rcases hc with hc | hc
    · have := quot_small hv0 hv1 hU hu1; omega
    · rw [hQ]
      refine (Int.ediv_lt_iff_lt_mul (by omega)).2 ?_
      have e : q * (v1 * 4294967296 + v0) = q * v1 * 4294967296 + q * v0 := by grind
      rw [e, ← h1]; omega
  have e1 : (q - 1) * v1 + (r + v1) = U := by rw [Int.sub_mul]; omega
  have e2 : 0 ≤ (q - 1) * v1 := Int.mul_nonneg (by omega) (by omega)
  exact ⟨⟨e1, by omega, by omega, by omega⟩, by omega, by omega⟩

theorem Inv.done {Q : Int} (hQ : Q = (U * 4294967296 + u1) / (v1 * 4294967296 + v0)) (hv0 : 0 ≤ v0) (hv1 : 1 ≤ v1) (h : Inv U v1 Q q r) (hc : q * v0 ≤ r * 4294967296 + u1) : q = Q := by
  obtain ⟨h1, h2, h3, h4⟩ := h
  refine Int.le_antisymm ?_ h4
  rw [hQ]
  refine Int.le_ediv_of_mul_le (by omega) ?_
  have e : q * (v1 * 4294967296 + v0) = q * v1 * 4294967296 + q * v0 := by grind
  rw [e, ← h1]; omega

theorem Inv.over {Q : Int} (hQ : Q = (U * 4294967296 + u1) / (v1 * 4294967296 + v0)) (hv0 : 0 ≤ v0) (hv01 : v0 ≤ 4294967295) (hv1 : 1 ≤ v1) (hU : U < v1 * 4294967296 + v0) (hu0 : 0 ≤ u1)
    (h : Inv U v1 Q q r) (hc : 4294967296 ≤ r) : q = Q := by
  refine h.done hQ hv0 hv1 ?_
  obtain ⟨h1, h2, h3, h4⟩ := h
  have hq : q < 4294967296 := by
    refine Int.lt_of_not_ge fun hge => ?_
    have : 4294967296 * v1 ≤ q * v1 := Int.mul_le_mul_of_nonneg_right hge (by omega)
    omega
  have : q * v0 ≤ 4294967295 * 4294967295 := Int.mul_le_mul (by omega) hv01 hv0 (by omega)
  omega

/-- What is left behind one half. -/
theorem rest_half {Y : Int} (hY : 0 < Y) (hY1 : Y ≤ 18446744073709551615) : ((U * 4294967296 % 18446744073709551616 + u1) % 18446744073709551616 - ((U * 4294967296 + u1) / Y) * Y % 18446744073709551616) % 18446744073709551616 = (U * 4294967296 + u1) % Y := by
  have h1 := Int.emod_add_mul_ediv (U * 4294967296 + u1) Y
  have h2 := Int.emod_nonneg (U * 4294967296 + u1) (show Y ≠ 0 by omega)
  have h3 := Int.emod_lt_of_pos (U * 4294967296 + u1) hY
  rw [Int.mul_comm Y] at h1
  generalize (U * 4294967296 + u1) / Y * Y = A at *
  generalize (U * 4294967296 + u1) % Y = R at *
  omega
end

theorem rest_div {U v : Int} (hU : 0 ≤ U) (hU1 : U ≤ 18446744073709551615) (hv : 1 ≤ v) : (U - (U / v * v) % 18446744073709551616) % 18446744073709551616 = U % v := by
  have h1 := Int.emod_add_mul_ediv U v
  have h2 := Int.emod_nonneg U (show v ≠ 0 by omega)
  have h3 : 0 ≤ U / v * v := Int.mul_nonneg (Int.ediv_nonneg hU (by omega)) (by omega)
  rw [Int.mul_comm v] at h1
  generalize U / v * v = A at *
  generalize U % v = R at *
  omega

/-- Both halves together. -/
theorem both {U u1 u0 Y : Int} (hY : 0 < Y) : (U * 18446744073709551616 + (u1 * 4294967296 + u0)) / Y = (U * 4294967296 + u1) / Y * 4294967296 + ((U * 4294967296 + u1) % Y * 4294967296 + u0) / Y ∧
    (U * 18446744073709551616 + (u1 * 4294967296 + u0)) % Y = ((U * 4294967296 + u1) % Y * 4294967296 + u0) % Y := by
  have h1 := Int.emod_add_mul_ediv (U * 4294967296 + u1) Y
  generalize hQ : (U * 4294967296 + u1) / Y = Q1 at *
  generalize (U * 4294967296 + u1) % Y = R1 at *
  have e : U * 18446744073709551616 + (u1 * 4294967296 + u0) = (R1 * 4294967296 + u0) + Q1 * 4294967296 * Y := by
    have : U * 18446744073709551616 + (u1 * 4294967296 + u0) = (U * 4294967296 + u1) * 4294967296 + u0 := by omega
    rw [this, ← h1]; grind
  rw [e]
  constructor
  · rw [Int.add_mul_ediv_right _ _ (by omega)]; omega
  · exact Int.add_mul_emod_self_right _ _ _

/-- The numbers shifted: K is the power by which they are shifted, J the one by which the lower word's upper bits come down. -/
theorem shifted {hi lo K J : Int} (hK : 0 < K) (hJ : 0 < J) (hKJ : K * J = 18446744073709551616) :
    (hi * 18446744073709551616 + lo) * K = (hi * K + lo / J) * 18446744073709551616 + lo * K % 18446744073709551616 := by
  have h1 := Int.emod_add_mul_ediv lo J
  have h2 := Int.emod_nonneg lo (show J ≠ 0 by omega)
  have h3 := Int.emod_lt_of_pos lo hJ
  have e : lo * K = lo % J * K + (lo / J) * 18446744073709551616 := by
    rw [← hKJ]
    generalize lo / J = a at *
    generalize lo % J = b at *
    rw [← h1]; grind
  have h4 : lo % J * K < 18446744073709551616 := by
    rw [← hKJ, Int.mul_comm K J]; exact Int.mul_lt_mul_of_pos_right h3 hK
  have h5 : 0 ≤ lo % J * K := Int.mul_nonneg h2 (by omega)
  have e2 : lo * K % 18446744073709551616 = lo % J * K := by
    rw [e, Int.add_mul_emod_self_right]; exact Int.emod_eq_of_lt h5 h4
  rw [e2]
  generalize lo % J * K = c at *
  have e3 : (hi * 18446744073709551616 + lo) * K = hi * K * 18446744073709551616 + lo * K := by grind
  rw [e3, e]; omega

theorem unshift {M y K : Int} (hK : 0 < K) : M * K / (y * K) = M / y ∧ M * K % (y * K) / K = M % y := by
  constructor
  · rw [Int.mul_ediv_mul_of_pos_left _ _ hK]
  · rw [Int.mul_comm M K, Int.mul_comm y K, Int.mul_emod_mul_of_pos _ _ hK, Int.mul_ediv_cancel_left _ (by omega)]
end Kn
end Go.Proofs.YtbbkfjbaocpknaaGreat
end

section
namespace Go.Proofs.YtbbkfjbaocpknaaGreat
open Go.RowKit

theorem bitLen_le64 (a : Int) (ha : 0 ≤ a) (ha1 : a ≤ 18446744073709551615) : ((bitLen a.toNat : Nat) : Int) ≤ 64 := by
  have hc := (bitLen_spec a.toNat).2
  by_cases h0 : a.toNat = 0
  · rw [h0]; decide
  · have h := hc h0
    by_cases hlt : bitLen a.toNat ≤ 64
    · omega
    · exfalso
      have h2 : (2 : Nat) ^ 64 ≤ 2 ^ (bitLen a.toNat - 1) := Nat.pow_le_pow_right (by omega) (by omega)
      have h4 := Nat.le_trans h2 h
      have h5 : (2 : Nat) ^ 64 = 18446744073709551616 := rfl
      rw [h5] at h4
      omega

set_option maxHeartbeats 400000 in
theorem lz64_any (a : Int) (w : World) (ha : 0 ≤ a) (ha1 : a ≤ 18446744073709551615) :
    Calls Tryz.prog 203 #[.int .u64 a] w fun e w' => e = .returned (.int .i64 (64 - (bitLen a.toNat : Int))) ∧ w = w' := by
  have hb := bitLen_le64 a ha ha1
  generalize hq : bitLen a.toNat = q at *
  have Hq := hid hq
  clear hq
  go_enter Tryz.func203, Tryz.ntmps203
  go_wp2_with fail
  refine (len64_any a w ha ha1).mono ?_
  rintro e w' ⟨rfl, rfl⟩
  rw [Hq.out]
  go_wp2
  go_ret
  exact ⟨rfl, rfl⟩

set_option maxHeartbeats 400000 in
theorem div64_small (lo y : Int) (w : World) (hl : 0 ≤ lo) (hl1 : lo ≤ 18446744073709551615) (hy : 1 ≤ y) (hy1 : y ≤ 18446744073709551615) :
    Calls Tryz.prog 183 #[.int .u64 0, .int .u64 lo, .int .u64 y] w fun e w' => e = .returned (.tuple #[.int .u64 (lo / y), .int .u64 (lo % y)]) ∧ ∃ n, w' = w.drewN n := by
  go_enter Tryz.func183, Tryz.ntmps183
  go_wp2
  go_quiet (fail)
  go_wp2
  go_ret2
  exact ⟨rfl, _, rfl⟩

/-- The loop for one half. -/
def HalfRel (U v1 v0 u1 : Int) (q r : Value) : Prop :=
  ∃ a b : Int, q = .int .u64 a ∧ r = .int .u64 b ∧ Kn.Inv U v1 ((U * 4294967296 + u1) / (v1 * 4294967296 + v0)) a b ∧ b ≤ 4294967295
/-- What it ends with. -/
def HalfEnd (U v1 v0 u1 : Int) (w : World) (q : Value) (w' : World) : Prop :=
  ∃ a : Int, q = .int .u64 a ∧ Hid (a = (U * 4294967296 + u1) / (v1 * 4294967296 + v0)) ∧ 0 ≤ a ∧ a ≤ 4294967295 ∧ w = w'

theorem half_lt {U v1 v0 u1 q r : Int} (h : Kn.Inv U v1 ((U * 4294967296 + u1) / (v1 * 4294967296 + v0)) q r) (hv0 : 0 ≤ v0) (_hv01 : v0 ≤ 4294967295) (hv1 : 1 ≤ v1) (hU : U < v1 * 4294967296 + v0) (_hu0 : 0 ≤ u1) (hu1 : u1 ≤ 4294967295) (_hU0 : 0 ≤ U)
    (hq : q = (U * 4294967296 + u1) / (v1 * 4294967296 + v0)) : q ≤ 4294967295 := by
  have := Kn.quot_small hv0 hv1 hU hu1
  have := h.2.2.1
  omega

set_option maxHeartbeats 1000000 in
theorem div64_core (hi lo y Y v1 v0 U L u1 u0 : Int) (n : Nat) (w : World) (hh : 1 ≤ hi) (hhy : hi < y) (_hl : 0 ≤ lo) (_hl1 : lo ≤ 18446744073709551615) (hy1 : y ≤ 9223372036854775807)
    (Hs : Hid (bitLen y.toNat = n)) (hn : n ≤ 63)
    (hY : IntKind.u64.wrap (y * 2 ^ (64 - n)) = Y) (hY0 : 0 ≤ Y) (hY1 : Y ≤ 18446744073709551615)
    (hv1 : Y / 4294967296 = v1) (hv0 : bits .and .u64 Y 4294967295 = v0)
    (hU : bits .or .u64 (IntKind.u64.wrap (hi * 2 ^ (64 - n))) (lo / 2 ^ (64 - (64 - n))) = U) (hL : IntKind.u64.wrap (lo * 2 ^ (64 - n)) = L)
    (hu1 : L / 4294967296 = u1) (hu0 : bits .and .u64 L 4294967295 = u0)
    (bU : 0 ≤ U) (bU1 : U ≤ 18446744073709551615) (bv1 : 1 ≤ v1) (bv11 : v1 ≤ 4294967295) (bv0 : 0 ≤ v0) (bv01 : v0 ≤ 4294967295) (bu1 : 0 ≤ u1) (bu11 : u1 ≤ 4294967295) (bu0 : 0 ≤ u0) (bu01 : u0 ≤ 4294967295)
    (hUY : Hid (U < v1 * 4294967296 + v0)) (hYv : Hid (v1 * 4294967296 + v0 = Y))
    (hyY : Hid (y * 2 ^ (64 - n) = Y)) (hN : Hid ((hi * 18446744073709551616 + lo) * 2 ^ (64 - n) = U * 18446744073709551616 + (u1 * 4294967296 + u0))) :
    Calls Tryz.prog 183 #[.int .u64 hi, .int .u64 lo, .int .u64 y] w fun e w' => e = .returned (.tuple #[.int .u64 ((hi * 18446744073709551616 + lo) / y), .int .u64 ((hi * 18446744073709551616 + lo) % y)]) ∧ w = w' := by
  go_enter Tryz.func183, Tryz.ntmps183
  go_wp2_with fail
  refine (lz64_any y w (by omega) (by omega)).mono ?_
  rintro e w' ⟨rfl, rfl⟩
  rw [Hs.out]
  go_upto_block 0 with (fail)
  go_cut [15, 16] (fun q _ wx => HalfEnd U v1 v0 u1 w q wx)
  case first =>
    go_wp2_with fail
    go_loop [15, 16] (fun q r => HalfRel U v1 v0 u1 q r) (fun q _ => (intOf q).toNat)
    case atStart =>
      obtain ⟨s1, s2⟩ := Kn.Inv.start (u1 := u1) bU bv0 bv1 bu1 bu11
      exact ⟨_, _, rfl, by rw [wrap_u, wrap_u, Kn.rest_div bU bU1 bv1], s1, by omega⟩
    case round =>
      obtain ⟨a, b, rfl, rfl, hinv, hb⟩ := hrel
      have ha0 := hinv.2.2.1
      have hb0 := hinv.2.1
      have hau := hinv.le bv1
      by_cases hgo : 4294967296 ≤ a ∨ b * 4294967296 + u1 < a * v0
      · obtain ⟨hi2, hbU, ha1⟩ := hinv.more rfl bv0 bv1 hUY.out bu11 bU bu1 hgo
        have H2 := hid hi2
        have Hm : Hid (Kn.Inv U v1 _ a b) := hinv
        clear hinv hi2
        by_cases h1 : 4294967296 ≤ a
        rotate_left
        · have hm : 0 ≤ a * v0 ∧ a * v0 ≤ 18446744065119617025 := prod_bound a v0 ha0 (by omega) bv0 bv01
          have h2 : b * 4294967296 + u1 < a * v0 := by omega
          clear hgo
          by_cases h3 : 4294967296 ≤ b + v1
          · go_wp2_with fail
            go_meet
            case rel => exact ⟨_, rfl, H2.out.over rfl bv0 bv01 bv1 hUY.out bu1 h3, by omega, half_lt H2.out bv0 bv01 bv1 hUY.out bu1 bu11 bU (H2.out.over rfl bv0 bv01 bv1 hUY.out bu1 h3), rfl⟩
          · go_wp2_with fail
            go_round
            case rel => exact ⟨_, _, rfl, rfl, H2.out, by omega⟩
            case measure => simp [intOf]; omega
        · clear hgo
          by_cases h3 : 4294967296 ≤ b + v1
          · go_wp2_with fail
            go_meet
            case rel => exact ⟨_, rfl, H2.out.over rfl bv0 bv01 bv1 hUY.out bu1 h3, by omega, half_lt H2.out bv0 bv01 bv1 hUY.out bu1 bu11 bU (H2.out.over rfl bv0 bv01 bv1 hUY.out bu1 h3), rfl⟩
          · go_wp2_with fail
            go_round
            case rel => exact ⟨_, _, rfl, rfl, H2.out, by omega⟩
            case measure => simp [intOf]; omega
      · have ha1 : a ≤ 4294967295 := by omega
        have h2 : a * v0 ≤ b * 4294967296 + u1 := by omega
        have hm : 0 ≤ a * v0 ∧ a * v0 ≤ 18446744065119617025 := prod_bound a v0 ha0 (by omega) bv0 bv01
        have Hm : Hid (a = (U * 4294967296 + u1) / (v1 * 4294967296 + v0)) := hinv.done rfl bv0 bv1 h2
        clear hgo hinv
        go_wp2_with fail
        go_meet
        case rel => exact ⟨_, rfl, Hm, by omega, by omega, rfl⟩
  case rest =>
    obtain ⟨q1, rfl, hq1, bq1, bq11, rfl⟩ := hcut
    obtain ⟨R, hR⟩ : ∃ R, IntKind.u64.wrap (IntKind.u64.wrap (IntKind.u64.wrap (U * 4294967296) + u1) - IntKind.u64.wrap (q1 * Y)) = R := ⟨_, rfl⟩
    have hRe : R = (U * 4294967296 + u1) % Y := by
      rw [← hR, wrap_u, wrap_u, wrap_u, wrap_u, hq1.out, hYv.out]
      exact Kn.rest_half (by omega) hY1
    have HRe := hid hRe
    have bUR : 0 ≤ R := by rw [hRe]; exact Int.emod_nonneg _ (by omega)
    have bURY : R < Y := by rw [hRe]; exact Int.emod_lt_of_pos _ (by omega)
    have hURY : Hid (R < v1 * 4294967296 + v0) := by rw [hYv.out]; exact bURY
    have bUR1 : R ≤ 18446744073709551615 := by omega
    clear hRe
    go_upto_block 2 with (fail)
    go_cut [18, 16] (fun q _ wx => HalfEnd R v1 v0 u0 w q wx)
    case first =>
      go_wp2_with fail
      go_loop [18, 16] (fun q r => HalfRel R v1 v0 u0 q r) (fun q _ => (intOf q).toNat)
      case atStart =>
        obtain ⟨s1, s2⟩ := Kn.Inv.start (u1 := u0) bUR bv0 bv1 bu0 bu01
        exact ⟨_, _, rfl, by rw [wrap_u, wrap_u, Kn.rest_div bUR bUR1 bv1], s1, by omega⟩
      case round =>
        obtain ⟨a, b, rfl, rfl, hinv, hb⟩ := hrel
        have ha0 := hinv.2.2.1
        have hb0 := hinv.2.1
        have hau := hinv.le bv1
        by_cases hgo : 4294967296 ≤ a ∨ b * 4294967296 + u0 < a * v0
        · obtain ⟨hi2, hbU, ha1⟩ := hinv.more rfl bv0 bv1 hURY.out bu01 bUR bu0 hgo
          have H2 := hid hi2
          have Hm : Hid (Kn.Inv R v1 _ a b) := hinv
          clear hinv hi2
          by_cases h1 : 4294967296 ≤ a
          rotate_left
          · have hm : 0 ≤ a * v0 ∧ a * v0 ≤ 18446744065119617025 := prod_bound a v0 ha0 (by omega) bv0 bv01
            have h2 : b * 4294967296 + u0 < a * v0 := by omega
            clear hgo
            by_cases h3 : 4294967296 ≤ b + v1
            · go_wp2_with fail
              go_meet
              case rel => exact ⟨_, rfl, H2.out.over rfl bv0 bv01 bv1 hURY.out bu0 h3, by omega, half_lt H2.out bv0 bv01 bv1 hURY.out bu0 bu01 bUR (H2.out.over rfl bv0 bv01 bv1 hURY.out bu0 h3), rfl⟩
            · go_wp2_with fail
              go_round
              case rel => exact ⟨_, _, rfl, rfl, H2.out, by omega⟩
              case measure => simp [intOf]; omega
          · clear hgo
            by_cases h3 : 4294967296 ≤ b + v1
            · go_wp2_with fail
              go_meet
              case rel => exact ⟨_, rfl, H2.out.over rfl bv0 bv01 bv1 hURY.out bu0 h3, by omega, half_lt H2.out bv0 bv01 bv1 hURY.out bu0 bu01 bUR (H2.out.over rfl bv0 bv01 bv1 hURY.out bu0 h3), rfl⟩
            · go_wp2_with fail
              go_round
              case rel => exact ⟨_, _, rfl, rfl, H2.out, by omega⟩
              case measure => simp [intOf]; omega
        · have ha1 : a ≤ 4294967295 := by omega
          have h2 : a * v0 ≤ b * 4294967296 + u0 := by omega
          have hm : 0 ≤ a * v0 ∧ a * v0 ≤ 18446744065119617025 := prod_bound a v0 ha0 (by omega) bv0 bv01
          have Hm : Hid (a = (R * 4294967296 + u0) / (v1 * 4294967296 + v0)) := hinv.done rfl bv0 bv1 h2
          clear hgo hinv
          go_wp2_with fail
          go_meet
          case rel => exact ⟨_, rfl, Hm, by omega, by omega, rfl⟩
    case rest =>
      obtain ⟨q0, rfl, hq0, bq0, bq01, rfl⟩ := hcut
      go_wp2_with fail
      go_ret2
      have hp : (0 : Int) < 2 ^ (64 - n) := Int.pow_pos (by omega)
      obtain ⟨c1, c2⟩ := Kn.both (U := U) (u1 := u1) (u0 := u0) (show 0 < Y by omega)
      obtain ⟨c3, c4⟩ := Kn.unshift (M := hi * 18446744073709551616 + lo) (y := y) hp
      rw [hN.out, hyY.out] at c3 c4
      refine ⟨ret_two ?_ ?_, rfl⟩
      · rw [← c3, c1, hq1.out, hq0.out, hYv.out, HRe.out]
      · rw [← c4, c2, wrap_u, wrap_u, wrap_u, wrap_u, hq0.out, hYv.out, Kn.rest_half (by omega) hY1, HRe.out]

theorem or_sum (a b : Int) (t : Nat) (ha : 0 ≤ a) (hb : 0 ≤ b) (hbt : b < 2 ^ t) (h : a * 2 ^ t + b ≤ 18446744073709551615) : bits .or .u64 (a * 2 ^ t) b = a * 2 ^ t + b := by
  obtain ⟨x, rfl⟩ := Int.eq_ofNat_of_zero_le ha
  obtain ⟨y, rfl⟩ := Int.eq_ofNat_of_zero_le hb
  have e : (x : Int) * 2 ^ t = ((2 ^ t * x : Nat) : Int) := by rw [Nat.mul_comm, Int.natCast_mul]; simp
  rw [e] at h ⊢
  have hy : y < 2 ^ t := by
    have : ((y : Nat) : Int) < ((2 ^ t : Nat) : Int) := by simpa using hbt
    omega
  rw [u64_or_nat _ _ (by omega) (by omega), ← Nat.two_pow_add_eq_or_of_lt hy]
  omega

/-- The quotient and the rest of a number of two words by a count that is greater than the upper one. -/
theorem div64_great (hi lo y : Int) (w : World) (hh : 1 ≤ hi) (hhy : hi < y) (hl : 0 ≤ lo) (hl1 : lo ≤ 18446744073709551615) (hy1 : y ≤ 9223372036854775807) :
    Calls Tryz.prog 183 #[.int .u64 hi, .int .u64 lo, .int .u64 y] w fun e w' => e = .returned (.tuple #[.int .u64 ((hi * 18446744073709551616 + lo) / y), .int .u64 ((hi * 18446744073709551616 + lo) % y)]) ∧ w = w' := by
  obtain ⟨n, hn⟩ : ∃ n : Nat, bitLen y.toNat = n := ⟨_, rfl⟩
  obtain ⟨hs1, hs2⟩ := bitLen_spec y.toNat
  rw [hn] at hs1 hs2
  have hs3 := hs2 (by omega)
  clear hs2
  have hn63 : n ≤ 63 := by
    refine Nat.le_of_not_lt fun hlt => ?_
    have h2 : (2 : Nat) ^ 63 ≤ 2 ^ (n - 1) := Nat.pow_le_pow_right (by omega) (by omega)
    have h5 : (2 : Nat) ^ 63 = 9223372036854775808 := rfl
    rw [h5] at h2
    omega
  have hn1 : 1 ≤ n := by
    refine Nat.pos_of_ne_zero fun e => ?_
    subst e
    simp at hs1
    omega
  obtain ⟨K, hK⟩ : ∃ K : Int, (2 : Int) ^ (64 - n) = K := ⟨_, rfl⟩
  obtain ⟨J, hJ⟩ : ∃ J : Int, (2 : Int) ^ n = J := ⟨_, rfl⟩
  obtain ⟨J2, hJ2⟩ : ∃ J2 : Int, (2 : Int) ^ (n - 1) = J2 := ⟨_, rfl⟩
  have hK0 : 0 < K := by rw [← hK]; exact Int.pow_pos (by omega)
  have hJ0 : 0 < J := by rw [← hJ]; exact Int.pow_pos (by omega)
  have hKJ : K * J = 18446744073709551616 := by
    rw [← hK, ← hJ, ← Int.pow_add, show 64 - n + n = 64 by omega]; rfl
  have hJJ : J = 2 * J2 := by
    rw [← hJ, ← hJ2, ← Int.pow_succ', show n - 1 + 1 = n by omega]
  have hyJ : y < J := by
    have : ((y.toNat : Nat) : Int) < ((2 ^ n : Nat) : Int) := by omega
    rw [← hJ]; simp at this; omega
  have hyJ2 : J2 ≤ y := by
    have : ((2 ^ (n - 1) : Nat) : Int) ≤ ((y.toNat : Nat) : Int) := by omega
    rw [← hJ2]; simp at this; omega
  have hY0 : 9223372036854775808 ≤ y * K := by
    have h1 : J2 * K ≤ y * K := Int.mul_le_mul_of_nonneg_right hyJ2 (by omega)
    have h2 : K * J = 2 * (J2 * K) := by rw [hJJ]; grind
    omega
  have hY1 : y * K < 18446744073709551616 := by
    have h1 : y * K < J * K := Int.mul_lt_mul_of_pos_right hyJ hK0
    rw [Int.mul_comm J K] at h1; omega
  have hhi0 : 0 ≤ hi * K := Int.mul_nonneg (by omega) (by omega)
  have hhi1 : hi * K < y * K := Int.mul_lt_mul_of_pos_right hhy hK0
  have hhi2 : hi * K + K ≤ y * K := by
    have h1 : (hi + 1) * K ≤ y * K := Int.mul_le_mul_of_nonneg_right (by omega) (by omega)
    rw [Int.add_mul, Int.one_mul] at h1; exact h1
  have hlJ : 0 ≤ lo / J := Int.ediv_nonneg hl (by omega)
  have hlK : lo / J < K := (Int.ediv_lt_iff_lt_mul hJ0).2 (by omega)
  have hsh := Kn.shifted (hi := hi) (lo := lo) hK0 hJ0 hKJ
  obtain ⟨Y, hY⟩ : ∃ Y, y * K = Y := ⟨_, rfl⟩
  obtain ⟨L, hL⟩ : ∃ L, lo * K % 18446744073709551616 = L := ⟨_, rfl⟩
  have hL0 : 0 ≤ L := by rw [← hL]; omega
  have hL1 : L < 18446744073709551616 := by rw [← hL]; omega
  rw [hL] at hsh
  rw [hY] at hY0 hY1 hhi1 hhi2
  have eU : bits .or .u64 (IntKind.u64.wrap (hi * 2 ^ (64 - n))) (lo / 2 ^ (64 - (64 - n))) = hi * K + lo / J := by
    rw [wrap_u, hK, Int.emod_eq_of_lt hhi0 (by omega), show 64 - (64 - n) = n by omega, hJ]
    have := or_sum hi (lo / J) (64 - n) (by omega) hlJ (by rw [hK]; exact hlK) (by rw [hK]; omega)
    rw [hK] at this; exact this
  have hv0 := and_low32 Y (by omega) (by omega)
  have hu0 := and_low32 L hL0 hL1
  refine div64_core hi lo y Y (Y / 4294967296) (Y % 4294967296) (hi * K + lo / J) L (L / 4294967296) (L % 4294967296) n w hh hhy hl hl1 hy1 hn hn63
    (by rw [wrap_u, hK, hY]; omega) (by omega) (by omega) rfl hv0 eU (by rw [wrap_u, hK]; exact hL) rfl hu0 (by omega) (by omega) (by omega) (by omega) (by omega) (by omega) (by omega) (by omega) (by omega) (by omega)
    (by show _ < _; omega) (by show _ = _; omega) (by show _ = _; rw [hK]; exact hY) (by show _ = _; rw [hK, hsh]; omega)
end Go.Proofs.YtbbkfjbaocpknaaGreat
end

section
namespace Go.Proofs.YtbbkfjbaocpknaaGreat
open Go.RowKit

namespace Rk
def isCount (n : Int) : Bool := decide (0 ≤ n ∧ n ≤ 9223372036854775807)
def addOk (a b : Int) : Bool := decide (0 ≤ a ∧ 0 ≤ b ∧ a + b ≤ 9223372036854775807)
def addV (a b : Int) : Int := if addOk a b then a + b else 0
def subOk (a b : Int) : Bool := decide (0 ≤ a ∧ 0 ≤ b ∧ b ≤ a)
def subV (a b : Int) : Int := if subOk a b then a - b else 0
def mulOk (a b : Int) : Bool := decide (0 ≤ a ∧ 0 ≤ b ∧ a * b ≤ 9223372036854775807)
def mulV (a b : Int) : Int := if mulOk a b then a * b else 0
def divOk (a b : Int) : Bool := decide (0 ≤ a ∧ 1 ≤ b)
def divV (a b : Int) : Int := if divOk a b then a / b else 0
def upV (a b : Int) : Int := if divOk a b then (if 0 < a % b then a / b + 1 else a / b) else 0
end Rk
open Rk



set_option maxHeartbeats 400000 in
theorem div_any (a b : Int) (w : World) (_ha : -9223372036854775808 ≤ a) (_ha1 : a ≤ 9223372036854775807) (_hb : -9223372036854775808 ≤ b) (_hb1 : b ≤ 9223372036854775807) :
    Calls Tryz.prog 187 #[.int .i64 a, .int .i64 b] w fun e w' => e = .returned (.tuple #[.int .i64 (divV a b), .bool (divOk a b)]) ∧ w = w' := by
  by_cases h1 : 0 ≤ a <;> by_cases h2 : 1 ≤ b
  all_goals
    go_enter Tryz.func187, Tryz.ntmps187
    go_wp2
    go_ret2
    refine ⟨ret_ib ?_ ?_, rfl⟩
    all_goals (simp [divV, divOk] <;> omega)

namespace Rk
def capV (n : Int) : Int := if n ≤ 9223372036854775807 then n else 0
def capOk (n : Int) : Bool := decide (n ≤ 9223372036854775807)
theorem mul_cap {a b : Int} (h1 : 0 ≤ a) (h2 : 0 ≤ b) : mulV a b = capV (a * b) ∧ mulOk a b = capOk (a * b) := by
  unfold mulV mulOk capV capOk
  by_cases h : a * b ≤ 9223372036854775807 <;> simp [h1, h2, h]
end Rk

set_option maxHeartbeats 400000 in
theorem count_any (n : Int) (w : World) (_h0 : 0 ≤ n) (_h1 : n ≤ 18446744073709551615) :
    Calls Tryz.prog 144 #[.int .u64 n] w fun e w' => e = .returned (.tuple #[.int .i64 (capV n), .bool (capOk n)]) ∧ w = w' := by
  by_cases h : n ≤ 9223372036854775807
  all_goals
    go_enter Tryz.func144, Tryz.ntmps144
    go_wp2
    go_ret2
    refine ⟨ret_ib ?_ ?_, rfl⟩
    all_goals (simp [capV, capOk] <;> omega)

end Go.Proofs.YtbbkfjbaocpknaaGreat
end

section
namespace Go.Proofs.YtbbkfjbaocpknaaGreat
open Go.RowKit Rk

/-- Nothing has turned but a count of draws. -/
def Drawn (w w' : World) : Prop := ∃ n, w' = w.drewN n
theorem Drawn.refl (w : World) : Drawn w w := ⟨0, rfl⟩

theorem div64_any (hi lo y : Int) (w : World) (hh : 0 ≤ hi) (hhy : hi < y) (hl : 0 ≤ lo) (hl1 : lo ≤ 18446744073709551615) (hy1 : y ≤ 9223372036854775807) :
    Calls Tryz.prog 183 #[.int .u64 hi, .int .u64 lo, .int .u64 y] w fun e w' => e = .returned (.tuple #[.int .u64 ((hi * 18446744073709551616 + lo) / y), .int .u64 ((hi * 18446744073709551616 + lo) % y)]) ∧ Drawn w w' := by
  by_cases h : hi = 0
  · subst h
    refine (div64_small lo y w hl hl1 (by omega) (by omega)).mono ?_
    rintro e w' ⟨rfl, hd⟩
    exact ⟨by simp, hd⟩
  · refine (div64_great hi lo y w (by omega) hhy hl hl1 hy1).mono ?_
    rintro e w' ⟨rfl, rfl⟩
    exact ⟨rfl, Drawn.refl _⟩

theorem ret_uub {a b c d : Int} {x y : Bool} (h1 : a = c) (h2 : b = d) (h3 : x = y) : Ending.returned (.tuple #[.int .u64 a, .int .u64 b, .bool x]) = .returned (.tuple #[.int .u64 c, .int .u64 d, .bool y]) := by rw [h1, h2, h3]

set_option maxHeartbeats 400000 in
theorem share_no (n num den : Int) (w : World) (_hn : -9223372036854775808 ≤ n) (_hn1 : n ≤ 9223372036854775807) (_hm : -9223372036854775808 ≤ num) (_hm1 : num ≤ 9223372036854775807) (_hd : -9223372036854775808 ≤ den) (_hd1 : den ≤ 9223372036854775807)
    (h : ¬ (0 ≤ n ∧ 0 ≤ num ∧ 1 ≤ den)) :
    Calls Tryz.prog 143 #[.int .i64 n, .int .i64 num, .int .i64 den] w fun e w' => e = .returned (.tuple #[.int .u64 0, .int .u64 0, .bool false]) ∧ w = w' := by
  by_cases h1 : 0 ≤ n <;> by_cases h2 : 0 ≤ num <;> by_cases h3 : 1 ≤ den
  · exact absurd ⟨h1, h2, h3⟩ h
  all_goals
    clear h
    go_enter Tryz.func143, Tryz.ntmps143
    go_wp2
    go_ret3
    exact ⟨rfl, rfl⟩

set_option maxHeartbeats 400000 in
theorem share_far (n num den N : Int) (w : World) (hn : 0 ≤ n) (hn1 : n ≤ 9223372036854775807) (hm : 0 ≤ num) (hm1 : num ≤ 9223372036854775807) (hd : 1 ≤ den) (hd1 : den ≤ 9223372036854775807)
    (hN : Hid (n * num = N)) (h : den ≤ N / 18446744073709551616) :
    Calls Tryz.prog 143 #[.int .i64 n, .int .i64 num, .int .i64 den] w fun e w' => e = .returned (.tuple #[.int .u64 0, .int .u64 0, .bool false]) ∧ w = w' := by
  go_enter Tryz.func143, Tryz.ntmps143
  go_wp2_with (go_at_call 181; go_in)
  refine (mul64_any _ _ _ hn hm (by omega) (by omega)).mono ?_
  rintro e w' ⟨rfl, rfl⟩
  rw [hN.out]
  go_wp2_with fail
  go_ret3
  exact ⟨rfl, rfl⟩

set_option maxHeartbeats 400000 in
theorem share_yes (n num den N : Int) (w : World) (hn : 0 ≤ n) (hn1 : n ≤ 9223372036854775807) (hm : 0 ≤ num) (hm1 : num ≤ 9223372036854775807) (hd : 1 ≤ den) (hd1 : den ≤ 9223372036854775807)
    (hN : Hid (n * num = N)) (h0 : 0 ≤ N) (h : N / 18446744073709551616 < den) :
    Calls Tryz.prog 143 #[.int .i64 n, .int .i64 num, .int .i64 den] w fun e w' => e = .returned (.tuple #[.int .u64 (N / den), .int .u64 (N % den), .bool true]) ∧ Drawn w w' := by
  obtain ⟨hi, ehi⟩ : ∃ hi, N / 18446744073709551616 = hi := ⟨_, rfl⟩
  obtain ⟨lo, elo⟩ : ∃ lo, N % 18446744073709551616 = lo := ⟨_, rfl⟩
  have hh : 0 ≤ hi := by omega
  have hl : 0 ≤ lo := by omega
  have hl1 : lo ≤ 18446744073709551615 := by omega
  rw [ehi] at h
  have e : hi * 18446744073709551616 + lo = N := by omega
  have E := hid e
  have Ehi := hid ehi
  have Elo := hid elo
  clear e ehi elo
  go_enter Tryz.func143, Tryz.ntmps143
  go_wp2_with (go_at_call 181; go_in)
  refine (mul64_any _ _ _ hn hm (by omega) (by omega)).mono ?_
  rintro e w' ⟨rfl, rfl⟩
  rw [hN.out, Ehi.out, Elo.out]
  go_wp2_with fail
  refine (div64_any _ _ _ _ hh h hl hl1 hd1).mono ?_
  rintro e w' ⟨rfl, k, rfl⟩
  rw [E.out]
  go_wp2_with fail
  go_ret3
  exact ⟨rfl, k, rfl⟩
end Go.Proofs.YtbbkfjbaocpknaaGreat
end

section
namespace Go.Proofs.YtbbkfjbaocpknaaGreat
namespace Rk

/-- The number of a list of digits, the lowest first. -/
def val : List Int → Int
  | [] => 0
  | x :: r => x + 1000 * val r

/-- All are digits. -/
def Dig (xs : List Int) : Prop := ∀ x, x ∈ xs → 0 ≤ x ∧ x ≤ 999

theorem Dig.nil : Dig [] := by intro x h; cases h
theorem Dig.cons {x : Int} {r : List Int} (hx : 0 ≤ x ∧ x ≤ 999) (h : Dig r) : Dig (x :: r) := by
  intro y hy; cases hy with
  | head => exact hx
  | tail _ hm => exact h y hm
theorem Dig.head {x : Int} {r : List Int} (h : Dig (x :: r)) : 0 ≤ x ∧ x ≤ 999 := h x (by simp)
theorem Dig.tail {x : Int} {r : List Int} (h : Dig (x :: r)) : Dig r := fun y hy => h y (by simp [hy])
theorem Dig.snoc {xs : List Int} {c : Int} (h : Dig xs) (hc : 0 ≤ c ∧ c ≤ 999) : Dig (xs ++ [c]) := by
  intro y hy
  rcases List.mem_append.1 hy with hy | hy
  · exact h y hy
  · simp at hy; subst hy; exact hc
theorem Dig.drop {xs : List Int} (h : Dig xs) (i : Nat) : Dig (xs.drop i) := fun y hy => h y (List.mem_of_mem_drop hy)
theorem Dig.getD {xs : List Int} (h : Dig xs) (i : Nat) : 0 ≤ xs.getD i 0 ∧ xs.getD i 0 ≤ 999 := by
  by_cases hi : i < xs.length
  · have : xs.getD i 0 = xs[i] := by simp [List.getD, List.getElem?_eq_getElem hi]
    rw [this]; exact h _ (List.getElem_mem hi)
  · have : xs.getD i 0 = 0 := by simp [List.getD, List.getElem?_eq_none (Nat.le_of_not_lt hi)]
    rw [this]; omega

/-- 1000 to the power k. -/
def pw : Nat → Int
  | 0 => 1
  | k + 1 => 1000 * pw k
theorem pw_pos (k : Nat) : 1 ≤ pw k := by
  induction k with
  | zero => simp [pw]
  | succ k ih => simp only [pw]; omega
theorem pw_succ (k : Nat) : pw (k + 1) = 1000 * pw k := rfl
theorem pw_mono {a b : Nat} (h : a ≤ b) : pw a ≤ pw b := by
  induction b with
  | zero => have : a = 0 := by omega
            subst this; exact Int.le_refl _
  | succ b ih =>
    by_cases e : a = b + 1
    · subst e; exact Int.le_refl _
    · have := ih (by omega); have := pw_pos b; rw [pw_succ]; omega

theorem val_snoc (xs : List Int) (c : Int) : val (xs ++ [c]) = val xs + pw xs.length * c := by
  induction xs with
  | nil => simp [val, pw]
  | cons x r ih =>
    simp only [List.cons_append, val, ih, List.length_cons, pw_succ]
    grind

theorem val_bd {xs : List Int} (h : Dig xs) : 0 ≤ val xs ∧ val xs < pw xs.length := by
  induction xs with
  | nil => simp [val, pw]
  | cons x r ih =>
    have h1 := h.head; have h2 := ih h.tail
    simp only [val, List.length_cons, pw_succ]
    omega

theorem val_drop (xs : List Int) (i : Nat) : val (xs.drop i) = xs.getD i 0 + 1000 * val (xs.drop (i + 1)) := by
  induction xs generalizing i with
  | nil => simp [val]
  | cons x r ih =>
    cases i with
    | zero => simp [val]
    | succ i => simpa using ih i

theorem val_cut (xs : List Int) (i : Nat) : val xs = val (xs.take i) + pw (xs.take i).length * val (xs.drop i) := by
  induction xs generalizing i with
  | nil => simp [val]
  | cons x r ih =>
    cases i with
    | zero => simp [val, pw]
    | succ i =>
      simp only [List.take_succ_cons, List.drop_succ_cons, val, List.length_cons, pw_succ]
      rw [ih i]; grind

theorem Dig.take {xs : List Int} (h : Dig xs) (i : Nat) : Dig (xs.take i) := fun y hy => h y (List.mem_of_mem_take hy)

theorem val_drop_len (xs : List Int) (i : Nat) (h : xs.length ≤ i) : val (xs.drop i) = 0 := by
  rw [List.drop_eq_nil_of_le h]; rfl

/-- val of what is cut off at i, whatever the length. -/
theorem val_cut_any {xs : List Int} (h : Dig xs) (i : Nat) : ∃ lo, 0 ≤ lo ∧ lo < pw i ∧ val xs = lo + pw i * val (xs.drop i) := by
  by_cases hi : i ≤ xs.length
  · refine ⟨val (xs.take i), (val_bd (h.take i)).1, ?_, ?_⟩
    · have := (val_bd (h.take i)).2
      rw [List.length_take, Nat.min_eq_left hi] at this; exact this
    · have := val_cut xs i
      rw [List.length_take, Nat.min_eq_left hi] at this; exact this
  · refine ⟨val xs, (val_bd h).1, ?_, ?_⟩
    · have := (val_bd h).2; have := pw_mono (a := xs.length) (b := i) (by omega); omega
    · rw [val_drop_len xs i (by omega)]; simp

theorem lt_of_drop_lt {xs ys : List Int} (hx : Dig xs) (hy : Dig ys) (i : Nat) (h : val (xs.drop i) < val (ys.drop i)) : val xs < val ys := by
  obtain ⟨a, a0, a1, ea⟩ := val_cut_any hx i
  obtain ⟨b, b0, b1, eb⟩ := val_cut_any hy i
  rw [ea, eb]
  have : pw i * val (xs.drop i) + pw i ≤ pw i * val (ys.drop i) := by
    have h1 : val (xs.drop i) + 1 ≤ val (ys.drop i) := by omega
    have := Int.mul_le_mul_of_nonneg_left h1 (show 0 ≤ pw i from by have := pw_pos i; omega)
    rw [Int.mul_add, Int.mul_one] at this; exact this
  omega

/-- Which is greater: -1, 0, 1. -/
def sgn (a b : Int) : Int := if a < b then -1 else if b < a then 1 else 0

/-- One digit more, of what is left. -/
theorem step_digits {xs : List Int} {m n : Int} (hd : Dig xs) (hm : 0 < m) (h : val xs + pw xs.length * m = n) :
    Dig (xs ++ [m % 1000]) ∧ val (xs ++ [m % 1000]) + pw (xs ++ [m % 1000]).length * (m / 1000) = n ∧ pw ((xs ++ [m % 1000]).length - 1) ≤ n ∧ 0 ≤ m / 1000 ∧ m / 1000 < m ∧ m ≤ n := by
  have h0 := (val_bd hd).1
  have hp := pw_pos xs.length
  have hle : pw xs.length * 1 ≤ pw xs.length * m := Int.mul_le_mul_of_nonneg_left (by omega) (by omega)
  have hle2 : 1 * m ≤ pw xs.length * m := Int.mul_le_mul_of_nonneg_right (by omega) (by omega)
  refine ⟨hd.snoc ⟨by omega, by omega⟩, ?_, ?_, by omega, by omega, by omega⟩
  · rw [val_snoc, List.length_append]
    simp only [List.length_cons, List.length_nil, pw_succ, Nat.zero_add]
    have e : m = m % 1000 + 1000 * (m / 1000) := by omega
    rw [← h]
    generalize m % 1000 = r at *
    generalize m / 1000 = q at *
    subst e
    grind
  · simp only [List.length_append, List.length_cons, List.length_nil, Nat.zero_add, Nat.add_sub_cancel]; omega

theorem len_digits {xs : List Int} {n : Int} (hn : n ≤ 9223372036854775807) (h : xs ≠ [] → pw (xs.length - 1) ≤ n) : xs.length ≤ 7 := by
  by_cases hx : xs = []
  · subst hx; simp
  · have h1 := h hx
    refine Nat.le_of_not_lt fun hlt => ?_
    have := pw_mono (a := 7) (b := xs.length - 1) (by omega)
    have h7 : pw 7 = 1000000000000000000000 := by decide
    omega

/-- One digit of a sum. -/
theorem step_sum {xs ys zs : List Int} {c n : Int} {k : Nat} (hx : Dig xs) (hy : Dig ys) (hz : Dig zs) (hk : zs.length = k) (hc : 0 ≤ c ∧ c ≤ 1)
    (h : val zs + pw k * (c + val (xs.drop k) + val (ys.drop k)) = n) :
    Dig (zs ++ [(c + xs.getD k 0 + ys.getD k 0) % 1000]) ∧ 0 ≤ (c + xs.getD k 0 + ys.getD k 0) / 1000 ∧ (c + xs.getD k 0 + ys.getD k 0) / 1000 ≤ 1 ∧
    val (zs ++ [(c + xs.getD k 0 + ys.getD k 0) % 1000]) + pw (k + 1) * ((c + xs.getD k 0 + ys.getD k 0) / 1000 + val (xs.drop (k + 1)) + val (ys.drop (k + 1))) = n := by
  have h1 := hx.getD k
  have h2 := hy.getD k
  rw [val_drop xs k, val_drop ys k] at h
  generalize xs.getD k 0 = a at *
  generalize ys.getD k 0 = b at *
  generalize val (xs.drop (k + 1)) = u at *
  generalize val (ys.drop (k + 1)) = v at *
  refine ⟨hz.snoc ⟨by omega, by omega⟩, by omega, by omega, ?_⟩
  rw [val_snoc, hk, pw_succ]
  have e : c + a + b = (c + a + b) % 1000 + 1000 * ((c + a + b) / 1000) := by omega
  generalize (c + a + b) % 1000 = r at *
  generalize (c + a + b) / 1000 = q at *
  have : c + (a + 1000 * u) + (b + 1000 * v) = r + 1000 * (q + u + v) := by omega
  rw [this] at h
  rw [← h]; grind

/-- One digit of a product by one digit. -/
theorem step_row {xs zs : List Int} {c d n : Int} {k m : Nat} (hx : Dig xs) (hz : Dig zs) (hd : 0 ≤ d ∧ d ≤ 999) (hk : zs.length = m) (hc : 0 ≤ c ∧ c ≤ 998)
    (h : val zs + pw m * (c + val (xs.drop k) * d) = n) :
    Dig (zs ++ [(c + xs.getD k 0 * d) % 1000]) ∧ 0 ≤ (c + xs.getD k 0 * d) / 1000 ∧ (c + xs.getD k 0 * d) / 1000 ≤ 998 ∧
    val (zs ++ [(c + xs.getD k 0 * d) % 1000]) + pw (m + 1) * ((c + xs.getD k 0 * d) / 1000 + val (xs.drop (k + 1)) * d) = n := by
  have h1 := hx.getD k
  rw [val_drop xs k] at h
  generalize xs.getD k 0 = a at *
  generalize val (xs.drop (k + 1)) = u at *
  have m0 : 0 ≤ a * d := Int.mul_nonneg h1.1 hd.1
  have m1 : a * d ≤ 999 * 999 := Int.mul_le_mul h1.2 hd.2 hd.1 (by omega)
  refine ⟨hz.snoc ⟨by omega, by omega⟩, by omega, by omega, ?_⟩
  rw [val_snoc, hk, pw_succ]
  have e : c + a * d = (c + a * d) % 1000 + 1000 * ((c + a * d) / 1000) := by omega
  generalize (c + a * d) % 1000 = r at *
  generalize (c + a * d) / 1000 = q at *
  have : c + (a + 1000 * u) * d = r + 1000 * (q + u * d) := by grind
  rw [this] at h
  rw [← h]; grind

theorem sgn_lt {xs ys : List Int} (hx : Dig xs) (hy : Dig ys) {k : Nat} (h : val (xs.drop (k + 1)) = val (ys.drop (k + 1))) (hd : xs.getD k 0 < ys.getD k 0) : sgn (val xs) (val ys) = -1 := by
  have := lt_of_drop_lt hx hy k (by rw [val_drop xs k, val_drop ys k]; omega)
  unfold sgn; rw [if_pos this]
theorem sgn_gt {xs ys : List Int} (hx : Dig xs) (hy : Dig ys) {k : Nat} (h : val (xs.drop (k + 1)) = val (ys.drop (k + 1))) (hd : ys.getD k 0 < xs.getD k 0) : sgn (val xs) (val ys) = 1 := by
  have := lt_of_drop_lt hy hx k (by rw [val_drop xs k, val_drop ys k]; omega)
  unfold sgn; rw [if_neg (by omega), if_pos this]
theorem sgn_eq {a b : Int} (h : a = b) : sgn a b = 0 := by unfold sgn; rw [if_neg (by omega), if_neg (by omega)]

theorem val_zeros (k : Nat) : val (List.replicate k 0) = 0 := by
  induction k with
  | zero => rfl
  | succ k ih => simp only [List.replicate_succ, val, ih]; omega
theorem dig_zeros (k : Nat) : Dig (List.replicate k 0) := by
  intro x hx; have := List.eq_of_mem_replicate hx; subst this; omega
theorem take_snoc_getD (ys : List Int) (k : Nat) (hk : k < ys.length) : ys.take (k + 1) = ys.take k ++ [ys.getD k 0] := by
  rw [List.take_add_one, List.getElem?_eq_getElem hk]; simp [List.getD, List.getElem?_eq_getElem hk]

/-- 2 to the power e. -/
def p2 : Nat → Int
  | 0 => 1
  | e + 1 => 2 * p2 e
theorem p2_pos (e : Nat) : 1 ≤ p2 e := by
  induction e with
  | zero => simp [p2]
  | succ e ih => simp only [p2]; omega
theorem p2_62 : p2 62 = 4611686018427387904 := by decide
/-- The bit that comes next in the search for a quotient, and what is still open: t. -/
def BitOf (b t : Int) : Prop := (b = 0 ∧ t = 1) ∨ ∃ e, b = p2 e ∧ t = 2 * p2 e
theorem BitOf.next {b t : Int} (h : BitOf b t) (hb : 0 < b) : t = 2 * b ∧ BitOf (b / 2) b := by
  rcases h with ⟨h1, _⟩ | ⟨e, h1, h2⟩
  · omega
  · refine ⟨by omega, ?_⟩
    cases e with
    | zero => left; subst h1; simp [p2]
    | succ e => right; exact ⟨e, by subst h1; simp only [p2]; omega, by subst h1; rfl⟩
theorem BitOf.end' {b t : Int} (h : BitOf b t) (hb : ¬ 0 < b) : t = 1 := by
  rcases h with ⟨_, h2⟩ | ⟨e, h1, _⟩
  · exact h2
  · have := p2_pos e; omega

/-- What the search for a quotient has come to. -/
def Quoted (x n q t : Int) : Prop := 0 ≤ q ∧ q + t - 1 ≤ 9223372036854775807 ∧ q * n ≤ x ∧ (q + t - 1 = 9223372036854775807 ∨ x < (q + t) * n)
theorem sgn_le {a b : Int} : sgn a b ≤ 0 ↔ a ≤ b := by
  unfold sgn
  by_cases c : a < b
  · rw [if_pos c]; omega
  · rw [if_neg c]
    by_cases c2 : b < a
    · rw [if_pos c2]; omega
    · rw [if_neg c2]; omega
theorem sgn_neg {a b : Int} : sgn a b < 0 ↔ a < b := by
  unfold sgn
  by_cases c : a < b
  · rw [if_pos c]; omega
  · rw [if_neg c]
    by_cases c2 : b < a
    · rw [if_pos c2]; omega
    · rw [if_neg c2]; omega
theorem Quoted.take {x n q b : Int} (h : Quoted x n q (2 * b)) (hb : 0 < b) (hs : (q + b) * n ≤ x) : Quoted x n (q + b) b := by
  obtain ⟨h1, h2, h3, h4⟩ := h
  have e : q + b + b = q + 2 * b := by omega
  exact ⟨by omega, by omega, hs, by rw [e]; exact h4⟩
theorem Quoted.pass {x n q b : Int} (h : Quoted x n q (2 * b)) (hb : 0 < b) (hs : x < (q + b) * n) : Quoted x n q b := by
  obtain ⟨h1, h2, h3, h4⟩ := h
  exact ⟨by omega, by omega, h3, .inr hs⟩
/-- The quotient that is told. -/
def quo (x n : Int) : Int := if 9223372036854775807 < x / n then 0 else x / n
def quoRest (x n : Int) : Bool := if 9223372036854775807 < x / n then false else decide (0 < x % n)
def quoOk (x n : Int) : Bool := decide (x / n ≤ 9223372036854775807)
theorem Quoted.far {x n q : Int} (hn : 0 < n) (h : Quoted x n q 1) (hs : q * n + n ≤ x) : 9223372036854775807 < x / n := by
  obtain ⟨h1, h2, h3, h4⟩ := h
  have e : q * n + n = (q + 1) * n := by rw [Int.add_mul, Int.one_mul]
  rw [e] at hs
  have : q + 1 ≤ x / n := (Int.le_ediv_iff_mul_le hn).2 hs
  omega
theorem Quoted.near {x n q : Int} (hn : 0 < n) (h : Quoted x n q 1) (hs : ¬ q * n + n ≤ x) : x / n = q ∧ q ≤ 9223372036854775807 ∧ (q * n < x ↔ 0 < x % n) := by
  obtain ⟨h1, h2, h3, h4⟩ := h
  have e : q * n + n = (q + 1) * n := by rw [Int.add_mul, Int.one_mul]
  have a : q ≤ x / n := (Int.le_ediv_iff_mul_le hn).2 h3
  have b : x / n < q + 1 := (Int.ediv_lt_iff_lt_mul hn).2 (by omega)
  have c : x / n = q := by omega
  refine ⟨c, by omega, ?_⟩
  have d := Int.emod_add_mul_ediv x n
  rw [c, Int.mul_comm] at d
  omega

theorem pw7 : pw 7 = 1000000000000000000000 := by decide
theorem pw6 : pw 6 = 1000000000000000000 := by decide

end Rk
end Go.Proofs.YtbbkfjbaocpknaaGreat
end

section
namespace Go.Proofs.YtbbkfjbaocpknaaGreat
open Go.RowKit Rk

namespace Rk
/-- Are these three numbers of which a part may be asked? -/
def asked (n num den : Int) : Bool := decide (0 ≤ n ∧ 0 ≤ num ∧ 1 ≤ den)
def partV (n num den : Int) : Int := if asked n num den then quo (n * num) den else 0
def partOk (n num den : Int) : Bool := asked n num den && quoOk (n * num) den
/-- A quotient, rounded up. -/
def upq (x n : Int) : Int := if 0 < x % n then x / n + 1 else x / n
def partUpV (n num den : Int) : Int := if asked n num den then capV (upq (n * num) den) else 0
def partUpOk (n num den : Int) : Bool := asked n num den && capOk (upq (n * num) den)
theorem quo_cap (x n : Int) : quo x n = capV (x / n) := by unfold quo capV; split <;> split <;> omega
theorem quoOk_cap (x n : Int) : quoOk x n = capOk (x / n) := rfl
theorem far_quot {N den : Int} (hd : 1 ≤ den) (h : den ≤ N / 18446744073709551616) : 18446744073709551616 ≤ N / den :=
  Int.le_ediv_of_mul_le (by omega) (by omega)
theorem near_quot {N den : Int} (hd : 1 ≤ den) (h : N / 18446744073709551616 < den) : N / den < 18446744073709551616 :=
  (Int.ediv_lt_iff_lt_mul (by omega)).2 (by omega)
theorem upq_le (x n : Int) : x / n ≤ upq x n := by unfold upq; split <;> omega
theorem capV_no {n : Int} (h : 9223372036854775807 < n) : capV n = 0 ∧ capOk n = false := by simp [capV, capOk]; omega
end Rk

set_option maxHeartbeats 400000 in
theorem partup_any (n num den : Int) (w : World) (hn : -9223372036854775808 ≤ n) (hn1 : n ≤ 9223372036854775807) (hm : -9223372036854775808 ≤ num) (hm1 : num ≤ 9223372036854775807) (hd : -9223372036854775808 ≤ den) (hd1 : den ≤ 9223372036854775807) :
    Calls Tryz.prog 83 #[.int .i64 n, .int .i64 num, .int .i64 den] w fun e w' => e = .returned (.tuple #[.int .i64 (partUpV n num den), .bool (partUpOk n num den)]) ∧ Drawn w w' := by
  by_cases h : 0 ≤ n ∧ 0 ≤ num ∧ 1 ≤ den
  · have ha : asked n num den = true := by simp [asked]; exact h
    obtain ⟨N, hN⟩ : ∃ N, n * num = N := ⟨_, rfl⟩
    have hN0 : 0 ≤ N := by rw [← hN]; exact Int.mul_nonneg h.1 h.2.1
    obtain ⟨h1, h2, h3⟩ := h
    have e1 : partUpV n num den = capV (upq N den) := by unfold partUpV; rw [if_pos ha, hN]
    have e2 : partUpOk n num den = capOk (upq N den) := by unfold partUpOk; rw [ha, hN]; rfl
    rw [e1, e2]
    have HN := hid hN
    clear ha hN e1 e2
    by_cases hf : den ≤ N / 18446744073709551616
    · have hq := far_quot h3 hf
      have hu := upq_le N den
      obtain ⟨c1, c2⟩ := capV_no (n := upq N den) (by omega)
      rw [c1, c2]
      clear c1 c2 hq hu
      go_enter Tryz.func83, Tryz.ntmps83
      go_wp2_with fail
      refine (share_far n num den N w h1 hn1 h2 hm1 h3 hd1 HN hf).mono ?_
      rintro e w' ⟨rfl, rfl⟩
      go_wp2_with fail
      go_ret2
      exact ⟨rfl, Drawn.refl _⟩
    · have hq := near_quot h3 (Int.lt_of_not_ge hf)
      have hq0 : 0 ≤ N / den := Int.ediv_nonneg hN0 (by omega)
      have hr0 : 0 ≤ N % den := Int.emod_nonneg N (by omega)
      have hr1 : N % den < den := Int.emod_lt_of_pos N (by omega)
      have HU : Hid (upq N den = if 0 < N % den then N / den + 1 else N / den) := rfl
      generalize hQ : N / den = Q at *
      generalize hR : N % den = R at *
      generalize hUU : upq N den = U at *
      have HQ := hid hQ
      have HR := hid hR
      clear hQ hR hUU
      by_cases hb : 9223372036854775807 < Q
      · obtain ⟨c1, c2⟩ := capV_no (n := U) (by have := HU.out; split at this <;> omega)
        rw [c1, c2]
        clear c1 c2
        go_enter Tryz.func83, Tryz.ntmps83
        go_wp2_with fail
        refine (share_yes n num den N w h1 hn1 h2 hm1 h3 hd1 HN hN0 (by omega)).mono ?_
        rintro e w' ⟨rfl, k, rfl⟩
        rw [HQ.out, HR.out]
        go_wp2_with fail
        go_ret2
        exact ⟨rfl, k, rfl⟩
      · by_cases hrp : 0 < R
        · have hu : U = Q + 1 := by have := HU.out; rw [if_pos hrp] at this; exact this
          subst hu
          go_enter Tryz.func83, Tryz.ntmps83
          go_wp2_with fail
          refine (share_yes n num den N w h1 hn1 h2 hm1 h3 hd1 HN hN0 (by omega)).mono ?_
          rintro e w' ⟨rfl, k, rfl⟩
          rw [HQ.out, HR.out]
          go_wp2_with fail
          refine (count_any _ _ (by omega) (by omega)).mono ?_
          rintro e w' ⟨rfl, rfl⟩
          go_wp2_with fail
          go_ret2
          exact ⟨rfl, k, rfl⟩
        · have hu : U = Q := by have := HU.out; rw [if_neg hrp] at this; exact this
          subst hu
          go_enter Tryz.func83, Tryz.ntmps83
          go_wp2_with fail
          refine (share_yes n num den N w h1 hn1 h2 hm1 h3 hd1 HN hN0 (by omega)).mono ?_
          rintro e w' ⟨rfl, k, rfl⟩
          rw [HQ.out, HR.out]
          go_wp2_with fail
          refine (count_any _ _ (by omega) (by omega)).mono ?_
          rintro e w' ⟨rfl, rfl⟩
          go_wp2_with fail
          go_ret2
          exact ⟨rfl, k, rfl⟩
  · have ha : asked n num den = false := by simp [asked]; omega
    have e1 : partUpV n num den = 0 := by unfold partUpV; rw [if_neg (by simp [ha])]
    have e2 : partUpOk n num den = false := by unfold partUpOk; rw [ha]; rfl
    rw [e1, e2]
    clear ha e1 e2
    go_enter Tryz.func83, Tryz.ntmps83
    go_wp2_with fail
    refine (share_no n num den w hn hn1 hm hm1 hd hd1 h).mono ?_
    rintro e w' ⟨rfl, rfl⟩
    go_wp2_with fail
    go_ret2
    exact ⟨rfl, Drawn.refl _⟩
end Go.Proofs.YtbbkfjbaocpknaaGreat
end

section
namespace Go.Proofs.YtbbkfjbaocpknaaGreat
open Go.RowKit Rk

/-- A number, as digits in new memory; at most so many. -/
def IsNum (n : Int) (most : Nat) (w : World) (e : Ending) (w' : World) : Prop :=
  ∃ v xs, e = .returned v ∧ Own w' w.heap.size v xs ∧ Dig xs ∧ val xs = n ∧ xs.length ≤ most ∧ Below w.heap.size w w'

set_option maxHeartbeats 400000 in
theorem digits_no (n : Int) (hn : n ≤ 0) (hn0 : -9223372036854775808 ≤ n) (w : World) :
    Calls Tryz.prog 55 #[.int .i64 n] w fun e w' => e = .returned (.slice none 0 0) ∧ w = w' := by
  go_enter Tryz.func55, Tryz.ntmps55
  go_wp2
  refine wp_loop_once ?_
  go_wp2
  go_ret
  exact ⟨rfl, rfl⟩

def DigitsRel (w : World) (n : Int) (a v : Value) (wr : World) : Prop :=
  ∃ (m : Int) (xs : List Int), a = .int .i64 m ∧ 0 ≤ m ∧ m ≤ 9223372036854775807 ∧ Own wr w.heap.size v xs ∧ Dig xs ∧ Hid (val xs + pw xs.length * m = n) ∧ Hid (xs ≠ [] → pw (xs.length - 1) ≤ n) ∧ Below w.heap.size w wr

set_option maxHeartbeats 400000 in
theorem digits_yes (n : Int) (hn : n ≤ 9223372036854775807) (hn0 : 0 < n) (w : World) :
    Calls Tryz.prog 55 #[.int .i64 n] w (IsNum n 7 w) := by
  go_enter Tryz.func55, Tryz.ntmps55
  go_wp2
  go_loopw [0, 3] (fun a v wr => DigitsRel w n a v wr) (fun a _ _ => (intOf a).toNat)
  case atStart => exact ⟨n, [], rfl, by omega, by omega, Own.nil _ _, Dig.nil, by simp [Hid, val, pw], by simp [Hid], Below.refl _ _⟩
  case round =>
    obtain ⟨m, xs, rfl, hm0, hm1, hown, hd, hv, hlen, hb⟩ := hrel
    by_cases hm : 0 < m
    · have hst := hid (step_digits hd hm hv.out)
      have hl7 := len_digits hn hlen.out
      have hbs := hb.size
      go_wp2_with (at_builtin; refine append1 (c := m % 1000) _ _ hown (by omega) (by omega) rfl rfl rfl rfl rfl ?_; intro v' w1 hown1 hgrow hnn)
      obtain ⟨s1, s2, s3, s4, s5, s6⟩ := hst.out
      go_roundw
      case rel => exact ⟨_, _, rfl, s4, by omega, hown1, s1, s2, fun _ => s3, hb.grown hgrow (by omega) hown.lt⟩
      case measure => simp [intOf]; omega
    · go_wp2
      go_ret
      have e : m = 0 := by omega
      exact ⟨_, _, rfl, hown, hd, by have := hv.out; rw [e] at this; simpa using this, len_digits hn hlen.out, hb⟩

/-- Digits: of whatever number. -/
theorem digits_any (n : Int) (hn : n ≤ 9223372036854775807) (hn0 : -9223372036854775808 ≤ n) (w : World) :
    Calls Tryz.prog 55 #[.int .i64 n] w (IsNum (max n 0) 7 w) := by
  by_cases h : n ≤ 0
  · refine (digits_no n h hn0 w).mono ?_
    rintro e w' ⟨rfl, rfl⟩
    exact ⟨_, [], rfl, Own.nil _ _, Dig.nil, by simp [val]; omega, by simp, Below.refl _ _⟩
  · refine (digits_yes n hn (by omega) w).mono ?_
    rintro e w' ⟨v, xs, h1, h2, h3, h4, h5, h6⟩
    exact ⟨v, xs, h1, h2, h3, by omega, h5, h6⟩

set_option maxHeartbeats 400000 in
/-- digit: 0 beyond the last one. -/
theorem digit_any {v : Value} {B : Nat} {xs : List Int} (k : Nat) (d : Int) (w : World) (hown : Own w B v xs) (hd0 : Hid (xs.getD k 0 = d)) (hl : xs.length < 1048576) (_hi2 : k ≤ 1048576) :
    Calls Tryz.prog 92 #[v, .int .i64 k] w fun e w' => e = .returned (.int .i64 d) ∧ w = w' := by
  rcases hown.shape with ⟨rfl, rfl⟩ | ⟨g, cap, rfl, hc⟩
  · obtain rfl : 0 = d := by have := hd0.out; simpa using this
    clear hd0
    go_enter Tryz.func92, Tryz.ntmps92
    go_wp2
    go_ret
    exact ⟨rfl, rfl⟩
  · clear hown
    by_cases hk : k < xs.length
    · have hc1 : w.cell? ⟨g, k, none⟩ = some (.int .i64 d) := by rw [hc k hk, hd0.out]
      clear hc
      go_enter Tryz.func92, Tryz.ntmps92
      go_wp2
      go_ret
      exact ⟨rfl, rfl⟩
    · clear hc
      obtain rfl : 0 = d := by have := hd0.out; simpa [List.getD, List.getElem?_eq_none (Nat.le_of_not_lt hk)] using this
      clear hd0
      go_enter Tryz.func92, Tryz.ntmps92
      go_wp2
      go_ret
      exact ⟨rfl, rfl⟩
end Go.Proofs.YtbbkfjbaocpknaaGreat
end

section
namespace Go.Proofs.YtbbkfjbaocpknaaGreat
open Go.RowKit Rk

theorem Own.val {w : World} {B : Nat} {v : Value} {xs : List Int} (h : Own w B v xs) : ∃ p cap, v = .slice p xs.length cap := by
  rcases h.shape with ⟨h1, h2⟩ | ⟨g, cap, h1, _⟩
  · exact ⟨none, 0, by subst h2; exact h1⟩
  · exact ⟨_, cap, h1⟩

def SumRel (w : World) (xs ys : List Int) (out carry i : Value) (wr : World) : Prop :=
  ∃ (k : Nat) (c : Int) (zs : List Int), i = .int .i64 k ∧ carry = .int .i64 c ∧ 0 ≤ c ∧ c ≤ 1 ∧ zs.length = k ∧ (k ≤ max xs.length ys.length ∨ (k = max xs.length ys.length + 1 ∧ c = 0)) ∧
    Own wr w.heap.size out zs ∧ Dig zs ∧ Rk.val zs + pw k * (c + Rk.val (xs.drop k) + Rk.val (ys.drop k)) = Rk.val xs + Rk.val ys ∧ Below w.heap.size w wr

set_option maxHeartbeats 1000000 in
theorem sum_any {va vb : Value} {Ba Bb : Nat} {xs ys : List Int} (w : World) (ha : Own w Ba va xs) (hb : Own w Bb vb ys) (hx : Dig xs) (hy : Dig ys) (hlx : xs.length ≤ 100000) (hly : ys.length ≤ 100000) :
    Calls Tryz.prog 93 #[va, vb] w (IsNum (Rk.val xs + Rk.val ys) (max xs.length ys.length + 1) w) := by
  obtain ⟨pa, ca, rfl⟩ := ha.val
  obtain ⟨pb, cb, rfl⟩ := hb.val
  go_enter Tryz.func93, Tryz.ntmps93
  go_wp2_with fail
  go_loopw [5, 6, 7] (fun out carry i wr => SumRel w xs ys out carry i wr) (fun _ _ i _ => max xs.length ys.length + 1 - (intOf i).toNat)
  case atStart => exact ⟨0, 0, [], rfl, rfl, by omega, by omega, rfl, .inl (by omega), Own.nil _ _, Dig.nil, by simp [Rk.val, pw], Below.refl _ _⟩
  case round =>
    obtain ⟨k, c, zs, rfl, rfl, hc0, hc1, hzk, hkm, hown, hz, hv0, hbl⟩ := hrel
    have hv := hid hv0
    have hzk' := hid hzk
    have hk1 : k ≤ 100001 := by omega
    have hwr := hbl.size
    have hzl : zs.length < 1048576 := by omega
    have hkm' := hid hkm
    clear hv0 hzk hkm
    obtain ⟨a, ea⟩ : ∃ a, xs.getD k 0 = a := ⟨_, rfl⟩
    obtain ⟨b, eb⟩ : ∃ b, ys.getD k 0 = b := ⟨_, rfl⟩
    have ha9 : 0 ≤ a ∧ a ≤ 999 := ea ▸ hx.getD k
    have hb9 : 0 ≤ b ∧ b ≤ 999 := eb ▸ hy.getD k
    have Ha0 : Hid (xs.length ≤ k → a = 0) := fun h => by rw [← ea]; simp [List.getD, List.getElem?_eq_none h]
    have Hb0 : Hid (ys.length ≤ k → b = 0) := fun h => by rw [← eb]; simp [List.getD, List.getElem?_eq_none h]
    have Ea := hid ea
    have Eb := hid eb
    have hst := hid (step_sum hx hy hz hzk'.out ⟨hc0, hc1⟩ hv.out)
    clear ea eb
    by_cases h1 : k < xs.length
    rotate_left
    by_cases h2 : k < ys.length
    rotate_left
    by_cases h3 : 0 < c
    rotate_left
    · go_wp2_with fail
      go_ret
      refine ⟨_, _, rfl, hown, hz, ?_, ?_, hbl⟩
      · have := hv.out
        rw [val_drop_len xs k (by omega), val_drop_len ys k (by omega), show c = 0 by omega] at this
        simpa using this
      · have := hkm'.out; have := hzk'.out; omega
    all_goals
      go_wp2_with fail
      refine (digit_any k a _ (ha.below hbl (Nat.le_refl _)) Ea (by omega) (by omega)).mono ?_
      rintro e w' ⟨rfl, rfl⟩
      go_wp2_with fail
      refine (digit_any k b _ (hb.below hbl (Nat.le_refl _)) Eb (by omega) (by omega)).mono ?_
      rintro e w' ⟨rfl, rfl⟩
      go_wp2_with (at_builtin; refine append1 (c := (c + a + b) % 1000) _ _ hown (by omega) (by omega) rfl rfl rfl rfl rfl ?_; intro v' w1 hown1 hgrow hnn)
      obtain ⟨s1, s2, s3, s4⟩ := hst.out
      rw [Ea.out, Eb.out] at s1 s2 s3 s4
      go_roundw
      case rel => exact ⟨k + 1, _, _, by go_num, rfl, s2, s3, by simp [hzk'.out], by have := hkm'.out; have := Ha0.out; have := Hb0.out; omega, hown1, s1, s4, hbl.grown hgrow (by omega) hown.lt⟩
      case measure => simp [intOf]; have := hkm'.out; omega

def LessRel (xs ys : List Int) (N : Nat) (i : Value) : Prop :=
  ∃ m : Int, i = .int .i64 m ∧ -1 ≤ m ∧ m < N ∧ Rk.val (xs.drop (m + 1).toNat) = Rk.val (ys.drop (m + 1).toNat)

set_option maxHeartbeats 1000000 in
theorem less_any {va vb : Value} {Ba Bb : Nat} {xs ys : List Int} (w : World) (ha : Own w Ba va xs) (hb : Own w Bb vb ys) (hx : Dig xs) (hy : Dig ys) (hlx : xs.length ≤ 100000) (hly : ys.length ≤ 100000) :
    Calls Tryz.prog 53 #[va, vb] w fun e w' => e = .returned (.int .i64 (sgn (Rk.val xs) (Rk.val ys))) ∧ w = w' := by
  obtain ⟨pa, ca, rfl⟩ := ha.val
  obtain ⟨pb, cb, rfl⟩ := hb.val
  by_cases hxy : xs.length < ys.length
  all_goals
    go_enter Tryz.func53, Tryz.ntmps53
    go_wp2_with fail
    go_loop [6] (fun i => LessRel xs ys (max xs.length ys.length) i) (fun i => (intOf i + 1).toNat)
    case atStart =>
      refine ⟨_, rfl, by omega, by omega, ?_⟩
      rw [val_drop_len xs _ (by omega), val_drop_len ys _ (by omega)]
    case round =>
      obtain ⟨m, rfl, hm0, hm1, hv0⟩ := hrel
      have hv := hid hv0
      clear hv0
      by_cases hm : 0 ≤ m
      · obtain ⟨k, rfl⟩ := Int.eq_ofNat_of_zero_le hm
        obtain ⟨a, ea⟩ : ∃ a, xs.getD k 0 = a := ⟨_, rfl⟩
        obtain ⟨b, eb⟩ : ∃ b, ys.getD k 0 = b := ⟨_, rfl⟩
        have Ea := hid ea
        have Eb := hid eb
        have hkm := hid hm1
        have hk : k ≤ 100000 := by omega
        clear ea eb hm1
        by_cases h1 : a < b
        · go_wp2_with fail
          refine (digit_any k a _ ha Ea (by omega) (by omega)).mono ?_
          rintro e w' ⟨rfl, rfl⟩
          go_wp2_with fail
          refine (digit_any k b _ hb Eb (by omega) (by omega)).mono ?_
          rintro e w' ⟨rfl, rfl⟩
          go_wp2_with fail
          go_ret
          exact ⟨ret_int (sgn_lt hx hy hv.out (by rw [Ea.out, Eb.out]; exact h1)).symm, rfl⟩
        · by_cases h2 : b < a
          · go_wp2_with fail
            refine (digit_any k a _ ha Ea (by omega) (by omega)).mono ?_
            rintro e w' ⟨rfl, rfl⟩
            go_wp2_with fail
            refine (digit_any k b _ hb Eb (by omega) (by omega)).mono ?_
            rintro e w' ⟨rfl, rfl⟩
            go_wp2_with fail
            refine (digit_any k a _ ha Ea (by omega) (by omega)).mono ?_
            rintro e w' ⟨rfl, rfl⟩
            go_wp2_with fail
            refine (digit_any k b _ hb Eb (by omega) (by omega)).mono ?_
            rintro e w' ⟨rfl, rfl⟩
            go_wp2_with fail
            go_ret
            exact ⟨ret_int (sgn_gt hx hy hv.out (by rw [Ea.out, Eb.out]; exact h2)).symm, rfl⟩
          · go_wp2_with fail
            refine (digit_any k a _ ha Ea (by omega) (by omega)).mono ?_
            rintro e w' ⟨rfl, rfl⟩
            go_wp2_with fail
            refine (digit_any k b _ hb Eb (by omega) (by omega)).mono ?_
            rintro e w' ⟨rfl, rfl⟩
            go_wp2_with fail
            refine (digit_any k a _ ha Ea (by omega) (by omega)).mono ?_
            rintro e w' ⟨rfl, rfl⟩
            go_wp2_with fail
            refine (digit_any k b _ hb Eb (by omega) (by omega)).mono ?_
            rintro e w' ⟨rfl, rfl⟩
            go_wp2_with fail
            go_round
            case rel =>
              refine ⟨_, rfl, by omega, by have := hkm.out; omega, ?_⟩
              rw [show ((k : Int) - 1 + 1).toNat = k from by omega, val_drop xs k, val_drop ys k, Ea.out, Eb.out]
              have := hv.out
              rw [show ((k : Int) + 1).toNat = k + 1 from by omega] at this
              omega
            case measure => simp [intOf]
      · go_wp2_with fail
        go_ret
        refine ⟨ret_int (sgn_eq ?_).symm, rfl⟩
        have := hv.out
        rw [show (m + 1).toNat = 0 from by omega] at this
        simpa using this
end Go.Proofs.YtbbkfjbaocpknaaGreat
end

section
namespace Go.Proofs.YtbbkfjbaocpknaaGreat
open Go.RowKit Rk

def TimesRel (w : World) (xs ys : List Int) (out i : Value) (wr : World) : Prop :=
  ∃ (k : Nat) (zs : List Int), i = .int .i64 k ∧ k ≤ ys.length ∧ zs.length ≤ xs.length + k + 1 ∧ Own wr w.heap.size out zs ∧ Dig zs ∧ Rk.val zs = Rk.val xs * Rk.val (ys.take k) ∧ Below w.heap.size w wr

def ZerosRel (wr : World) (k : Nat) (row i : Value) (w1 : World) : Prop :=
  ∃ j : Nat, i = .int .i64 j ∧ j ≤ k ∧ Own w1 wr.heap.size row (List.replicate j 0) ∧ Below wr.heap.size wr w1

def RowRel (wr : World) (xs : List Int) (k : Nat) (d : Int) (row carry i : Value) (w1 : World) : Prop :=
  ∃ (j : Nat) (c : Int) (zs : List Int), i = .int .i64 j ∧ carry = .int .i64 c ∧ 0 ≤ c ∧ c ≤ 998 ∧ zs.length = k + j ∧ (j ≤ xs.length ∨ (j = xs.length + 1 ∧ c = 0)) ∧
    Own w1 wr.heap.size row zs ∧ Dig zs ∧ Rk.val zs + pw (k + j) * (c + Rk.val (xs.drop j) * d) = pw k * (Rk.val xs * d) ∧ Below wr.heap.size wr w1

set_option maxHeartbeats 1000000 in
theorem times_any {va vb : Value} {Ba Bb : Nat} {xs ys : List Int} (w : World) (ha : Own w Ba va xs) (hb : Own w Bb vb ys) (hx : Dig xs) (hy : Dig ys) (hlx : xs.length ≤ 10000) (hly : ys.length ≤ 10000) :
    Calls Tryz.prog 54 #[va, vb] w (IsNum (Rk.val xs * Rk.val ys) (xs.length + ys.length + 1) w) := by
  obtain ⟨pa, ca, rfl⟩ := ha.val
  obtain ⟨pb, cb, rfl⟩ := hb.val
  go_enter Tryz.func54, Tryz.ntmps54
  go_wp2_with fail
  go_loopw [5, 6] (fun out i wr => TimesRel w xs ys out i wr) (fun _ i _ => ys.length - (intOf i).toNat)
  case atStart => exact ⟨0, [], rfl, by omega, by simp, Own.nil _ _, Dig.nil, by simp [Rk.val], Below.refl _ _⟩
  case round =>
    obtain ⟨k, zs, rfl, hk, hlz, hown, hz, hv0, hbl⟩ := hrel
    have hv := hid hv0
    have hwr := hbl.size
    clear hv0
    by_cases h1 : k < ys.length
    · obtain ⟨wo, rfl⟩ : ∃ wo : World, wo = wr := ⟨_, rfl⟩
      go_wp2_with fail
      go_loopw [7, 8] (fun row i w1 => ZerosRel wo k row i w1) (fun _ i _ => k - (intOf i).toNat)
      case atStart => exact ⟨0, rfl, by omega, Own.nil _ _, Below.refl _ _⟩
      case round =>
        obtain ⟨j, rfl, hjk, hrow, hb1⟩ := hrel
        have hw1 := hb1.size
        by_cases h2 : j < k
        · go_wp2_with (at_builtin; refine append1 (c := 0) _ _ hrow (by simp; omega) (by omega) rfl rfl rfl rfl rfl ?_; intro v' w1 hown1 hgrow hnn)
          go_roundw
          case rel => exact ⟨j + 1, by go_num, by omega, by rw [List.replicate_succ']; exact hown1, hb1.grown hgrow (by omega) hrow.lt⟩
          case measure => simp [intOf]; omega
        · obtain rfl : j = k := by omega
          obtain ⟨wq, rfl⟩ : ∃ wq : World, wq = wr := ⟨_, rfl⟩
          obtain ⟨d, ed⟩ : ∃ d, ys.getD j 0 = d := ⟨_, rfl⟩
          have hd9 : 0 ≤ d ∧ d ≤ 999 := ed ▸ hy.getD j
          have Ed := hid ed
          clear ed
          go_wp2_with fail
          go_loopw [7, 9, 10] (fun row carry i w1 => RowRel wo xs j d row carry i w1) (fun _ _ i _ => xs.length + 1 - (intOf i).toNat)
          case atStart => exact ⟨0, 0, _, rfl, rfl, by omega, by omega, by simp, .inl (by omega), hrow, dig_zeros j, by simp [val_zeros], hb1⟩
          case round =>
            obtain ⟨m, c, rs, rfl, rfl, hc0, hc1, hlr0, hml0, hrow, hr, hvr0, hb1⟩ := hrel
            have hw1 := hb1.size
            obtain ⟨a, ea⟩ : ∃ a, xs.getD m 0 = a := ⟨_, rfl⟩
            have ha9 : 0 ≤ a ∧ a ≤ 999 := ea ▸ hx.getD m
            have Ea := hid ea
            have Ha0 : Hid (xs.length ≤ m → a = 0) := fun h => by rw [← ea]; simp [List.getD, List.getElem?_eq_none h]
            have hst := hid (step_row hx hr hd9 hlr0 ⟨hc0, hc1⟩ hvr0)
            have hm1 : m ≤ 10001 := by omega
            have hrl : rs.length < 1048576 := by omega
            have hlr := hid hlr0
            have hml := hid hml0
            have hvr := hid hvr0
            have hbw := hid (hbl.trans (hb1.mono hwr))
            clear hlr0 hml0 hvr0 ea
            by_cases h3 : m < xs.length
            rotate_left
            by_cases h4 : 0 < c
            rotate_left
            · go_wp2_with fail
              refine (sum_any wr (hown.below hb1 (Nat.le_refl _)) hrow hz hr (by omega) (by have := hlr.out; have := hml.out; omega)).mono ?_
              rintro e w' ⟨v', xs', rfl, hown2, hz2, hv2, hl2, hb2⟩
              have hbw2 := hid (hbw.out.trans (hb2.mono (by omega)))
              have Hv2 := hid hv2
              have Hl2 := hid hl2
              clear hv2 hl2
              go_wp2_with fail
              go_roundw
              case rel =>
                refine ⟨j + 1, _, by go_num, by omega, ?_, hown2.mono (by omega), hz2, ?_, hbw2.out⟩
                · have := Hl2.out; have := hlr.out; have := hml.out; omega
                · rw [Hv2.out, take_snoc_getD ys j h1, val_snoc, List.length_take, Nat.min_eq_left (by omega), Ed.out, hv.out]
                  have hq := hvr.out
                  rw [val_drop_len xs m (by omega), show c = 0 by omega] at hq
                  simp only [Int.zero_mul, Int.add_zero, Int.mul_zero] at hq
                  rw [hq]; grind
              case measure => simp [intOf]; omega
            all_goals
              obtain ⟨g, rfl, hcell⟩ := Own.at (hb.below hbw.out (Nat.le_refl _)) h1 Ed.out
              have hmul : 0 ≤ a * d ∧ a * d ≤ 998001 := ⟨Int.mul_nonneg ha9.1 hd9.1, Int.mul_le_mul ha9.2 hd9.2 hd9.1 (by omega)⟩
              go_wp2_with fail
              go_quiet ((go_at_call 92; exact quietly (digit_any m a _ ((ha.below hbw.out (Nat.le_refl _)).drewN _) Ea (by omega) (by omega))))
              have hown1 := hrow.drewN nq
              go_wp2_with (at_builtin; refine append1 (c := (c + a * d) % 1000) _ _ hown1 (by omega) (by simp; omega) rfl rfl rfl rfl rfl ?_; intro v' w1 hown2 hgrow hnn)
              obtain ⟨s1, s2, s3, s4⟩ := hst.out
              rw [Ea.out] at s1 s2 s3 s4
              go_roundw
              case rel => exact ⟨m + 1, _, _, by go_num, rfl, s2, s3, by simp [hlr.out]; omega, by have := hml.out; have := Ha0.out; grind, hown2, s1, s4, (below_drewN hb1 nq).grown hgrow (by simp; omega) hown1.lt⟩
              case measure => simp [intOf]; have := hml.out; omega
    · go_wp2_with fail
      go_ret
      obtain rfl : k = ys.length := by omega
      refine ⟨_, _, rfl, hown, hz, ?_, by omega, hbl⟩
      rw [hv.out, List.take_of_length_le (Nat.le_refl _)]
end Go.Proofs.YtbbkfjbaocpknaaGreat
end

section
namespace Go.Proofs.YtbbkfjbaocpknaaGreat
open Go.RowKit Rk

def QuotRel (w : World) (x n : Int) (q b : Value) (wr : World) : Prop :=
  ∃ (qq bb t : Int), q = .int .i64 qq ∧ b = .int .i64 bb ∧ 0 ≤ bb ∧ BitOf bb t ∧ Quoted x n qq t ∧ Below w.heap.size w wr

end Go.Proofs.YtbbkfjbaocpknaaGreat
end

section
namespace Go.Proofs.YtbbkfjbaocpknaaGreat
open Go.RowKit Rk

theorem mul_quo {a b : Int} (h1 : 0 ≤ a) (h2 : 0 ≤ b) : mulV a b = quo (a * b) 1 ∧ mulOk a b = quoOk (a * b) 1 := by
  obtain ⟨c1, c2⟩ := mul_cap h1 h2
  rw [c1, c2, quo_cap, quoOk_cap]
  simp

theorem quoUp {x n : Int} : (quoOk x n = false → capV (upq x n) = 0 ∧ capOk (upq x n) = false ∧ quo x n = 0) ∧
    (quoOk x n = true → quoRest x n = false → capV (upq x n) = quo x n ∧ capOk (upq x n) = true) ∧
    (quoOk x n = true → quoRest x n = true → quo x n = 9223372036854775807 → capV (upq x n) = 0 ∧ capOk (upq x n) = false) ∧
    (quoOk x n = true → quoRest x n = true → quo x n ≠ 9223372036854775807 → capV (upq x n) = quo x n + 1 ∧ capOk (upq x n) = true) := by
  unfold quoOk quoRest quo upq capV capOk
  generalize x / n = q
  generalize x % n = r
  by_cases hq : 9223372036854775807 < q <;> by_cases hr : 0 < r <;> simp [hq, hr] <;> omega

end Go.Proofs.YtbbkfjbaocpknaaGreat
end

section
namespace Go.Proofs.YtbbkfjbaocpknaaGreat
open Go.RowKit Rk

namespace Rk
def orderOk (a b c d : Int) : Bool := decide (0 ≤ a ∧ 0 ≤ b ∧ 0 ≤ c ∧ 0 ≤ d)
def orderV (a b c d : Int) : Int := if orderOk a b c d then sgn (a * b) (c * d) else 0
def logOk (n : Int) : Bool := decide (1 ≤ n)
def logV (n : Int) : Int := if logOk n then (bitLen n.toNat : Int) - 1 else 0
def powOk (n : Int) : Bool := decide (0 ≤ n ∧ n ≤ 62)
def powV (n : Int) : Int := if powOk n then p2 n.toNat else 0
theorem p2_le {a b : Nat} (h : a ≤ b) : p2 a ≤ p2 b := by
  induction b with
  | zero => have : a = 0 := by omega
            subst this; exact Int.le_refl _
  | succ b ih =>
    by_cases e : a = b + 1
    · subst e; exact Int.le_refl _
    · have h1 := ih (by omega); have h2 := p2_pos b; simp only [p2]; omega
theorem p2_pow (k : Nat) : p2 k = 2 ^ k := by
  induction k with
  | zero => rfl
  | succ k ih => simp only [p2, ih]; rw [Int.pow_succ]; omega
end Rk

set_option maxHeartbeats 1000000 in
theorem r_order (a b c d : Int) (w : World) (_ha : -9223372036854775808 ≤ a) (ha1 : a ≤ 9223372036854775807) (_hb : -9223372036854775808 ≤ b) (hb1 : b ≤ 9223372036854775807)
    (_hc : -9223372036854775808 ≤ c) (hc1 : c ≤ 9223372036854775807) (_hd : -9223372036854775808 ≤ d) (hd1 : d ≤ 9223372036854775807) :
    Calls Tryz.prog 19 #[.int .i64 a, .int .i64 b, .int .i64 c, .int .i64 d] w fun e w' => e = .returned (.tuple #[.int .i64 (orderV a b c d), .bool (orderOk a b c d)]) ∧ Below w.heap.size w w' := by
  by_cases h : 0 ≤ a ∧ 0 ≤ b ∧ 0 ≤ c ∧ 0 ≤ d
  · have e1 : orderOk a b c d = true := by simp [orderOk]; exact h
    have e2 : orderV a b c d = sgn (a * b) (c * d) := by unfold orderV; rw [if_pos e1]
    rw [e1, e2]
    clear e1 e2
    obtain ⟨h1, h2, h3, h4⟩ := h
    go_enter Tryz.func19, Tryz.ntmps19
    go_wp2_with (go_at_call 52; go_in)
    refine (digits_any _ ha1 (by omega) _).mono ?_
    rintro e wp1 ⟨vp1, dp1, rfl, hop1, hdp1, hvp1, hlp1, hbp1⟩
    have hsp1 := hbp1.size
    have Vp1 := hid hvp1
    clear hvp1
    go_wp2_with fail
    refine (digits_any _ hb1 (by omega) _).mono ?_
    rintro e wp2 ⟨vp2, dp2, rfl, hop2, hdp2, hvp2, hlp2, hbp2⟩
    have hsp2 := hbp2.size
    have Vp2 := hid hvp2
    clear hvp2
    go_wp2_with fail
    refine (times_any _ (hop1.below hbp2 (Nat.le_refl _)) hop2 hdp1 hdp2 (by omega) (by omega)).mono ?_
    rintro e wp3 ⟨vp3, dp3, rfl, hop3, hdp3, hvp3, hlp3, hbp3⟩
    have hsp3 := hbp3.size
    have Vp3 : Hid (Rk.val dp3 = a * b) := by
      show Rk.val dp3 = a * b
      rw [hvp3, Vp1.out, Vp2.out, Int.max_eq_left (by omega), Int.max_eq_left (by omega)]
    clear hvp3
    have hbp := hid (hbp1.trans ((hbp2.mono (by omega)).trans (hbp3.mono (by omega))))
    go_wp2_with (go_at_call 52; go_in)
    refine (digits_any _ hc1 (by omega) _).mono ?_
    rintro e wq1 ⟨vq1, dq1, rfl, hoq1, hdq1, hvq1, hlq1, hbq1⟩
    have hsq1 := hbq1.size
    have Vq1 := hid hvq1
    clear hvq1
    go_wp2_with fail
    refine (digits_any _ hd1 (by omega) _).mono ?_
    rintro e wq2 ⟨vq2, dq2, rfl, hoq2, hdq2, hvq2, hlq2, hbq2⟩
    have hsq2 := hbq2.size
    have Vq2 := hid hvq2
    clear hvq2
    go_wp2_with fail
    refine (times_any _ (hoq1.below hbq2 (Nat.le_refl _)) hoq2 hdq1 hdq2 (by omega) (by omega)).mono ?_
    rintro e wq3 ⟨vq3, dq3, rfl, hoq3, hdq3, hvq3, hlq3, hbq3⟩
    have hsq3 := hbq3.size
    have Vq3 : Hid (Rk.val dq3 = c * d) := by
      show Rk.val dq3 = c * d
      rw [hvq3, Vq1.out, Vq2.out, Int.max_eq_left (by omega), Int.max_eq_left (by omega)]
    clear hvq3
    have hbq := hid (hbp.out.trans (((hbq1.trans ((hbq2.mono (by omega)).trans (hbq3.mono (by omega))))).mono (by omega)))
    go_wp2_with fail
    refine (less_any _ ((hop3.below hbq1 (Nat.le_refl _)).below (hbq2.trans (hbq3.mono (by omega))) (by omega)) hoq3 hdp3 hdq3 (by omega) (by omega)).mono ?_
    rintro e w' ⟨rfl, rfl⟩
    rw [Vp3.out, Vq3.out]
    go_wp2_with fail
    go_ret2
    exact ⟨rfl, hbq.out⟩
  · have e1 : orderOk a b c d = false := by simp [orderOk]; omega
    have e2 : orderV a b c d = 0 := by unfold orderV; rw [if_neg (by simp [e1])]
    rw [e1, e2]
    clear e1 e2
    by_cases h1 : 0 ≤ a <;> by_cases h2 : 0 ≤ b <;> by_cases h3 : 0 ≤ c <;> by_cases h4 : 0 ≤ d
    · exact absurd ⟨h1, h2, h3, h4⟩ h
    all_goals
      clear h
      go_enter Tryz.func19, Tryz.ntmps19
      go_wp2
      go_ret2
      exact ⟨rfl, Below.refl _ _⟩

set_option maxHeartbeats 400000 in
theorem log_any (n : Int) (w : World) (_hn : -9223372036854775808 ≤ n) (_hn1 : n ≤ 9223372036854775807) :
    Calls Tryz.prog 186 #[.int .i64 n] w fun e w' => e = .returned (.tuple #[.int .i64 (logV n), .bool (logOk n)]) ∧ w = w' := by
  by_cases h : 1 ≤ n
  · have hb := bitLen_le64 n (by omega) (by omega)
    have HV : Hid (logV n = (bitLen n.toNat : Int) - 1) := by show logV n = _; unfold logV logOk; rw [if_pos (by simpa using h)]
    have HO : Hid (logOk n = true) := by show logOk n = true; simp [logOk, h]
    generalize logV n = V at *
    generalize logOk n = O at *
    generalize hq : bitLen n.toNat = q at *
    have Hq := hid hq
    clear hq
    go_enter Tryz.func186, Tryz.ntmps186
    go_wp2_with fail
    refine (len64_any n w (by omega) (by omega)).mono ?_
    rintro e w' ⟨rfl, rfl⟩
    rw [Hq.out]
    go_wp2_with fail
    go_ret2
    exact ⟨ret_ib HV.out.symm HO.out.symm, rfl⟩
  · go_enter Tryz.func186, Tryz.ntmps186
    go_wp2
    go_ret2
    refine ⟨ret_ib ?_ ?_, rfl⟩
    all_goals (simp [logV, logOk] <;> omega)

def LogRel (n : Int) (m k : Value) : Prop := ∃ (a : Int) (j : Nat), m = .int .i64 a ∧ k = .int .i64 j ∧ 1 ≤ a ∧ a ≤ 9223372036854775807 ∧ bitLen a.toNat + j = bitLen n.toNat ∧ j ≤ 64

def PowRel (e : Int) (n i : Value) : Prop := ∃ (j : Nat), n = .int .i64 (p2 j) ∧ i = .int .i64 j ∧ (j : Int) ≤ e

end Go.Proofs.YtbbkfjbaocpknaaGreat
end

section
namespace Go.Proofs.YtbbkfjbaocpknaaGreat
open Go.RowKit Rk

theorem Drawn.below {w w' : World} (h : Drawn w w') (B : Nat) : Below B w w' := by obtain ⟨n, rfl⟩ := h; exact below_drewN (Below.refl _ _) n

end Go.Proofs.YtbbkfjbaocpknaaGreat
end
