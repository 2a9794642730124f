/- Texts laid together. -/
import Derived.Test.YtdnlejboijkcfaaGreatDoorP16
import Derived.Lib.TrailingZeros
import Derived.RangeFuncNested
import Derived.RangeFuncBound
import Derived.RangeFuncCalls
import Derived.RangeFuncLeaves
import Derived.RangeFuncBox
import Derived.Shelf.Abstract
import Derived.Shelf.RegionOpen
import Derived.WalkKit
import Derived.OwnWalkIn
import Derived.TacticsInMore
import Derived.LoopNIn
import Derived.LoopIn
/- Sets of sensors: how many there are, and going over them. -/
namespace Go.Proofs.YtdnlejboijkcfaaGreatDoor
set_option maxHeartbeats 8000000
set_option maxRecDepth 100000
open Go.RowKit
attribute [local go_sem] Oper.semAt_some
namespace Tb
def Tab (w : World) : Prop := 2 < w.heap.size ∧ ∀ j, j < 64 → w.cell? ⟨2, j, none⟩ = some (.int .u8 (Lib.deBruijn64tab.getD j 0))
theorem Tab.keep {w w' : World} (h : Tab w) (e : w'.heap[2]? = w.heap[2]?) (hs : w.heap.size ≤ w'.heap.size) : Tab w' :=
  ⟨by have := h.1; omega, fun j hj => by rw [← h.2 j hj]; unfold World.cell?; simp only [e]⟩
theorem Tab.below {w w' : World} (h : Tab w) (b : Below w.heap.size w w') : Tab w' := h.keep (b.block _ h.1) b.size
theorem tz_key (x a : Nat) (hx : x < 18446744073709551616) (hlow : x &&& (18446744073709551616 - x) = a) :
    IntKind.u64.wrap (bits BinOp.and IntKind.u64 (x : Int) (IntKind.u64.wrap (-(x : Int))) * 285870213051353865) / 288230376151711744 = ((a * 285870213051353865 % 18446744073709551616 / 288230376151711744 : Nat) : Int) := by
  have hx0 : x = 0 ∨ 0 < x := by omega
  rcases hx0 with rfl | hx0
  · have : a = 0 := by rw [← hlow]; rfl
    subst this; rfl
  have e1 : IntKind.u64.wrap (-(x : Int)) = ((18446744073709551616 - x : Nat) : Int) := by rw [IntKind.wrap_u64]; omega
  rw [e1, bits_and_u64_nat x _ hx (by omega), hlow, IntKind.wrap_u64]
  omega
theorem low_bits {x : Nat} (h0 : x ≠ 0) (h : x < 2 ^ 48) : ∃ k, Lib.ctz 64 x = k ∧ k < 48 ∧ x.testBit k = true ∧ ∀ j, (x &&& (x - 1)).testBit j = (x.testBit j && decide (j ≠ k)) := by
  have h64 : x < 2 ^ 64 := Nat.lt_of_lt_of_le h (Nat.pow_le_pow_right (by decide) (by decide))
  obtain ⟨m, hm, hk⟩ := Lib.ctzFrom_spec 64 x (by omega) h64
  have e : Lib.ctz 64 x = Lib.ctzFrom 64 x := by simp [Lib.ctz, h0]
  rw [e]
  generalize Lib.ctzFrom 64 x = k at *
  have hp : 0 < 2 ^ k := Nat.two_pow_pos k
  have b1 : ∀ j, x.testBit j = (decide (k ≤ j) && (2 * m + 1).testBit (j - k)) := fun j => by
    rw [hm, Nat.testBit_two_pow_mul]
  have e2 : x - 1 = 2 ^ k * (2 * m) + (2 ^ k - 1) := by rw [hm, Nat.mul_add]; omega
  have b2 : ∀ j, (x - 1).testBit j = if j < k then (2 ^ k - 1).testBit j else (2 * m).testBit (j - k) := fun j => by
    rw [e2, Nat.testBit_two_pow_mul_add _ (by omega)]
  have hkx : x.testBit k = true := by rw [b1]; simp
  refine ⟨k, rfl, ?_, hkx, fun j => ?_⟩
  · rcases Nat.lt_or_ge k 48 with q | q
    · exact q
    · have := Nat.testBit_lt_two_pow (Nat.lt_of_lt_of_le h (Nat.pow_le_pow_right (n := 2) (by decide) q))
      rw [hkx] at this; cases this
  · rw [Nat.testBit_and, b1, b2]
    by_cases q : j < k
    · rw [if_pos q]; simp [show ¬ k ≤ j by omega]
    · rw [if_neg q]
      by_cases q2 : j = k
      · subst q2; simp
      · obtain ⟨d, hd⟩ : ∃ d, j - k = d + 1 := ⟨j - k - 1, by omega⟩
        rw [hd, Nat.testBit_succ, Nat.testBit_succ]
        have d1 : (2 * m + 1) / 2 = m := by omega
        have d2 : 2 * m / 2 = m := by omega
        rw [d1, d2]; simp [q2]
end Tb
open Tb
theorem tz64_core (x k idx : Nat) (w : World) (hx0 : ((x : Int) == 0) = false)
    (key : IntKind.u64.wrap (bits BinOp.and IntKind.u64 (x : Int) (IntKind.u64.wrap (-(x : Int))) * 285870213051353865) / 288230376151711744 = (idx : Int))
    (hi : idx < 64) (hk : k < 64) (hcell : w.cell? ⟨2, idx, none⟩ = some (.int .u8 k)) :
    Calls Tryz.prog 174 #[.int .u64 x] w (Rt (.int .i64 k) w) := by
  go_enter Tryz.func174, Tryz.ntmps174
  go_wp2_with (simp only [key])
  go_ret
  exact ⟨rfl, rfl⟩
theorem tz64 (x : Nat) (hx : x < 2 ^ 48) (hx0 : x ≠ 0) (w : World) (hT : Tab w) :
    Calls Tryz.prog 174 #[.int .u64 x] w (Rt (.int .i64 (Lib.ctz 64 x)) w) := by
  have h64 : x < 2 ^ 64 := Nat.lt_of_lt_of_le hx (Nat.pow_le_pow_right (by decide) (by decide))
  obtain ⟨hlow, hk⟩ := Lib.lowest_bit 64 x hx0 h64
  obtain ⟨hi, htab⟩ := Lib.deBruijn64_at _ hk
  have hcell := hT.2 _ hi
  rw [htab] at hcell
  have key := tz_key x _ h64 hlow
  exact tz64_core x _ _ w (by simp; omega) key hi hk hcell
theorem cw_each (s : Nat) (w : World) :
    Calls Tryz.prog 134 #[.int .u64 s] w fun e w' => e = .returned (.func (.func 173) #[] #[.pointer (some ⟨w.heap.size, 0, none⟩)]) ∧ w' = w.alloc (.cells #[.int .u64 s] 53) := by
  go_enter Tryz.func134, Tryz.ntmps134
  go_wp2_with fail
  go_ret
  exact ⟨rfl, rfl⟩
abbrev InS (s : Nat) := { k : Nat // k < 48 ∧ s.testBit k = true }
def KpT (W W' : World) : Prop := W.heap.size ≤ W'.heap.size ∧ W'.heap[2]? = W.heap[2]?
theorem KpT.trans {A B C : World} (h : KpT A B) (k : KpT B C) : KpT A C := ⟨Nat.le_trans h.1 k.1, k.2.trans h.2⟩
theorem crew_stops {w : World} (n : Nat) (hn : 1 ≤ n) (b s : Nat) (hs : s < 2 ^ 48) (hb : b < w.heap.size) (hc : w.cell? ⟨b, 0, none⟩ = some (.int .u64 s)) (TZ : Tab w) :
    SeqStopsK Fence.wide n Tryz.prog 173 #[.pointer (some ⟨b, 0, none⟩)] (fun x : InS s => #[Value.int .i64 x.1]) KpT (fun xs => (xs.map (·.1)).Nodup ∧ ∀ j, j ∈ xs.map (·.1) ↔ s.testBit j = true) (fun _ => True) 48 w := fun l0 J Jx W hW hJ hJx hY h0 => by
  have hc' := (hW.cell (p := ⟨b, 0, none⟩) hb).trans hc
  have TZ' := TZ.below hW
  have HJ := hid hJ
  have HY := hid hY
  have E0 := hid (and_bits hs (show 281474976710655 < 2 ^ 48 by decide))
  have e1 : s &&& 281474976710655 = s := by
    rw [show (281474976710655 : Nat) = 2 ^ 48 - 1 by decide, Nat.and_two_pow_sub_one_eq_mod]
    exact Nat.mod_eq_of_lt hs
  rw [e1] at E0
  have E0 : bits BinOp.and IntKind.u64 (s : Int) 281474976710655 = (s : Int) := E0.out
  have TZC := hid (fun (x : Nat) (h1 : x < 2 ^ 48) (h2 : x ≠ 0) (W : World) (h3 : Tab W) => tz64 x h1 h2 W h3)
  clear TZ hJ hJx hY e1
  refine callsIn_of_wp Tryz.func173 rfl trivial ?_ rfl
  simp only [Tryz.ntmps173, List.size_toArray, List.length_cons, List.length_nil, Nat.reduceAdd, Nat.reduceSub, Array.replicate_succ, Array.replicate_zero, List.push_toArray, List.append_toArray, List.nil_append, List.cons_append]
  gi_wp2_with (simp only [E0])
  clear E0 hc' hc
  gi_loopw [3] (fun i wr => ∃ (x : Nat) (pre : List (InS s)), i = .int .u64 x ∧ x < 2 ^ 48 ∧ (∀ j, s.testBit j = true ↔ x.testBit j = true ∨ j ∈ pre.map (·.1)) ∧ (∀ j, x.testBit j = true → j ∉ pre.map (·.1)) ∧ (pre.map (·.1)).Nodup ∧ J pre wr ∧ Tab wr)
    (fun i _ => (intOf i).toNat)
  case atStart => exact ⟨s, [], rfl, hs, fun j => by simp, fun j _ => by simp, by simp, h0, TZ'⟩
  case round =>
    obtain ⟨x, pre, rfl, hx, hbit, hnot, hnd, hJs, TR⟩ := hrel
    have hpl : pre.length ≤ 48 := by
      have := nodup_bd hnd (n := 48) (fun y hy => by
        obtain ⟨z, _, rfl⟩ := List.mem_map.1 hy
        exact z.2.1)
      simpa using this
    by_cases hx0 : x = 0
    · subst hx0
      gi_wp2
      go_end0
      exact ⟨⟨_, rfl⟩, .inl ⟨pre, ⟨hnd, fun j => by rw [hbit j]; simp⟩, hJs⟩⟩
    · obtain ⟨k, ek, hk, hkx, hlow⟩ := low_bits hx0 hx
      have hsk : s.testBit k = true := (hbit k).2 (.inl hkx)
      have hkn := hnot k hkx
      have hpl2 : pre.length < 48 := by
        have := nodup_bd (List.nodup_cons.2 ⟨hkn, hnd⟩) (n := 48) (fun y hy => by
          rcases List.mem_cons.1 hy with rfl | hy
          · exact hk
          · obtain ⟨z, _, rfl⟩ := List.mem_map.1 hy
            exact z.2.1)
        simp at this; omega
      have TC := TZC.out x hx hx0 wr TR
      rw [ek] at TC
      have TC := hid TC
      obtain ⟨fn, tmps, assign, body, hy, hR⟩ := HY.out pre ⟨k, hk, hsk⟩ wr hJs hpl2
      dsimp only at hy
      have z0 : ((x : Int) != 0) = true := by simp; omega
      have hx48 : x < 281474976710656 := by rw [← two48]; exact hx
      have e2 := and_bits hx (show x - 1 < 2 ^ 48 by omega)
      rw [show ((x - 1 : Nat) : Int) = (x : Int) - 1 by omega] at e2
      have E2 := hid e2
      have hle : x &&& (x - 1) ≤ x - 1 := Nat.and_le_right
      have PRE : Hid (∀ W3, J (pre ++ [(⟨k, hk, hsk⟩ : InS s)]) W3 → KpT wr W3 → ∃ (x' : Nat) (pre : List (InS s)), Value.int .u64 ((x &&& (x - 1) : Nat) : Int) = .int .u64 x' ∧ x' < 2 ^ 48 ∧ (∀ j, s.testBit j = true ↔ x'.testBit j = true ∨ j ∈ pre.map (·.1)) ∧ (∀ j, x'.testBit j = true → j ∉ pre.map (·.1)) ∧ (pre.map (·.1)).Nodup ∧ J pre W3 ∧ Tab W3) := by
        intro W3 j3 k3
        refine ⟨x &&& (x - 1), _, rfl, by omega, fun j => ?_, fun j hj => ?_, ?_, j3, TR.keep k3.2 k3.1⟩
        · rw [hbit, hlow, List.map_append, List.mem_append, Bool.and_eq_true, decide_eq_true_eq]
          simp only [List.map_cons, List.map_nil, List.mem_singleton]
          by_cases q : j = k
          · subst q; simp [hkx]
          · simp [q]
        · rw [hlow, Bool.and_eq_true, decide_eq_true_eq] at hj
          rw [List.map_append, List.mem_append]
          simp only [List.map_cons, List.map_nil, List.mem_singleton]
          rintro (q | q)
          · exact hnot j hj.1 q
          · exact hj.2 q
        · rw [List.map_append, List.nodup_append]
          refine ⟨hnd, by simp, fun a ha b' hb' e => ?_⟩
          simp only [List.map_cons, List.map_nil, List.mem_singleton] at hb'
          subst hb'; subst e
          exact hkn ha
      clear hlow hbit hnot hnd e2 hJs
      gi_wp2_with (refine ⟨trivial, ?_⟩; gi_at_call 174; refine (callsIn_wide.2 TC.out).mono ?_; rintro e W2 ⟨rfl, rfl⟩)
      refine hR.mono ?_
      rintro e W3 (⟨rfl, hJ3, hk3⟩ | ⟨rfl, hJx3⟩)
      · have P3 := hid (PRE.out W3 hJ3 hk3)
        clear PRE hJ3 hk3
        gi_wp2
        go_roundw
        case rel => rw [E2.out]; exact P3.out
        case measure => rw [E2.out]; simp only [intOf, Int.toNat_natCast]; omega
      · gi_wp2
        refine bodyPost_ret (results_none rfl _ _ _) rfl ?_
        exact ⟨⟨_, rfl⟩, .inr ⟨_, trivial, hJx3⟩⟩
end Go.Proofs.YtdnlejboijkcfaaGreatDoor
