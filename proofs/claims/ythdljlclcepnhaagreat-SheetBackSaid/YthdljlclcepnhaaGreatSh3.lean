/- The walks of sheet.Digits and the reference's Digits. -/
import Derived.Test.YthdljlclcepnhaaGreatShMath
import Derived.Laws.IdiomStrings
namespace Go.Proofs.YthdljlclcepnhaaGreat
open Go.RowKit Sh

namespace Sh
/-- The array's cells: so many zeros, then digits. -/
def padC (k : Nat) (D : List UInt8) : Array Value := (List.replicate k (Value.int .u8 0) ++ D.map (fun c => Value.int .u8 (c.toNat : Int))).toArray
theorem pad_set {k : Nat} (c : UInt8) (D : List UInt8) : (padC (k + 1) D).setIfInBounds k (.int .u8 (c.toNat : Int)) = padC k (c :: D) := by
  unfold padC
  rw [List.setIfInBounds_toArray]
  congr 1
  rw [List.replicate_succ', List.append_assoc, List.set_append_right _ _ (by simp)]
  simp
theorem pad_get {k j : Nat} {D : List UInt8} (h : j < D.length) : (padC k D)[k + j]? = some (.int .u8 (D[j].toNat : Int)) := by
  unfold padC
  rw [List.getElem?_toArray, List.getElem?_append_right (by simp)]
  simp [List.getElem?_map, List.getElem?_eq_getElem h]
theorem pad_zero {k j : Nat} {D : List UInt8} (h : j < k) : (padC k D)[j]? = some (.int .u8 0) := by
  unfold padC
  rw [List.getElem?_toArray, List.getElem?_append_left (by simpa using h)]
  simp [h]
theorem pad_size (k : Nat) (D : List UInt8) : (padC k D).size = k + D.length := by simp [padC]
end Sh
/-- A number's digits, as a text. -/
def Sh.digS (n : Int) : ByteArray := if n < 0 then ⟨#[]⟩ else ⟨(decL n.toNat).toArray⟩
set_option maxRecDepth 100000 in
set_option maxHeartbeats 1000000 in
theorem s_digits (n : Int) (w : World) (bn : -9223372036854775808 ≤ n ∧ n ≤ 9223372036854775807) : Calls Tryz.prog 32 #[.int .i64 n] w fun e w' => e = .returned (.string (digS n)) ∧ Below w.heap.size w w' := by
  by_cases h0 : n < 0
  · have e : digS n = ⟨#[]⟩ := by unfold digS; rw [if_pos h0]
    rw [e]
    clear e
    go_enter Tryz.func32, Tryz.ntmps32
    go_wp2_with fail
    go_ret
    exact ⟨rfl, Below.refl _ _⟩
  · obtain ⟨N, rfl⟩ := Int.eq_ofNat_of_zero_le (show 0 ≤ n by omega)
    have eS : digS (N : Int) = ⟨(decL N).toArray⟩ := by unfold digS; rw [if_neg h0]; simp
    rw [eS]
    have X1 : Blk (w.alloc (.cells (padC 19 []) 120)) w.heap.size (padC 19 []) 120 := Blk.new w _ _
    have hb1 : Below w.heap.size w (w.alloc (.cells (padC 19 []) 120)) := (Below.refl _ _).alloc (Nat.le_refl _) _
    have hN := decL_len 18 N (by omega)
    clear eS h0
    go_enter Tryz.func32, Tryz.ntmps32
    go_wp2_with fail
    go_loopw [0, 4] (fun n i wr => ∃ (m k : Nat) (D : List UInt8), n = .int .i64 m ∧ i = .int .i64 k ∧ m ≤ N ∧ k + D.length = 19 ∧ (m = 0 → D = []) ∧ Hid (decL N = decL m ++ D) ∧ Blk wr w.heap.size (padC k D) 120 ∧ Below w.heap.size w wr) (fun _ i _ => (intOf i).toNat)
    case atStart => exact ⟨N, 19, [], rfl, rfl, Nat.le_refl _, rfl, (fun _ => rfl), by show _ = _; simp, X1, hb1⟩
    case round =>
      obtain ⟨m, k, D, rfl, rfl, hm, hk, hD, hd, X, hbl⟩ := hrel
      have hk1 : 1 ≤ k := by
        have h1 := List.length_pos_iff.2 (decL_ne m)
        have h2 := congrArg List.length hd.out
        rw [List.length_append] at h2
        omega
      obtain ⟨j, rfl⟩ : ∃ j, k = j + 1 := ⟨k - 1, by omega⟩
      have c0 : wr.cell? ⟨w.heap.size, j, none⟩ = some (.int .u8 0) := (X.cell j).trans (pad_zero (Nat.lt_succ_self j))
      have f0 := X.free j
      have hxl := X.lt
      -- the byte
      obtain ⟨c, hc⟩ : ∃ c : UInt8, c = UInt8.ofNat (48 + m % 10) := ⟨_, rfl⟩
      have hcn : (c.toNat : Int) = 48 + (m : Int) % 10 := by
        rw [hc, dig_of (Nat.mod_lt m (by omega))]; omega
      have X' : Blk (wr.setCell ⟨w.heap.size, j, none⟩ (.int .u8 (48 + (m : Int) % 10))) w.heap.size (padC j (c :: D)) 120 := by
        have := X.set j (.int .u8 (c.toNat : Int))
        rw [pad_set, hcn] at this
        exact this
      have hb' : Below w.heap.size w (wr.setCell ⟨w.heap.size, j, none⟩ (.int .u8 (48 + (m : Int) % 10))) := hbl.setCell (Nat.le_refl _) _
      have SL : ∀ w' : World, (Instr.sliceAt 120 (.pointer (some ⟨w.heap.size, 0, none⟩)) (some (.int .i64 (j : Int))) none none).run Tryz.prog w' = .ok (.slice (some ⟨w.heap.size, j, none⟩) (19 - j) (19 - j)) w' := by
        intro w'
        rw [run_sliceAt_array_l w' 120 _ rfl .i64 (j : Int) (by omega) (by show (j : Int) ≤ 19; omega)]
        rw [show (sizeOf (Tryz.prog.elem 120)).run Tryz.prog w' = .ok 1 w' from rfl]
        show Result.ok (slicedAt ⟨w.heap.size, 0, none⟩ (j : Int).toNat 19 19 1) w' = _
        rw [Int.toNat_natCast]
        unfold slicedAt
        rw [if_neg (show ¬ 19 = j by omega)]
        rw [Nat.mul_one]
        simp only [Addr.add]
        split <;> simp <;> omega
      have CV : (convert 79 9 (.slice (some ⟨w.heap.size, j, none⟩) (19 - j) (19 - j))).run Tryz.prog (wr.setCell ⟨w.heap.size, j, none⟩ (.int .u8 (48 + (m : Int) % 10))) = .ok (.string ⟨(c :: D).toArray⟩) (wr.setCell ⟨w.heap.size, j, none⟩ (.int .u8 (48 + (m : Int) % 10))) := by
        have := run_convert_bytes_back (P := Tryz.prog) (wr.setCell ⟨w.heap.size, j, none⟩ (.int .u8 (48 + (m : Int) % 10))) 79 9 5 ⟨w.heap.size, j, none⟩ (19 - j) (c :: D) rfl rfl rfl (fun i hi => by
          rw [show Addr.add ⟨w.heap.size, j, none⟩ i = ⟨w.heap.size, j + i, none⟩ by simp only [Addr.add]; split <;> simp <;> omega]
          exact (X'.cell (j + i)).trans (pad_get hi))
        rw [show (c :: D).length = 19 - j by simp; omega] at this
        exact this
      have HX' := hid X'
      have HB' := hid hb'
      have HC := hid hc
      clear X' hb' X hbl hc
      have g1 : (0 : Int) ≤ (m : Int) / 10 := by omega
      by_cases hm10 : m < 10
      · have q0 : ((m : Int) / 10 == 0) = true := by simp; omega
        go_wp2_with fail
        go_ret
        refine ⟨?_, HB'.out⟩
        rw [show (decL N).toArray = (c :: D).toArray by
          have e : c = UInt8.ofNat (48 + m) := by rw [HC.out, Nat.mod_eq_of_lt hm10]
          rw [hd.out, decL_low hm10, e]; rfl]
        rfl
      · have q0 : ((m : Int) / 10 == 0) = false := by simp; omega
        go_wp2_with fail
        go_round
        case rel =>
          refine ⟨m / 10, j, c :: D, by simp, rfl, by omega, by simp; omega, (fun h => by omega), ?_, HX'.out, HB'.out⟩
          show decL N = decL (m / 10) ++ (c :: D)
          rw [hd.out, decL_big hm10, HC.out, List.append_assoc]; rfl
        case measure => simp [intOf]
end Go.Proofs.YthdljlclcepnhaaGreat
