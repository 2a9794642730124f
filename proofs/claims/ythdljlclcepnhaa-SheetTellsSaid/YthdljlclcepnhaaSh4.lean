/- The walk of the reference's Digits. -/
import Derived.Test.YthdljlclcepnhaaSh3
namespace Go.Proofs.Ythdljlclcepnhaa
open Go.RowKit Sh

theorem Sh.decL_all (n : Nat) : decL n = (if n < 10 then [] else decL (n / 10)) ++ [UInt8.ofNat (48 + n % 10)] := by
  by_cases h : n < 10
  · rw [if_pos h, decL_low h, Nat.mod_eq_of_lt h]; rfl
  · rw [if_neg h]; exact decL_big h
set_option maxRecDepth 100000 in
theorem Sh.one_string (c : UInt8) (v : Int) (hv : (c.toNat : Int) = v) (w : World) (T : TypeId) :
    (convert 50 9 (.slice (some ⟨w.heap.size, 0, none⟩) 1 1)).run Try.prog (w.alloc (.cells #[.int .u8 v] T)) = .ok (.string ⟨#[c]⟩) (w.alloc (.cells #[.int .u8 v] T)) := by
  have X : Blk (w.alloc (.cells #[.int .u8 v] T)) w.heap.size #[.int .u8 v] T := Blk.new w _ _
  exact run_convert_bytes_back (P := Try.prog) _ 50 9 5 ⟨w.heap.size, 0, none⟩ 1 [c] rfl rfl rfl (fun i hi => by
    obtain rfl : i = 0 := by simpa using hi
    rw [Addr.add_mid]
    rw [X.cell, ← hv]; rfl)
set_option maxRecDepth 100000 in
set_option maxHeartbeats 1000000 in
theorem r_digits (n : Int) (w : World) (bn : -9223372036854775808 ≤ n ∧ n ≤ 9223372036854775807) : Calls Try.prog 15 #[.int .i64 n] w fun e w' => e = .returned (.string (digS n)) ∧ Below w.heap.size w w' := by
  by_cases h0 : n < 0
  · have e : digS n = ⟨#[]⟩ := by unfold digS; rw [if_pos h0]
    rw [e]
    clear e
    go_enter Try.func15, Try.ntmps15
    go_wp2_with fail
    go_ret
    exact ⟨rfl, Below.refl _ _⟩
  · obtain ⟨N, rfl⟩ := Int.eq_ofNat_of_zero_le (show 0 ≤ n by omega)
    have eS : digS (N : Int) = ⟨(decL N).toArray⟩ := by unfold digS; rw [if_neg h0]; simp
    rw [eS]
    have digit : ∀ m : Nat, ((UInt8.ofNat (48 + m % 10)).toNat : Int) = 48 + (m : Int) % 10 := by
      intro m; rw [dig_of (Nat.mod_lt m (by omega))]; omega
    have DG := hid digit
    obtain ⟨c, hc⟩ : ∃ c : UInt8, c = UInt8.ofNat (48 + N % 10) := ⟨_, rfl⟩
    have CV := one_string c (48 + (N : Int) % 10) (by rw [hc]; exact digit N) w 5
    have HC := hid hc
    clear hc digit eS
    go_enter Try.func15, Try.ntmps15
    go_wp2_with fail
    have b0 : Below w.heap.size w (w.alloc (.cells #[.int .u8 (48 + (N : Int) % 10)] 5)) := (Below.refl _ _).alloc (Nat.le_refl _) _
    go_loopw [0, 3] (fun n s wr => ∃ (m : Nat) (D : List UInt8), n = .int .i64 m ∧ s = .string ⟨D.toArray⟩ ∧ m ≤ N ∧ Hid (decL N = (if m < 10 then [] else decL (m / 10)) ++ D) ∧ Below w.heap.size w wr) (fun n _ _ => (intOf n).toNat)
    case atStart => exact ⟨N, [c], rfl, rfl, Nat.le_refl _, by show _ = _; rw [HC.out]; exact decL_all N, b0⟩
    case round =>
      obtain ⟨m, D, rfl, rfl, hm, hd, hbl⟩ := hrel
      by_cases hm10 : m < 10
      · have q0 : decide ((10 : Int) ≤ (m : Int)) = false := decide_eq_false (by omega)
        have hd' := hd.out
        rw [if_pos hm10, List.nil_append] at hd'
        have HD := hid hd'
        clear hd hd'
        go_wp2_with fail
        go_ret
        refine ⟨?_, hbl⟩
        rw [HD.out]
        rfl
      · have q0 : decide ((10 : Int) ≤ (m : Int)) = true := decide_eq_true (by omega)
        obtain ⟨k, hk⟩ : ∃ k : Nat, k = m / 10 := ⟨_, rfl⟩
        have hk2 : (m : Int) / 10 = (k : Int) := by omega
        have hkm : k < m := by omega
        obtain ⟨c', hc'⟩ : ∃ c : UInt8, c = UInt8.ofNat (48 + k % 10) := ⟨_, rfl⟩
        have CV := one_string c' (48 + (k : Int) % 10) (by rw [hc']; exact DG.out k) wr 5
        have b1 : Below w.heap.size w (wr.alloc (.cells #[.int .u8 (48 + (k : Int) % 10)] 5)) := hbl.alloc hbl.size _
        have HD := hid (show decL N = (if k < 10 then [] else decL (k / 10)) ++ (c' :: D) by
          rw [hd.out, if_neg hm10, ← hk, decL_all k, hc', List.append_assoc]; rfl)
        have hnl : ¬ 9223372036854775807 < 1 + D.length := by
          have h1 := congrArg List.length HD.out
          rw [List.length_append, List.length_cons] at h1
          have h2 := decL_len 18 N (by omega)
          omega
        clear hc' hk hd hbl
        go_wp2_with fail
        go_round
        case rel =>
          refine ⟨k, c' :: D, rfl, ?_, by omega, HD, b1⟩
          congr 1
        case measure => simp [intOf]; omega
end Go.Proofs.Ythdljlclcepnhaa
