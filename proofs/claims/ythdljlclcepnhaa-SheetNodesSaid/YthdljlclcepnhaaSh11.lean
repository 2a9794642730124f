/- The walk of SheetNodes. -/
import Derived.Test.YthdljlclcepnhaaSh10
namespace Go.Proofs.Ythdljlclcepnhaa
open Go.RowKit Nl Sh

set_option maxRecDepth 100000 in
set_option maxHeartbeats 2000000 in
/-- Behind the two questions to the tree: the number. -/
theorem l_nodes (L id n : Int) (w : World) (bL : In64 L) (bi : In64 id) (bn : In64 n) :
    Calls Try.prog 5 #[.int .i64 L, .int .i64 id, .int .i64 n] w fun e w' => e = .returned (.bool true) ∧ Below w.heap.size w w' := by
  have AL := hid s_alive
  have SD := hid (fun W => s_digs n W bn)
  have hlen := digL_len bn
  have hnl : ¬ 9223372036854775807 < (digL n).length + 2 := by omega
  have NU := hid (fun W => s_number (⟨(digL n).toArray⟩ ++ ⟨#[32, 55]⟩) W (by
    rw [ByteArray.size_append]
    show (digL n).toArray.size + 2 ≤ _
    simp; omega))
  have eA : ((⟨(digL n).toArray⟩ ++ ⟨#[32, 55]⟩ : ByteArray)).data.toList = digL n ++ [32, 55] := by
    rw [ByteArray.data_append]; simp
  rw [eA] at NU
  clear eA
  have EN : ∃ lo hi v b, (∀ W, Calls Try.prog 16 #[.int .i64 L, .int .i64 id] W fun e w' => e = .returned (.tuple #[.int .i64 lo, .int .i64 hi, .bool (rightB L id)]) ∧ Below W.heap.size W w') ∧ (∀ W, Calls Try.prog 12 #[.int .i64 L, .int .i64 lo, .int .i64 hi] W fun e w' => e = .returned (.tuple #[.int .i64 v, .bool b]) ∧ Below W.heap.size W w') ∧ (rightB L id = true → b = true ∧ v = id) := by
    cases hr : rightB L id with
    | true =>
      obtain ⟨h1, h2⟩ := node_ends hr
      obtain ⟨i1, i2⟩ := ends_in hr
      exact ⟨_, _, _, _, fun W => t_ends W hr, fun W => s_node L _ _ W bL i1 i2, fun _ => ⟨h1, h2⟩⟩
    | false =>
      exact ⟨0, 0, _, _, fun W => (t_ends_no W bL bi hr).mono (fun e w' h => ⟨h.1, h.2 ▸ Below.refl _ _⟩), fun W => s_node L 0 0 W bL ⟨by decide, by decide⟩ ⟨by decide, by decide⟩, fun h => absurd h (by simp)⟩
  obtain ⟨lo, hi, v, b, E0, N0, hv⟩ := EN
  have E1 := hid E0
  have N1 := hid N0
  clear E0 N0
  unfold NumPost at NU
  have hR : ∃ r, rightB L id = r := ⟨_, rfl⟩
  obtain ⟨r, er⟩ := hR
  rw [er] at E1 hv
  clear er
  have hlen2 : ¬ n < 0 → numV (digL n ++ [32, 55]) = (n.toNat, (digL n).length, true) := by
    intro h
    have e : digL n = decL n.toNat := by unfold digL; rw [if_neg h]
    rw [e]
    exact numV_dec (by have := bn.2; omega) (by intro c t h; simp only [List.cons.injEq] at h; rw [← h.1]; decide)
  have hlen0 : n < 0 → digL n = [] := by
    intro h; unfold digL; rw [if_pos h]
  cases r with
  | true =>
    obtain ⟨rfl, rfl⟩ := hv rfl
    by_cases hn : n < 0
    · rw [hlen0 hn] at SD hnl NU
      rw [show numV ([] ++ [32, 55]) = (0, 0, false) by decide] at NU
      clear hlen0 hlen2 hv hlen
      go_enter Try.func5, Try.ntmps5
      go_wp2_with fail
      refine (E1.out _).mono ?_
      rintro e w1 ⟨rfl, hb1⟩
      go_wp2_with fail
      refine (N1.out _).mono ?_
      rintro e w2 ⟨rfl, hb2⟩
      have hbw := hb1.trans (hb2.mono hb1.size)
      clear hb1 hb2
      go_wp2_with fail
      refine (SD.out _).mono ?_
      rintro e w3 ⟨rfl, hb3⟩
      have hbw3 := hbw.trans (hb3.mono hbw.size)
      clear hb3 hbw
      go_wp2_with fail
      refine (NU.out _).mono ?_
      rintro e w' ⟨rfl, rfl⟩
      go_wp2_with fail
      refine (AL.out _).mono ?_
      rintro e w6 ⟨rfl, hb6⟩
      go_wp2_with fail
      go_ret
      exact ⟨by simp, hbw3.trans (hb6.mono hbw3.size)⟩
    · rw [hlen2 hn] at NU
      have hnn : ((n.toNat : Nat) : Int) = n := by omega
      rw [hnn] at NU
      clear hlen0 hlen2 hv hlen hnn
      generalize digL n = D at *
      go_enter Try.func5, Try.ntmps5
      go_wp2_with fail
      refine (E1.out _).mono ?_
      rintro e w1 ⟨rfl, hb1⟩
      go_wp2_with fail
      refine (N1.out _).mono ?_
      rintro e w2 ⟨rfl, hb2⟩
      have hbw := hb1.trans (hb2.mono hb1.size)
      clear hb1 hb2
      go_wp2_with fail
      refine (SD.out _).mono ?_
      rintro e w3 ⟨rfl, hb3⟩
      have hbw3 := hbw.trans (hb3.mono hbw.size)
      clear hb3 hbw
      go_wp2_with fail
      refine (NU.out _).mono ?_
      rintro e w' ⟨rfl, rfl⟩
      go_wp2_with fail
      refine (AL.out _).mono ?_
      rintro e w6 ⟨rfl, hb6⟩
      go_wp2_with fail
      go_ret
      exact ⟨by simp, hbw3.trans (hb6.mono hbw3.size)⟩
  | false =>
    clear hv
    by_cases hn : n < 0
    · rw [hlen0 hn] at SD hnl NU
      rw [show numV ([] ++ [32, 55]) = (0, 0, false) by decide] at NU
      clear hlen0 hlen2 hlen
      go_enter Try.func5, Try.ntmps5
      go_wp2_with fail
      refine (E1.out _).mono ?_
      rintro e w1 ⟨rfl, hb1⟩
      go_wp2_with fail
      refine (N1.out _).mono ?_
      rintro e w2 ⟨rfl, hb2⟩
      have hbw := hb1.trans (hb2.mono hb1.size)
      clear hb1 hb2
      go_wp2_with fail
      refine (SD.out _).mono ?_
      rintro e w3 ⟨rfl, hb3⟩
      have hbw3 := hbw.trans (hb3.mono hbw.size)
      clear hb3 hbw
      go_wp2_with fail
      refine (NU.out _).mono ?_
      rintro e w' ⟨rfl, rfl⟩
      go_wp2_with fail
      refine (AL.out _).mono ?_
      rintro e w6 ⟨rfl, hb6⟩
      go_wp2_with fail
      go_ret
      exact ⟨by simp, hbw3.trans (hb6.mono hbw3.size)⟩
    · rw [hlen2 hn] at NU
      have hnn : ((n.toNat : Nat) : Int) = n := by omega
      rw [hnn] at NU
      clear hlen0 hlen2 hlen hnn
      generalize digL n = D at *
      go_enter Try.func5, Try.ntmps5
      go_wp2_with fail
      refine (E1.out _).mono ?_
      rintro e w1 ⟨rfl, hb1⟩
      go_wp2_with fail
      refine (N1.out _).mono ?_
      rintro e w2 ⟨rfl, hb2⟩
      have hbw := hb1.trans (hb2.mono hb1.size)
      clear hb1 hb2
      go_wp2_with fail
      refine (SD.out _).mono ?_
      rintro e w3 ⟨rfl, hb3⟩
      have hbw3 := hbw.trans (hb3.mono hbw.size)
      clear hb3 hbw
      go_wp2_with fail
      refine (NU.out _).mono ?_
      rintro e w' ⟨rfl, rfl⟩
      go_wp2_with fail
      refine (AL.out _).mono ?_
      rintro e w6 ⟨rfl, hb6⟩
      go_wp2_with fail
      go_ret
      exact ⟨by simp, hbw3.trans (hb6.mono hbw3.size)⟩
theorem SheetNodes_walk (L id n : Int) (w : World) (bL : In64 L) (bi : In64 id) (bn : In64 n) :
    Calls Try.prog 5 #[.int .i64 L, .int .i64 id, .int .i64 n] w fun e w' => e = .returned (.bool true) ∧ Below w.heap.size w w' := l_nodes L id n w bL bi bn
end Go.Proofs.Ythdljlclcepnhaa
