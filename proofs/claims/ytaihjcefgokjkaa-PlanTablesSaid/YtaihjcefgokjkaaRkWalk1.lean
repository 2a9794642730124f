/- The walks of the reference's functions on lists of digits (Digits, digit, Sum, Less). -/
import Derived.Test.YtaihjcefgokjkaaMem
import Derived.Test.YtaihjcefgokjkaaRkMath
namespace Go.Proofs.Ytaihjcefgokjkaa
open Go.RowKit Rk

/-- A number, as digits in new memory; at most so many. -/
def IsNum (n : Int) (most : Nat) (w : World) (e : Ending) (w' : World) : Prop :=
  ∃ v xs, e = .returned v ∧ Own w' w.heap.size v xs ∧ Dig xs ∧ val xs = n ∧ xs.length ≤ most ∧ Below w.heap.size w w'

set_option maxHeartbeats 400000 in
theorem digits_no (n : Int) (hn : n ≤ 0) (hn0 : -9223372036854775808 ≤ n) (w : World) :
    Calls Try.prog 44 #[.int .i64 n] w fun e w' => e = .returned (.slice none 0 0) ∧ w = w' := by
  go_enter Try.func44, Try.ntmps44
  go_wp2
  refine wp_loop_once ?_
  go_wp2
  go_ret
  exact ⟨rfl, rfl⟩

def DigitsRel (w : World) (n : Int) (a v : Value) (wr : World) : Prop :=
  ∃ (m : Int) (xs : List Int), a = .int .i64 m ∧ 0 ≤ m ∧ m ≤ 9223372036854775807 ∧ Own wr w.heap.size v xs ∧ Dig xs ∧ Hid (val xs + pw xs.length * m = n) ∧ Hid (xs ≠ [] → pw (xs.length - 1) ≤ n) ∧ Below w.heap.size w wr

set_option maxHeartbeats 400000 in
theorem digits_yes (n : Int) (hn : n ≤ 9223372036854775807) (hn0 : 0 < n) (w : World) :
    Calls Try.prog 44 #[.int .i64 n] w (IsNum n 7 w) := by
  go_enter Try.func44, Try.ntmps44
  go_wp2
  go_loopw [0, 3] (fun a v wr => DigitsRel w n a v wr) (fun a _ _ => (intOf a).toNat)
  case atStart => exact ⟨n, [], rfl, by omega, by omega, Own.nil _ _, Dig.nil, by simp [Hid, val, pw], by simp [Hid], Below.refl _ _⟩
  case round =>
    obtain ⟨m, xs, rfl, hm0, hm1, hown, hd, hv, hlen, hb⟩ := hrel
    by_cases hm : 0 < m
    · have hst := hid (step_digits hd hm hv.out)
      have hl7 := len_digits hn hlen.out
      have hbs := hb.size
      go_wp2_with (at_builtin; refine append1 (c := m % 1000) _ _ hown (by omega) (by omega) rfl rfl rfl rfl rfl ?_; intro v' w1 hown1 hgrow hnn)
      obtain ⟨s1, s2, s3, s4, s5, s6⟩ := hst.out
      go_roundw
      case rel => exact ⟨_, _, rfl, s4, by omega, hown1, s1, s2, fun _ => s3, hb.grown hgrow (by omega) hown.lt⟩
      case measure => simp [intOf]; omega
    · go_wp2
      go_ret
      have e : m = 0 := by omega
      exact ⟨_, _, rfl, hown, hd, by have := hv.out; rw [e] at this; simpa using this, len_digits hn hlen.out, hb⟩

/-- Digits: of whatever number. -/
theorem digits_any (n : Int) (hn : n ≤ 9223372036854775807) (hn0 : -9223372036854775808 ≤ n) (w : World) :
    Calls Try.prog 44 #[.int .i64 n] w (IsNum (max n 0) 7 w) := by
  by_cases h : n ≤ 0
  · refine (digits_no n h hn0 w).mono ?_
    rintro e w' ⟨rfl, rfl⟩
    exact ⟨_, [], rfl, Own.nil _ _, Dig.nil, by simp [val]; omega, by simp, Below.refl _ _⟩
  · refine (digits_yes n hn (by omega) w).mono ?_
    rintro e w' ⟨v, xs, h1, h2, h3, h4, h5, h6⟩
    exact ⟨v, xs, h1, h2, h3, by omega, h5, h6⟩

set_option maxHeartbeats 400000 in
/-- digit: 0 beyond the last one. -/
theorem digit_any {v : Value} {B : Nat} {xs : List Int} (k : Nat) (d : Int) (w : World) (hown : Own w B v xs) (hd0 : Hid (xs.getD k 0 = d)) (hl : xs.length < 1048576) (_hi2 : k ≤ 1048576) :
    Calls Try.prog 52 #[v, .int .i64 k] w fun e w' => e = .returned (.int .i64 d) ∧ w = w' := by
  rcases hown.shape with ⟨rfl, rfl⟩ | ⟨g, cap, rfl, hc⟩
  · obtain rfl : 0 = d := by have := hd0.out; simpa using this
    clear hd0
    go_enter Try.func52, Try.ntmps52
    go_wp2
    go_ret
    exact ⟨rfl, rfl⟩
  · clear hown
    by_cases hk : k < xs.length
    · have hc1 : w.cell? ⟨g, k, none⟩ = some (.int .i64 d) := by rw [hc k hk, hd0.out]
      clear hc
      go_enter Try.func52, Try.ntmps52
      go_wp2
      go_ret
      exact ⟨rfl, rfl⟩
    · clear hc
      obtain rfl : 0 = d := by have := hd0.out; simpa [List.getD, List.getElem?_eq_none (Nat.le_of_not_lt hk)] using this
      clear hd0
      go_enter Try.func52, Try.ntmps52
      go_wp2
      go_ret
      exact ⟨rfl, rfl⟩
end Go.Proofs.Ytaihjcefgokjkaa
