/- The walks of the package reckon: parts, orders, powers. -/
import Derived.Test.YtaihjcefgokjkaaRkProg
namespace Go.Proofs.Ytaihjcefgokjkaa
open Go.RowKit Rk

/-- Nothing has turned but a count of draws. -/
def Drawn (w w' : World) : Prop := ∃ n, w' = w.drewN n
theorem Drawn.refl (w : World) : Drawn w w := ⟨0, rfl⟩

theorem div64_any (hi lo y : Int) (w : World) (hh : 0 ≤ hi) (hhy : hi < y) (hl : 0 ≤ lo) (hl1 : lo ≤ 18446744073709551615) (hy1 : y ≤ 9223372036854775807) :
    Calls Try.prog 54 #[.int .u64 hi, .int .u64 lo, .int .u64 y] w fun e w' => e = .returned (.tuple #[.int .u64 ((hi * 18446744073709551616 + lo) / y), .int .u64 ((hi * 18446744073709551616 + lo) % y)]) ∧ Drawn w w' := by
  by_cases h : hi = 0
  · subst h
    refine (div64_small lo y w hl hl1 (by omega) (by omega)).mono ?_
    rintro e w' ⟨rfl, hd⟩
    exact ⟨by simp, hd⟩
  · refine (div64_great hi lo y w (by omega) hhy hl hl1 hy1).mono ?_
    rintro e w' ⟨rfl, rfl⟩
    exact ⟨rfl, Drawn.refl _⟩

theorem ret_uub {a b c d : Int} {x y : Bool} (h1 : a = c) (h2 : b = d) (h3 : x = y) : Ending.returned (.tuple #[.int .u64 a, .int .u64 b, .bool x]) = .returned (.tuple #[.int .u64 c, .int .u64 d, .bool y]) := by rw [h1, h2, h3]

set_option maxHeartbeats 400000 in
theorem share_no (n num den : Int) (w : World) (_hn : -9223372036854775808 ≤ n) (_hn1 : n ≤ 9223372036854775807) (_hm : -9223372036854775808 ≤ num) (_hm1 : num ≤ 9223372036854775807) (_hd : -9223372036854775808 ≤ den) (_hd1 : den ≤ 9223372036854775807)
    (h : ¬ (0 ≤ n ∧ 0 ≤ num ∧ 1 ≤ den)) :
    Calls Try.prog 45 #[.int .i64 n, .int .i64 num, .int .i64 den] w fun e w' => e = .returned (.tuple #[.int .u64 0, .int .u64 0, .bool false]) ∧ w = w' := by
  by_cases h1 : 0 ≤ n <;> by_cases h2 : 0 ≤ num <;> by_cases h3 : 1 ≤ den
  · exact absurd ⟨h1, h2, h3⟩ h
  all_goals
    clear h
    go_enter Try.func45, Try.ntmps45
    go_wp2
    go_ret3
    exact ⟨rfl, rfl⟩

set_option maxHeartbeats 400000 in
theorem share_far (n num den N : Int) (w : World) (hn : 0 ≤ n) (hn1 : n ≤ 9223372036854775807) (hm : 0 ≤ num) (hm1 : num ≤ 9223372036854775807) (hd : 1 ≤ den) (hd1 : den ≤ 9223372036854775807)
    (hN : Hid (n * num = N)) (h : den ≤ N / 18446744073709551616) :
    Calls Try.prog 45 #[.int .i64 n, .int .i64 num, .int .i64 den] w fun e w' => e = .returned (.tuple #[.int .u64 0, .int .u64 0, .bool false]) ∧ w = w' := by
  go_enter Try.func45, Try.ntmps45
  go_wp2_with (go_at_call 50; go_in)
  refine (mul64_any _ _ _ hn hm (by omega) (by omega)).mono ?_
  rintro e w' ⟨rfl, rfl⟩
  rw [hN.out]
  go_wp2_with fail
  go_ret3
  exact ⟨rfl, rfl⟩

set_option maxHeartbeats 400000 in
theorem share_yes (n num den N : Int) (w : World) (hn : 0 ≤ n) (hn1 : n ≤ 9223372036854775807) (hm : 0 ≤ num) (hm1 : num ≤ 9223372036854775807) (hd : 1 ≤ den) (hd1 : den ≤ 9223372036854775807)
    (hN : Hid (n * num = N)) (h0 : 0 ≤ N) (h : N / 18446744073709551616 < den) :
    Calls Try.prog 45 #[.int .i64 n, .int .i64 num, .int .i64 den] w fun e w' => e = .returned (.tuple #[.int .u64 (N / den), .int .u64 (N % den), .bool true]) ∧ Drawn w w' := by
  obtain ⟨hi, ehi⟩ : ∃ hi, N / 18446744073709551616 = hi := ⟨_, rfl⟩
  obtain ⟨lo, elo⟩ : ∃ lo, N % 18446744073709551616 = lo := ⟨_, rfl⟩
  have hh : 0 ≤ hi := by omega
  have hl : 0 ≤ lo := by omega
  have hl1 : lo ≤ 18446744073709551615 := by omega
  rw [ehi] at h
  have e : hi * 18446744073709551616 + lo = N := by omega
  have E := hid e
  have Ehi := hid ehi
  have Elo := hid elo
  clear e ehi elo
  go_enter Try.func45, Try.ntmps45
  go_wp2_with (go_at_call 50; go_in)
  refine (mul64_any _ _ _ hn hm (by omega) (by omega)).mono ?_
  rintro e w' ⟨rfl, rfl⟩
  rw [hN.out, Ehi.out, Elo.out]
  go_wp2_with fail
  refine (div64_any _ _ _ _ hh h hl hl1 hd1).mono ?_
  rintro e w' ⟨rfl, k, rfl⟩
  rw [E.out]
  go_wp2_with fail
  go_ret3
  exact ⟨rfl, k, rfl⟩
end Go.Proofs.Ytaihjcefgokjkaa
