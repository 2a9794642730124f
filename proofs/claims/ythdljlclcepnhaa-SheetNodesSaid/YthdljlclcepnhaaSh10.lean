/- The walk of SheetNumbers. -/
import Derived.Test.YthdljlclcepnhaaSh2
import Derived.Test.YthdljlclcepnhaaSh4
import Derived.Test.YthdljlclcepnhaaSh6
import Derived.Test.YthdljlclcepnhaaSh9
namespace Go.Proofs.Ythdljlclcepnhaa
open Go.RowKit Nl Sh

set_option maxRecDepth 100000 in
set_option maxHeartbeats 2000000 in
theorem l_numbers (n a b c : Int) (s : ByteArray) (w : World) (bn : In64 n) (ba : In64 a) (bb : In64 b) (bc : In64 c) (hs : s.size ≤ 9223372036854775807) :
    Calls Try.prog 4 #[.int .i64 n, .string s, .agg #[.int .i64 a, .int .i64 b, .int .i64 c]] w fun e w' => e = .returned (.bool true) ∧ Below w.heap.size w w' := by
  have X1 : Blk (w.alloc (.cells #[.int .i64 a, .int .i64 b, .int .i64 c] 40)) w.heap.size #[.int .i64 a, .int .i64 b, .int .i64 c] 40 := Blk.new w _ _
  have hb1 : Below w.heap.size w (w.alloc (.cells #[.int .i64 a, .int .i64 b, .int .i64 c] 40)) := (Below.refl _ _).alloc (Nat.le_refl _) _
  have AL := hid s_alive
  by_cases h200 : 200 < s.size
  · have g1 : decide ((200 : Int) < (s.size : Int)) = true := decide_eq_true (by omega)
    go_enter Try.func4, Try.ntmps4
    go_wp2_with fail
    refine (AL.out _).mono ?_
    rintro e w2 ⟨rfl, hb2⟩
    go_wp2_with fail
    go_ret
    exact ⟨rfl, hb1.trans (hb2.mono hb1.size)⟩
  · have g1 : decide ((200 : Int) < (s.size : Int)) = false := decide_eq_false (by omega)
    go_enter Try.func4, Try.ntmps4
    go_wp2_with fail
    have NB0 := hid (fun W => s_number s W hs)
    have NR0 := hid (fun W => r_number s W hs)
    have ND0 := hid (fun W => s_node a b c W ba bb bc)
    have RD0 := hid (fun W => r_node a b c W ba bb bc)
    have SD0 := hid (fun W => s_digs n W bn)
    have GD0 := hid (fun W => r_digits n W bn)
    have DL := hid (digS_list n)
    unfold NumPost at NB0 NR0
    unfold NodePost at ND0 RD0
    generalize (numV s.data.toList).1 = p1 at *
    generalize (numV s.data.toList).2.1 = p2 at *
    generalize (numV s.data.toList).2.2 = p3 at *
    generalize nodeV a b c = q1 at *
    generalize nodeB a b c = q2 at *
    generalize w.alloc (.cells #[.int .i64 a, .int .i64 b, .int .i64 c] 40) = w1 at *
    have x0 : w1.cell? ⟨w.heap.size, 0, none⟩ = some (.int .i64 a) := X1.cell 0
    have x1 : w1.cell? ⟨w.heap.size, 1, none⟩ = some (.int .i64 b) := X1.cell 1
    have x2 : w1.cell? ⟨w.heap.size, 2, none⟩ = some (.int .i64 c) := X1.cell 2
    refine (NB0.out _).mono ?_
    rintro e w' ⟨rfl, rfl⟩
    go_wp2_with fail
    refine (NR0.out _).mono ?_
    rintro e w' ⟨rfl, rfl⟩
    go_wp2_with fail
    refine (ND0.out _).mono ?_
    rintro e w2 ⟨rfl, hb2⟩
    have X2 := X1.below hb2 (Nat.le_refl _)
    have hbw2 := hb1.trans (hb2.mono hb1.size)
    clear X1 x0 x1 x2 hb2 hb1
    have x0 : w2.cell? ⟨w.heap.size, 0, none⟩ = some (.int .i64 a) := X2.cell 0
    have x1 : w2.cell? ⟨w.heap.size, 1, none⟩ = some (.int .i64 b) := X2.cell 1
    have x2 : w2.cell? ⟨w.heap.size, 2, none⟩ = some (.int .i64 c) := X2.cell 2
    go_wp2_with fail
    refine (RD0.out _).mono ?_
    rintro e w3 ⟨rfl, hb3⟩
    have hbw3 := hbw2.trans (hb3.mono hbw2.size)
    clear X2 x0 x1 x2 hb3 hbw2
    go_wp2_with fail
    refine (SD0.out _).mono ?_
    rintro e w4 ⟨rfl, hb4⟩
    have hbw4 := hbw3.trans (hb4.mono hbw3.size)
    go_wp2_with fail
    refine (GD0.out _).mono ?_
    rintro e w5 ⟨rfl, hb5⟩
    rw [DL.out]
    have hbw5 := hbw4.trans (hb5.mono hbw4.size)
    clear hb4 hb5 hbw3 hbw4
    go_wp2_with fail
    refine (AL.out _).mono ?_
    rintro e w6 ⟨rfl, hb6⟩
    go_wp2_with fail
    go_ret
    exact ⟨by simp, hbw5.trans (hb6.mono hbw5.size)⟩
theorem SheetNumbers_walk (n : Int) (s : ByteArray) (a b c : Int) (w : World) (bn : In64 n) (hs : s.size ≤ maxLen) (a1 : -9223372036854775808 ≤ a) (a2 : a ≤ 9223372036854775807) (b1 : -9223372036854775808 ≤ b) (b2 : b ≤ 9223372036854775807) (c1 : -9223372036854775808 ≤ c) (c2 : c ≤ 9223372036854775807) :
    Calls Try.prog 4 #[.int .i64 n, .string s, .agg #[.int .i64 a, .int .i64 b, .int .i64 c]] w fun e w' => e = .returned (.bool true) ∧ Below w.heap.size w w' :=
  l_numbers n a b c s w bn ⟨a1, a2⟩ ⟨b1, b2⟩ ⟨c1, c2⟩ (Nat.le_trans hs (by decide))
end Go.Proofs.Ythdljlclcepnhaa
