/- The walk of law 25's alive. -/
import Derived.Test.YthdljlclcepnhaaGreatSHB
import Derived.Test.YthdljlclcepnhaaGreatDr5
namespace Go.Proofs.YthdljlclcepnhaaGreat
open Go.RowKit Nl Sh

def aliveZs : List Nd := [(5, 2), (8, 4)]
theorem Sh.alive_load : loadE 2 3 1 aliveZs = 0 := by decide
theorem Sh.alive_text : textL 3 1 aliveZs = [100, 105, 103, 101, 115, 116, 32, 51, 32, 49, 32, 54, 10, 50, 46, 46, 51, 32, 50, 10, 48, 46, 46, 48, 32, 52, 10] := by
  have e1 : endsLo 3 5 = 2 := by decide
  have e2 : endsHi 3 5 = 3 := by decide
  have e3 : endsLo 3 8 = 0 := by decide
  have e4 : endsHi 3 8 = 0 := by decide
  have e5 : sumL aliveZs = 6 := by decide
  have d (n : Nat) (h : n < 10) : digL (n : Int) = [UInt8.ofNat (48 + n)] := by
    unfold digL; rw [if_neg (by omega), Int.toNat_natCast, decL_low h]
  have d0 : digL 0 = [48] := d 0 (by decide)
  have d1 : digL 1 = [49] := d 1 (by decide)
  have d2 : digL 2 = [50] := d 2 (by decide)
  have d3 : digL 3 = [51] := d 3 (by decide)
  have d4 : digL 4 = [52] := d 4 (by decide)
  have d6 : digL 6 = [54] := d 6 (by decide)
  unfold textL headL bodyL
  rw [e5]
  simp only [aliveZs, List.map_cons, List.map_nil, lineL, e1, e2, e3, e4, d0, d1, d2, d3, d4, d6]
  rfl
set_option maxRecDepth 100000 in
set_option maxHeartbeats 1000000 in
theorem s_alive (w : World) : Calls Tryz.prog 5 #[] w fun e w' => e = .returned (.bool true) ∧ Below w.heap.size w w' := by
  have X1 : Blk (w.alloc (.cells #[.int .i64 5, .int .i64 2, .int .i64 8, .int .i64 4] 55)) w.heap.size #[.int .i64 5, .int .i64 2, .int .i64 8, .int .i64 4] 55 := Blk.new w _ _
  have hb1 : Below w.heap.size w (w.alloc (.cells #[.int .i64 5, .int .i64 2, .int .i64 8, .int .i64 4] 55)) := (Below.refl _ _).alloc (Nat.le_refl _) _
  have R1 : RdN (w.alloc (.cells #[.int .i64 5, .int .i64 2, .int .i64 8, .int .i64 4] 55)) (.slice (some ⟨w.heap.size, 0, none⟩) 2 2) aliveZs := .inr (.inr ⟨w.heap.size, 0, 2, rfl, X1.lt, by decide, fun k hk => by
    have hk : k < 2 := hk
    obtain rfl | rfl : k = 0 ∨ k = 1 := by omega
    · exact ⟨X1.cell 0, X1.cell 1⟩
    · exact ⟨X1.cell 2, X1.cell 3⟩⟩)
  have LD := hid (dg_load 2 3 1 R1 (by intro x hx; simp [aliveZs] at hx; rcases hx with rfl | rfl <;> exact ⟨⟨by decide, by decide⟩, ⟨by decide, by decide⟩⟩) (by decide) alive_load)
  have TX := hid (fun (W : World) dg q g h (d : DgV W dg q g h 2 3 1 2000 aliveZs) => s_text d (by decide) ⟨by decide, by decide⟩ ⟨by decide, by decide⟩ ⟨by decide, by decide⟩ (by intro x hx; simp [aliveZs] at hx; rcases hx with rfl | rfl <;> exact ⟨by decide, by decide⟩))
  rw [alive_text] at TX
  clear X1 R1
  go_enter Tryz.func5, Tryz.ntmps5
  go_wp2_with fail
  refine LD.out.mono ?_
  rintro e w2 ⟨dg, q, g, h, rfl, d2, -, -, -, -, hb2⟩
  have hbw := hb1.trans (hb2.mono hb1.size)
  clear hb1 hb2 LD
  go_wp2_with fail
  refine (TX.out _ _ _ _ _ d2).mono ?_
  rintro e w3 ⟨rfl, hb3⟩
  clear TX d2
  go_wp2_with fail
  go_ret
  exact ⟨rfl, hbw.trans (hb3.mono hbw.size)⟩
end Go.Proofs.YthdljlclcepnhaaGreat
