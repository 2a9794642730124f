/- The walk of law 24's alive. -/
import Derived.Test.YtbbkfjbaocpknaaGreatWr6
import Derived.Test.YtbbkfjbaocpknaaGreatDr5
namespace Go.Proofs.YtbbkfjbaocpknaaGreat
open Go.RowKit Nl Vy

def aliveZw : List Nd := [(2, 5)]
theorem Vy.alive_load : loadE 2 1 2 aliveZw = 0 := by decide
theorem Vy.alive_enc : encL 1 2 (sumL aliveZw) (aliveZw.map (fun x => x.1)) (aliveZw.map (fun x => x.2)) = [68, 87, 80, 1, 1, 2, 5, 1, 2, 5, 8, 120, 0, 253] := by
  have e5 : sumL aliveZw = 5 := by decide
  have v (n : Nat) (h : n < 128) : vyL n = [UInt8.ofNat n] := vy_low h
  have v1 := v 1 (by decide)
  have v2 := v 2 (by decide)
  have v5 := v 5 (by decide)
  rw [e5]
  simp only [encL, headB, risesL, gapsL, wsL, aliveZw, List.map_cons, List.map_nil, List.length_cons, List.length_nil, Nat.zero_add, lastI, List.getD, List.getElem?_cons_zero, Option.getD_some, Int.sub_zero]
  simp only [show (1 : Int).toNat = 1 from rfl, show (2 : Int).toNat = 2 from rfl, show (5 : Int).toNat = 5 from rfl, v1, v2, v5]
  decide
set_option maxRecDepth 100000 in
set_option maxHeartbeats 1000000 in
theorem w_alive (w : World) : Calls Tryz.prog 22 #[] w fun e w' => e = .returned (.bool true) ∧ Below w.heap.size w w' := by
  have X1 : Blk (w.alloc (.cells #[.int .i64 2, .int .i64 5] 83)) w.heap.size #[.int .i64 2, .int .i64 5] 83 := Blk.new w _ _
  have hb1 : Below w.heap.size w (w.alloc (.cells #[.int .i64 2, .int .i64 5] 83)) := (Below.refl _ _).alloc (Nat.le_refl _) _
  have R1 : RdN (w.alloc (.cells #[.int .i64 2, .int .i64 5] 83)) (.slice (some ⟨w.heap.size, 0, none⟩) 1 1) aliveZw := .inr (.inr ⟨w.heap.size, 0, 1, rfl, X1.lt, by decide, fun k hk => by
    have hk : k < 1 := hk
    obtain rfl : k = 0 := by omega
    exact ⟨X1.cell 0, X1.cell 1⟩⟩)
  have LD := hid (dg_load 2 1 2 R1 (by intro x hx; simp [aliveZw] at hx; rcases hx with rfl; exact ⟨⟨by decide, by decide⟩, ⟨by decide, by decide⟩⟩) (by decide) alive_load)
  have TX := hid (fun (W : World) dg q g h (d : DgV W dg q g h 2 1 2 2000 aliveZw) => w_encode d (by decide) (by decide))
  rw [alive_enc] at TX
  clear X1 R1
  go_enter Tryz.func22, Tryz.ntmps22
  go_wp2_with fail
  refine LD.out.mono ?_
  rintro e w2 ⟨dg, q, g, h, rfl, d2, -, -, -, -, hb2⟩
  have hbw := hb1.trans (hb2.mono hb1.size)
  clear hb1 hb2 LD
  go_wp2_with fail
  refine (TX.out _ _ _ _ _ d2).mono ?_
  rintro e w3 ⟨rfl, hb3⟩
  clear TX d2
  go_wp2_with fail
  go_ret
  exact ⟨rfl, hbw.trans (hb3.mono hbw.size)⟩
end Go.Proofs.YtbbkfjbaocpknaaGreat
