/- The walk of the statements' alive, of layer 13. -/
import Derived.Test.YtejoecoenehooaaDg3
namespace Go.Proofs.Ytejoecoenehooaa
open Go.RowKit Nl

namespace Nl
def aliveL : Nat → List (Int × Int)
  | 0 => []
  | n + 1 => (dgIns 3 1 (aliveL n) n 1).1
def aliveM : List (Int × Int) := (dgIns 3 1 (aliveL 8) 0 1).1
theorem alive_step : ∀ n, n < 8 → (dgIns 3 1 (aliveL n) n 1).2 = 0 ∧ (aliveL n).length = n := by decide +kernel
theorem alive_facts : (aliveL 8).length = 8 ∧ (dgIns 3 1 (aliveL 8) 0 1).2 = 0 ∧ sumL aliveM = 9 ∧ aliveM.length = 8 ∧ (comL 3 1 aliveM).1 = [(1, 9)] := by decide +kernel
end Nl
/-- A digest's turning, seen from before it was made. -/
theorem ChB.of_new {S : Nat → Prop} {w w1 w2 : World} (hb : Below w.heap.size w w1) (c : ChB S w1 w2) (hS : ∀ j, S j → w.heap.size ≤ j) : Below w.heap.size w w2 :=
  hb.trans (c.below (fun j _ h => hS j h) hb.size)

set_option maxRecDepth 100000 in
set_option maxHeartbeats 2000000 in
theorem d_alive (w : World) : Calls Try.prog 47 #[] w fun e w' => e = .returned (.bool true) ∧ Below w.heap.size w w' := by
  have N := hid (fun W : World => dg_new 2 3 1 W (by decide) (by decide))
  obtain ⟨a1, a2, a3, a4, a5⟩ := alive_facts
  have st := hid alive_step
  have A1 := hid a1
  have A2 := hid a2
  have A3 := hid a3
  have A4 := hid a4
  have A5 := hid a5
  clear a1 a2 a3 a4 a5
  go_enter Try.func47, Try.ntmps47
  go_wp2_with fail
  refine (N.out _).mono ?_
  rintro e w1 ⟨dg, q, g, h, rfl, d, hdg, hq, hg, hh, hb⟩
  have lt := d.ltB
  have R0 : Hid (∃ h', (h' = h ∨ w.heap.size ≤ h') ∧ DgV w1 dg q g h' 2 3 1 2000 (aliveL 0) ∧ Below w.heap.size w w1) := ⟨h, .inl rfl, d, hb⟩
  have hh0 : w.heap.size ≤ h := hh
  clear d hb lt N
  go_wp2_with fail
  go_loopw [15] (fun i wr => ∃ n : Nat, i = .int .i64 n ∧ n ≤ 8 ∧ Hid (∃ h', (h' = h ∨ w.heap.size ≤ h') ∧ DgV wr dg q g h' 2 3 1 2000 (aliveL n) ∧ Below w.heap.size w wr)) (fun i _ => 8 - (intOf i).toNat)
  case atStart => exact ⟨0, rfl, by omega, R0⟩
  case round =>
    obtain ⟨n, rfl, hn, hI⟩ := hrel
    obtain ⟨h', hh', d, hb⟩ := hI.out
    by_cases hlt : n < 8
    · obtain ⟨s1, s2⟩ := st.out n hlt
      have I0 := dg_insert d (n : Int) 1 (by decide) (by rw [s2]; omega) (by rw [s2]; omega) ⟨by omega, by omega⟩ ⟨by decide, by decide⟩
      have e1 : dgIns 3 1 (aliveL n) n 1 = (aliveL (n + 1), 0) := Prod.ext rfl s1
      rw [e1] at I0
      have I := hid I0
      have HB := hid hb
      clear I0 e1 s1 s2 hI d hb
      go_wp2_with fail
      refine I.out.mono ?_
      rintro e w2 ⟨rfl, h2, d2, hh2, c2⟩
      have HB2 : Hid (∃ h', (h' = h ∨ w.heap.size ≤ h') ∧ DgV w2 dg q g h' 2 3 1 2000 (aliveL (n + 1)) ∧ Below w.heap.size w w2) := ⟨h2, by have := HB.out.size; omega, d2, ChB.of_new HB.out c2 (fun j hj => by rcases hj with e | e | e | e <;> omega)⟩
      clear d2 hh2 c2 I HB
      go_wp2_with fail
      go_roundw
      case rel => exact ⟨n + 1, by go_num, by omega, HB2⟩
      case measure => simp [intOf]; omega
    · obtain rfl : n = 8 := by omega
      have I1 := dg_insert d 0 1 (by decide) (by rw [A1.out]; omega) (by rw [A1.out]; omega) ⟨by decide, by decide⟩ ⟨by decide, by decide⟩
      have e1 : dgIns 3 1 (aliveL 8) 0 1 = (aliveM, 0) := Prod.ext rfl A2.out
      rw [e1] at I1
      have LN0 := dg_len d
      rw [A1.out] at LN0
      have LN := hid LN0
      have RM := hid (dg_room d)
      have I2 := hid (fun W (y : DgV W dg q g h' 2 3 1 2000 (aliveL 8)) => dg_insert y 0 1 (by decide) (by rw [A1.out]; omega) (by rw [A1.out]; omega) ⟨by decide, by decide⟩ ⟨by decide, by decide⟩)
      rw [e1] at I2
      have NN0 := fun W h2 (y : DgV W dg q g h2 2 3 1 2000 aliveM) => dg_n y
      simp only [A3.out] at NN0
      have NN := hid NN0
      have CM := hid (fun W h2 (y : DgV W dg q g h2 2 3 1 2000 aliveM) => dg_compress y (by decide) (by rw [A4.out]; omega) (by rw [A4.out]; omega))
      have C1 := hid A5.out
      have c5 : (comL 3 1 aliveM) = ([(1, 9)], (comL 3 1 aliveM).2) := Prod.ext A5.out rfl
      rw [c5] at CM
      generalize (comL 3 1 aliveM).2 = stp at *
      generalize aliveM = M at *
      generalize aliveL 8 = L8 at *
      clear I1 LN0 NN0 e1 c5 C1 hI hlt
      go_wp2_with fail
      refine LN.out.mono ?_
      rintro e w' ⟨rfl, rfl⟩
      go_wp2_with fail
      refine RM.out.mono ?_
      rintro e w2 ⟨rfl, hb2⟩
      have I3 := hid (I2.out w2 (d.below hb2 (Nat.le_refl _)))
      have hb2w := hb.trans (hb2.mono hb.size)
      clear RM LN I2 d
      go_wp2_with fail
      refine I3.out.mono ?_
      rintro e w3 ⟨rfl, h3, d3, hh3, c3⟩
      have hb3w := ChB.of_new hb2w c3 (fun j hj => by rcases hj with e | e | e | e <;> omega)
      have hh3' : w.heap.size ≤ h3 := by have := hb2w.size; omega
      have N3 := hid (NN.out w3 h3 d3)
      have C3 := hid (CM.out w3 h3 d3)
      clear I3 c3 hh3 NN CM d3
      go_wp2_with fail
      refine N3.out.mono ?_
      rintro e w' ⟨rfl, rfl⟩
      go_wp2_with fail
      refine C3.out.mono ?_
      rintro e w4 ⟨rfl, h4, d4, hh4, c4⟩
      have hb4w := ChB.of_new hb3w c4 (fun j hj => by rcases hj with e | e | e | e <;> omega)
      have SN := hid (dg_nodes d4 (by decide))
      clear C3 N3 c4 hh4
      go_wp2_with fail
      refine SN.out.mono ?_
      rintro e w5 hN
      obtain ⟨v5, rfl, own5, hb5⟩ := hN
      have r5 := own5.rd.below ((Below.refl w5.heap.size w5).alloc (Nat.le_refl _) (.cells #[.int .i64 1, .int .i64 9] 100)) (Nat.le_refl _)
      have rl := rd_lit w5 [((1 : Int), (9 : Int))] 100 (by simp)
      have SM := hid (r_same _ r5 rl (by decide) (by decide))
      have hs4 := hb4w.size
      have hb5w := (hb4w.trans (hb5.mono (by omega))).alloc (by have := hb5.size; omega) (.cells #[.int .i64 1, .int .i64 9] 100)
      clear r5 rl own5 SN d4
      go_wp2_with fail
      refine SM.out.mono ?_
      rintro e w6 ⟨rfl, n6, rfl⟩
      go_wp2_with fail
      go_ret
      exact ⟨ret_bool (by decide), below_drewN hb5w n6⟩
end Go.Proofs.Ytejoecoenehooaa
