/- The walk of law 14's alive. -/
import Derived.Test.YtnakieopnobjmaaGreatBl2
import Derived.Test.YtnakieopnobjmaaGreatDg4
import Derived.Laws.StructEq
namespace Go.Proofs.YtnakieopnobjmaaGreat
open Go.RowKit Nl

theorem conf_eq3 (a b c a' b' c' : Int) (w : World) : (Op.equalIn 10000 23 (.agg #[.int .i64 a, .int .i64 b, .int .i64 c]) (.agg #[.int .i64 a', .int .i64 b', .int .i64 c'])).run Tryz.prog w = .ok (a == a' && (b == b' && c == c')) w := by
  rw [run_equalIn_struct w 9999 23 _ _ (by kernel_rfl) (by kernel_rfl)]
  simp only [Program.fieldsOf, Tryz.underlying23]
  by_cases h1 : a = a' <;> by_cases h2 : b = b' <;> by_cases h3 : c = c' <;> simp [Op.eqFields, go_sem, h1, h2, h3]
theorem al14_facts : dgIns 2 1 [] 0 1 = ([(4, 1)], 0) ∧ dgIns 2 2 [] 3 2 = ([(7, 2)], 0) ∧ mergeL 2 1 [(4, 1)] [(7, 2)] = [(1, 3)] := by decide +kernel
set_option maxRecDepth 100000 in
set_option maxHeartbeats 4000000 in
theorem al14 (w : World) : Calls Tryz.prog 25 #[] w fun e w' => e = .returned (.bool true) ∧ Below w.heap.size w w' := by
  have N1 := hid (fun W : World => dg_new 2 2 1 W (by decide) (by decide))
  have N2 := hid (fun W : World => dg_new 1 2 2 W (by decide) (by decide))
  obtain ⟨a1, a2, a3⟩ := al14_facts
  have I1 := fun W dg q g h (x : DgV W dg q g h 2 2 1 2000 []) => dg_insert x 0 1 (by decide) (by decide) (by decide) ⟨by decide, by decide⟩ ⟨by decide, by decide⟩
  have I2 := fun W dg q g h (x : DgV W dg q g h 1 2 2 2000 []) => dg_insert x 3 2 (by decide) (by decide) (by decide) ⟨by decide, by decide⟩ ⟨by decide, by decide⟩
  have MG := fun W dg q g h dg' q' g' h' (x : DgV W dg q g h 2 2 1 2000 [(4, 1)]) (y : DgV W dg' q' g' h' 1 2 2 2000 [(7, 2)]) => bl_merge x y (by decide) (by decide) (by decide) (by decide)
  rw [a1] at I1
  rw [a2] at I2
  rw [show min (1 : Int) 2 = 1 from rfl, a3] at MG
  have I1' := hid I1
  have I2' := hid I2
  have MG' := hid MG
  have hce := fun W : World => conf_eq3 2 1 2 2 1 2 W
  have hz : ((2 : Int) == 2 && ((1 : Int) == 1 && (2 : Int) == 2)) = true := rfl
  rw [hz] at hce
  have NS := fun W (a b : Value) (x : RdN W a [(1, 3)]) (y : RdN W b [(1, 3)]) => r_same W x y (by decide) (by decide)
  rw [show decide ([((1 : Int), (3 : Int))] = [(1, 3)]) = true from rfl] at NS
  have NS' := hid NS
  clear a1 a2 a3 I1 I2 MG hz NS
  go_enter Tryz.func25, Tryz.ntmps25
  go_wp2_with fail
  refine (N1.out _).mono ?_
  rintro e w1 ⟨dg, q, g, h, rfl, d, e1, e2, e3, e4, hb1⟩
  have hs1 := hb1.size
  have ltd := d.ltB
  go_wp2_with fail
  refine (N2.out _).mono ?_
  rintro e w2 ⟨dg', q', g', h', rfl, d', e1', e2', e3', e4', hb2⟩
  have hs2 := hb2.size
  have ltd' := d'.ltB
  have d2 := d.below hb2 (Nat.le_refl _)
  have hbw2 := hb1.trans (hb2.mono hs1)
  clear d hb1 hb2
  go_wp2_with fail
  refine (I1'.out _ _ _ _ _ d2).mono ?_
  rintro e w3 ⟨rfl, h3, d3, hh3, c3⟩
  have hs3 := c3.size
  have d3' := d'.keepB (w' := w3) (fun j hj hd => c3.block j hj (fun hp => by
    have := ltd j hp
    rcases hd with e | e | e | e <;> omega))
  have hbw3 := ChB.of_new hbw2 c3 (fun j hj => by rcases hj with e | e | e | e <;> omega)
  have ltd3 := d3.ltB
  dsimp only at d3
  clear d2 d'
  go_wp2_with fail
  refine (I2'.out _ _ _ _ _ d3').mono ?_
  rintro e w4 ⟨rfl, h4, d4', hh4, c4⟩
  have hs4 := c4.size
  have d4 := d3.keepB (w' := w4) (fun j hj hd => c4.block j hj (fun hp => by
    have hd' : j = dg ∨ j = q ∨ j = g ∨ j = h3 := hd
    have hp' : j = dg' ∨ j = q' ∨ j = g' ∨ j = h' := hp
    have t1 := ltd dg (.inl rfl)
    have t2 := ltd q (.inr (.inl rfl))
    have t3 := ltd g (.inr (.inr (.inl rfl)))
    have t4 := ltd h (.inr (.inr (.inr rfl)))
    have t5 := ltd' j hp
    rcases hh3 with q1 | q1 <;> rcases hd' with e | e | e | e <;> rcases hp' with f | f | f | f <;> omega))
  have hbw4 := ChB.of_new hbw3 c4 (fun j hj => by rcases hj with e | e | e | e <;> omega)
  dsimp only at d4'
  clear d3 d3'
  go_wp2_with fail
  refine (MG'.out _ _ _ _ _ _ _ _ _ d4 d4').mono ?_
  rintro e w5 ⟨dm, qm, gm, hm, rfl, dm5, -, -, -, -, hb5⟩
  have hbw5 := hbw4.trans (hb5.mono hbw4.size)
  have CF := hid (dg_conf dm5)
  go_wp2_with fail
  refine CF.out.mono ?_
  rintro e w6 ⟨rfl, hb6⟩
  have hbw6 := hbw5.trans (hb6.mono hbw5.size)
  have ND := hid (dg_nodes (dm5.below hb6 (Nat.le_refl _)) (by decide))
  clear dm5 CF
  go_wp2_with fail
  refine ND.out.mono ?_
  rintro e w7 ⟨v7, rfl, o7, hb7⟩
  have hbw7 := hbw6.trans (hb7.mono hbw6.size)
  have hL : RdN (w7.alloc (.cells #[.int .i64 1, .int .i64 3] 93)) (.slice (some ⟨w7.heap.size, 0, none⟩) 1 1) [(1, 3)] := rd_lit w7 [(1, 3)] 93 (by decide)
  have r7 := o7.rd.alloc (.cells #[.int .i64 1, .int .i64 3] 93)
  have hbw8 := hbw7.alloc hbw7.size (.cells #[.int .i64 1, .int .i64 3] 93)
  go_wp2_with fail
  refine (NS'.out _ _ _ r7 hL).mono ?_
  rintro e w9 ⟨rfl, n9, rfl⟩
  go_wp2_with fail
  go_ret
  exact ⟨rfl, below_drewN hbw8 n9⟩
end Go.Proofs.YtnakieopnobjmaaGreat
