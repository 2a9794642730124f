/- The walks of law 15's same and alive, and of the reference's errors. -/
import Derived.Test.YtnakieopnobjmaaGreatRc4
import Derived.Test.YtnakieopnobjmaaGreatBL2
namespace Go.Proofs.YtnakieopnobjmaaGreat
open Go.RowKit Nl

def RNoPost (w : World) (e : Ending) (w' : World) : Prop := e = .returned (.tuple #[.agg #[.int .i64 0, .int .i64 0, .slice none 0 0], .int .i64 2]) ∧ Below w.heap.size w w'
set_option maxRecDepth 100000 in
set_option maxHeartbeats 2000000 in
theorem r_rgrow_no {w : World} {l k : Int} {p : Option Addr} {n c : Nat} (kind l' : Int) (hg : growB kind l l' = false) :
    Calls Tryz.prog 16 #[.agg #[.int .i64 k, .int .i64 l, .slice p n c], .int .i64 kind, .int .i64 l'] w (RNoPost w) := by
  have hb1 : Below w.heap.size w ((w.alloc (.cells #[.int .i64 k, .int .i64 l, .slice p n c] 37)).alloc (.cells #[.int .i64 0, .int .i64 0, .slice none 0 0] 37)) := ((Below.refl _ _).alloc (Nat.le_refl _) _).alloc (by simp) _
  by_cases h1 : l ≤ l'
  · have hp : poolIs kind l' = false := by
      unfold growB at hg
      rw [decide_eq_true h1] at hg
      simpa using hg
    have IS := hid (fun W : World => r_poolIs kind l' W)
    rw [hp] at IS
    clear hg hp
    go_enter Tryz.func16, Tryz.ntmps16
    go_wp2_with fail
    refine (IS.out _).mono ?_
    rintro e w' ⟨rfl, rfl⟩
    go_wp2_with fail
    exact bodyPost_ret (v := .tuple #[.agg #[.int .i64 0, .int .i64 0, .slice none 0 0], .int .i64 2]) (by simp [results, Tryz.results16, go_sem]) rfl ⟨rfl, hb1⟩
  · clear hg
    go_enter Tryz.func16, Tryz.ntmps16
    go_wp2_with fail
    exact bodyPost_ret (v := .tuple #[.agg #[.int .i64 0, .int .i64 0, .slice none 0 0], .int .i64 2]) (by simp [results, Tryz.results16, go_sem]) rfl ⟨rfl, hb1⟩
set_option maxRecDepth 100000 in
set_option maxHeartbeats 2000000 in
theorem r_rcoar_no {w : World} {l k : Int} {p : Option Addr} {n c : Nat} (b : Int) (hb : b < 0 ∨ l ≤ b) :
    Calls Tryz.prog 20 #[.agg #[.int .i64 k, .int .i64 l, .slice p n c], .int .i64 b] w (RNoPost w) := by
  have hb1 : Below w.heap.size w ((w.alloc (.cells #[.int .i64 k, .int .i64 l, .slice p n c] 37)).alloc (.cells #[.int .i64 0, .int .i64 0, .slice none 0 0] 37)) := ((Below.refl _ _).alloc (Nat.le_refl _) _).alloc (by simp) _
  have hb2 : b < 0 ∨ (0 ≤ b ∧ l ≤ b) := by omega
  clear hb
  rcases hb2 with h1 | ⟨h1, h2⟩
  all_goals
    go_enter Tryz.func20, Tryz.ntmps20
    go_wp2_with fail
    exact bodyPost_ret (v := .tuple #[.agg #[.int .i64 0, .int .i64 0, .slice none 0 0], .int .i64 2]) (by simp [results, Tryz.results20, go_sem]) rfl ⟨rfl, hb1⟩

set_option maxRecDepth 100000 in
set_option maxHeartbeats 1000000 in
theorem rc_same_no (kind a b : Int) (p : Option Addr) (n c : Nat) (w : World) :
    Calls Tryz.prog 17 #[.pointer none, .int .i64 2, .int .i64 kind, .agg #[.int .i64 a, .int .i64 b, .slice p n c], .int .i64 2] w fun e w' => e = .returned (.bool true) ∧ Below w.heap.size w w' := by
  go_enter Tryz.func17, Tryz.ntmps17
  go_wp2_with fail
  go_ret
  exact ⟨rfl, (Below.refl _ _).alloc (Nat.le_refl _) _⟩
set_option maxRecDepth 100000 in
set_option maxHeartbeats 1000000 in
theorem rc_same {w : World} {dg q g h m : Nat} {kind l k : Int} {zs : List Nd} {v : Value} (d : DgV w dg q g h kind l k m zs) (hm : m ≤ 100000) (hr : RdN w v zs) (hl : zs.length ≤ 4000) :
    Calls Tryz.prog 17 #[.pointer (some ⟨dg, 0, none⟩), .int .i64 0, .int .i64 kind, .agg #[.int .i64 k, .int .i64 l, v], .int .i64 0] w fun e w' => e = .returned (.bool true) ∧ Below w.heap.size w w' := by
  obtain ⟨p, cap, rfl⟩ := hr.val
  have hb1 : Below w.heap.size w (w.alloc (.cells #[.int .i64 k, .int .i64 l, .slice p zs.length cap] 37)) := (Below.refl _ _).alloc (Nat.le_refl _) _
  have hs1 : (w.alloc (.cells #[.int .i64 k, .int .i64 l, .slice p zs.length cap] 37)).heap.size = w.heap.size + 1 := by simp
  have LK := hid (d_like14 (d.below hb1 (Nat.le_refl _)) hm (hr.below hb1 (Nat.le_refl _)) hl)
  clear d hr
  go_enter Tryz.func17, Tryz.ntmps17
  go_wp2_with fail
  refine LK.out.mono ?_
  rintro e w2 ⟨rfl, hb2⟩
  go_wp2_with fail
  go_ret
  exact ⟨rfl, hb1.trans (hb2.mono (by omega))⟩

theorem al15_facts : dgIns 2 1 [] 1 3 = ([(5, 3)], 0) ∧ growL (4 - 2) [(5, 3)] = [(17, 3)] ∧ coarL (2 - 1) [(5, 3)] = [(2, 3)] := by decide +kernel
set_option maxRecDepth 100000 in
set_option maxHeartbeats 4000000 in
theorem al15 (w : World) : Calls Tryz.prog 14 #[] w fun e w' => e = .returned (.bool true) ∧ Below w.heap.size w w' := by
  have N1 := hid (fun W : World => dg_new 2 2 1 W (by decide) (by decide))
  obtain ⟨a1, a2, a3⟩ := al15_facts
  have I1 := fun W dg q g h (x : DgV W dg q g h 2 2 1 2000 []) => dg_insert x 1 3 (by decide) (by decide) (by decide) ⟨by decide, by decide⟩ ⟨by decide, by decide⟩
  have G1 := fun W dg q g h (x : DgV W dg q g h 2 2 1 2000 [(5, 3)]) => rc_grow 4 x (by decide) (by decide) (by decide)
  have C1 := fun W dg q g h (x : DgV W dg q g h 2 2 1 2000 [(5, 3)]) => rc_coar 1 x (by decide) (by decide) (by decide) (by decide)
  rw [a1] at I1
  rw [a2] at G1
  rw [a3] at C1
  have I1' := hid I1
  have G1' := hid G1
  have C1' := hid C1
  have NS := fun W (a b : Value) (x : RdN W a [(17, 3)]) (y : RdN W b [(17, 3)]) => r_same W x y (by decide) (by decide)
  rw [show decide ([((17 : Int), (3 : Int))] = [(17, 3)]) = true from rfl] at NS
  have NS1 := hid NS
  have NT := fun W (a b : Value) (x : RdN W a [(2, 3)]) (y : RdN W b [(2, 3)]) => r_same W x y (by decide) (by decide)
  rw [show decide ([((2 : Int), (3 : Int))] = [(2, 3)]) = true from rfl] at NT
  have NT1 := hid NT
  clear a1 a2 a3 I1 G1 C1 NS NT
  go_enter Tryz.func14, Tryz.ntmps14
  go_wp2_with fail
  refine (N1.out _).mono ?_
  rintro e w1 ⟨dg, q, g, h, rfl, d, e1, e2, e3, e4, hb1⟩
  have hs1 := hb1.size
  go_wp2_with fail
  refine (I1'.out _ _ _ _ _ d).mono ?_
  rintro e w2 ⟨rfl, h2, d2, hh2, c2⟩
  have hs2 := c2.size
  have hbw2 := ChB.of_new hb1 c2 (fun j hj => by rcases hj with e | e | e | e <;> omega)
  dsimp only at d2
  go_wp2_with fail
  refine (G1'.out _ _ _ _ _ d2).mono ?_
  rintro e w3 ⟨dm, qm, gm, hm, rfl, m3, -, -, -, -, hb3⟩
  have hbw3 := hbw2.trans (hb3.mono hbw2.size)
  have d3 := d2.below hb3 (Nat.le_refl _)
  clear d d2
  go_wp2_with fail
  refine (C1'.out _ _ _ _ _ d3).mono ?_
  rintro e w4 ⟨dn, qn, gn, hn, rfl, n4, -, -, -, -, hb4⟩
  have hbw4 := hbw3.trans (hb4.mono hbw3.size)
  have m4 := m3.below hb4 (Nat.le_refl _)
  have ND := hid (dg_nodes m4 (by decide))
  clear m3 d3
  go_wp2_with fail
  refine ND.out.mono ?_
  rintro e w5 ⟨v5, rfl, o5, hb5⟩
  have hbw5 := hbw4.trans (hb5.mono hbw4.size)
  have n5 := n4.below hb5 (Nat.le_refl _)
  have hL : RdN (w5.alloc (.cells #[.int .i64 17, .int .i64 3] 93)) (.slice (some ⟨w5.heap.size, 0, none⟩) 1 1) [(17, 3)] := rd_lit w5 [(17, 3)] 93 (by decide)
  have r5 := o5.rd.alloc (.cells #[.int .i64 17, .int .i64 3] 93)
  have hb6 : Below w5.heap.size w5 (w5.alloc (.cells #[.int .i64 17, .int .i64 3] 93)) := (Below.refl _ _).alloc (Nat.le_refl _) _
  have n6 := n5.below hb6 (Nat.le_refl _)
  have hbw6 := hbw5.trans (hb6.mono hbw5.size)
  clear n5 n4
  go_wp2_with fail
  generalize (w5.alloc (.cells #[.int .i64 17, .int .i64 3] 93)) = w6 at *
  refine (NS1.out _ _ _ r5 hL).mono ?_
  rintro e w7 ⟨rfl, x7, rfl⟩
  have n7 := n6.below (below_drewN (Below.refl w6.heap.size w6) x7) (Nat.le_refl _)
  have hbw7 := below_drewN hbw6 x7
  have ND2 := hid (dg_nodes n7 (by decide))
  clear n6 hL r5 ND
  go_wp2_with fail
  refine ND2.out.mono ?_
  rintro e w8 ⟨v8, rfl, o8, hb8⟩
  have hbw8 := hbw7.trans (hb8.mono hbw7.size)
  have hL2 : RdN (w8.alloc (.cells #[.int .i64 2, .int .i64 3] 93)) (.slice (some ⟨w8.heap.size, 0, none⟩) 1 1) [(2, 3)] := rd_lit w8 [(2, 3)] 93 (by decide)
  have r8 := o8.rd.alloc (.cells #[.int .i64 2, .int .i64 3] 93)
  have hbw9 := hbw8.alloc hbw8.size (.cells #[.int .i64 2, .int .i64 3] 93)
  go_wp2_with fail
  refine (NT1.out _ _ _ r8 hL2).mono ?_
  rintro e w9 ⟨rfl, x9, rfl⟩
  go_wp2_with fail
  go_ret
  exact ⟨rfl, below_drewN hbw9 x9⟩
end Go.Proofs.YtnakieopnobjmaaGreat
