/- The walk of PoolAlike. -/
import Derived.Test.YtipnnogafanemaaPool8
namespace Go.Proofs.Ytipnnogafanemaa
open Go.RowKit Nl

/-- No block of the one is one of the other. -/
def Apart (q g h q' g' h' : Nat) : Prop := (q ≠ q' ∧ q ≠ g' ∧ q ≠ h') ∧ (g ≠ q' ∧ g ≠ g' ∧ g ≠ h') ∧ (h ≠ q' ∧ h ≠ g' ∧ h ≠ h')
theorem Apart.symm {q g h q' g' h' : Nat} (a : Apart q g h q' g' h') : Apart q' g' h' q g h := by unfold Apart at *; omega
def PARel (w : World) (q g q' g' : Nat) (l : Int) (n : Nat) (i : Value) (wr : World) : Prop :=
  ∃ (k h h' : Nat) (zs : List Nd), i = .int .i64 k ∧ k ≤ n ∧ PoolV wr q g h 1 l k zs ∧ PoolV wr q' g' h' 2 l k zs ∧ zs.length ≤ k ∧ Apart q g h q' g' h' ∧ w.heap.size ≤ h ∧ w.heap.size ≤ h' ∧ Below w.heap.size w wr

set_option maxRecDepth 100000 in
set_option maxHeartbeats 4000000 in
theorem PoolAlike_walk (l : Int) (v : Value) (os : List Op3) (w : World) (hl : -9223372036854775808 ≤ l) (hl1 : l ≤ 9223372036854775807) (ho : RdO w v os) :
    Calls Try.prog 5 #[.int .i64 l, v] w fun e w' => e = .returned (.bool true) ∧ Below w.heap.size w w' := by
  obtain ⟨p, cap, rfl, hlen, hcells⟩ := ho
  have A := hid (p9_alive w)
  have Ho := hid hcells
  clear hcells
  by_cases h1 : 60 < os.length
  · go_enter Try.func5, Try.ntmps5
    go_wp2_with fail
    refine A.out.mono ?_
    rintro e w' ⟨rfl, hb⟩
    go_wp2_with fail
    go_ret
    exact ⟨rfl, hb⟩
  by_cases h3 : l < 1 ∨ 8 < l
  · have hc2 : l < 1 ∨ (1 ≤ l ∧ 8 < l) := by omega
    clear h3
    rcases hc2 with h3 | ⟨h2, h3⟩
    all_goals
      go_enter Try.func5, Try.ntmps5
      go_wp2_with fail
      refine A.out.mono ?_
      rintro e w' ⟨rfl, hb⟩
      go_wp2_with fail
      go_ret
      exact ⟨rfl, hb⟩
  have h4 : 1 ≤ l := by omega
  have h5 : l ≤ 8 := by omega
  have N1 := hid (pl_new 1 l w (by simp [poolIs]; omega))
  have N2 := hid (fun W => pl_new 2 l W (by simp [poolIs]; omega))
  clear h3
  go_enter Try.func5, Try.ntmps5
  go_wp2_with fail
  refine N1.out.mono ?_
  rintro e w1 ⟨q, g, h, rfl, d1, hq, hg, hh, hb1⟩
  go_wp2_with fail
  refine (N2.out w1).mono ?_
  rintro e w2 ⟨q', g', h', rfl, d2', hq', hg', hh', hb2⟩
  obtain ⟨l1, l2, l3, l4, l5, l6⟩ := d1.lt
  have d2 := d1.below hb2 (Nat.le_refl _)
  have hs1 := hb1.size
  have hb3 := hb1.trans (hb2.mono hs1)
  have hap : Apart q g h q' g' h' := by unfold Apart; omega
  go_wp2_with fail
  go_loopw [49] (fun i wr => PARel w q g q' g' l os.length i wr) (fun i _ => os.length - (intOf i).toNat)
  case atStart => exact ⟨0, h, h', [], rfl, by omega, d2, d2', by simp, hap, hh, by omega, hb3⟩
  case round =>
    clear d1 d2 d2' hap
    obtain ⟨k, h, h', zs, rfl, hk, d, d', hzk, hap, hhw, hhw', hbl⟩ := hrel
    obtain ⟨m1, m2, m3, m4, m5, m6⟩ := d.lt
    obtain ⟨m1', m2', m3', m4', m5', m6'⟩ := d'.lt
    have hwr := hbl.size
    by_cases h6 : k < os.length
    · obtain ⟨gq, off, rfl, hgo, c1, c2, c3, k1, k2, k3⟩ := Ho.out k h6
      have eb := hbl.block gq hgo
      have c1' := (World.cell?_of_block (w := w) (w' := wr) (a := ⟨gq, off + k * 3, none⟩) eb).trans c1
      have c2' := (World.cell?_of_block (w := w) (w' := wr) (a := ⟨gq, off + k * 3 + 1, none⟩) eb).trans c2
      have c3' := (World.cell?_of_block (w := w) (w' := wr) (a := ⟨gq, off + k * 3 + 2, none⟩) eb).trans c3
      obtain ⟨⟨kind, id, c⟩, eo⟩ : ∃ x, os.getD k (0, 0, 0) = x := ⟨_, rfl⟩
      rw [eo] at c1' c2' c3' k1 k2 k3
      simp only at c1' c2' c3' k1 k2 k3
      have hzn := d.roll.do_len kind id c
      have hba : Below wr.heap.size wr (wr.alloc (.cells #[.int .i64 kind, .int .i64 id, .int .i64 c] 52)) := (Below.refl _ _).alloc (Nat.le_refl _) _
      have da := d.below hba (Nat.le_refl _)
      have da' := d'.below hba (Nat.le_refl _)
      have O := Blk.new wr #[.int .i64 kind, .int .i64 id, .int .i64 c] 52
      have hsa : (wr.alloc (.cells #[.int .i64 kind, .int .i64 id, .int .i64 c] 52)).heap.size = wr.heap.size + 1 := by simp
      have L1 := hid (fun W (x : PoolV W q g h 1 l k zs) => p9_do (k + 1) kind id c x (by omega) (by omega) (by omega) k2 k3)
      have L2 := hid (fun W (x : PoolV W q' g' h' 2 l k zs) => p9_do (k + 1) kind id c x (by omega) (by omega) (by omega) k2 k3)
      obtain ⟨⟨zs', code⟩, ed⟩ : ∃ r, stDo l zs kind id c = r := ⟨_, rfl⟩
      rw [ed] at L1 L2 hzn
      simp only at hzn
      clear eo ed c1 c2 c3 eb N1 N2 A
      go_wp2_with fail
      generalize (wr.alloc (.cells #[.int .i64 kind, .int .i64 id, .int .i64 c] 52)) = wa at *
      have o0 : wa.cell? ⟨wr.heap.size, 0, none⟩ = some (.int .i64 kind) := O.cell 0
      have o1 : wa.cell? ⟨wr.heap.size, 1, none⟩ = some (.int .i64 id) := O.cell 1
      have o2 : wa.cell? ⟨wr.heap.size, 2, none⟩ = some (.int .i64 c) := O.cell 2
      go_region_held3 (fun w' => w'.cell? ⟨wr.heap.size, 0, none⟩ = some (.int .i64 kind) ∧ w'.cell? ⟨wr.heap.size, 1, none⟩ = some (.int .i64 id) ∧ w'.cell? ⟨wr.heap.size, 2, none⟩ = some (.int .i64 c))
        (first
          | exact ⟨o0, o1, o2⟩
          | exact ⟨O6.cell 0, O6.cell 1, O6.cell 2⟩
          | exact ⟨O5.cell 0, O5.cell 1, O5.cell 2⟩)
        (first
          | (go_at_call_of 25 (Value.pointer (some ⟨q, 0, none⟩)); refine (L1.out _ (da.drewN 1)).mono ?_; rintro e w5 ⟨rfl, h5, d5, hh5, T5⟩
             have O5 := (O.drewN 1).tch T5 (by omega) (by omega))
          | (go_at_call_of 25 (Value.pointer (some ⟨q', 0, none⟩)); refine (L2.out _ ((da'.drewN 1).tch T5 (by unfold Apart at hap; omega) (by unfold Apart at hap; omega) (by unfold Apart at hap; omega))).mono ?_; rintro e w6 ⟨rfl, h6, d6, hh6, T6⟩
             have O6 := O5.tch T6 (by omega) (by omega)))
      have hs5 := T5.size
      have hs6 := T6.size
      have hs5' : wa.heap.size ≤ w5.heap.size := hs5
      have hh5' : h5 = h ∨ wa.heap.size ≤ h5 := hh5
      obtain ⟨n1, n2, n3, n4, n5, n6⟩ := d5.lt
      obtain ⟨n1', n2', n3', n4', n5', n6'⟩ := d6.lt
      have e5 : Apart q g h5 q' g' h6 := by unfold Apart at hap ⊢; omega
      have d5' := d5.tch T6 (by unfold Apart at hap; omega) (by unfold Apart at hap; omega) (by unfold Apart at hap; omega)
      have B5 : Below w.heap.size w w6 := (hbl.trans (hba.mono hwr)).trans (((((Tch.refl g h wa).drewN 1).trans T5).below hg hhw (by omega)).trans (T6.below (by omega) hhw' (by omega)))
      clear o0 o1 o2
      go_wp2_with fail
      go_roundw
      case rel => exact ⟨k + 1, h5, h6, zs', by go_num, by omega, d5', d6, by omega, e5, by omega, by omega, B5⟩
      case measure => simp [intOf]; omega
    · have hl1' := d.len (by omega)
      have S1 := hid (fun W (x : PoolV W q g h 1 l k zs) (y : PoolV W q' g' h' 2 l k zs) => pl_same x y (by omega) (by omega))
      have S2 := hid (fun W (x : PoolV W q g h 1 l k zs) (y : PoolV W q' g' h' 2 l k zs) => pl_same y x (by omega) (by omega))
      have e1 : decide (l = l ∧ zs = zs) = true := by simp
      rw [e1] at S1 S2
      clear e1
      go_wp2_with fail
      refine (S1.out wr d d').mono ?_
      rintro e w3 ⟨rfl, hb3⟩
      have hs3 := hb3.size
      have D3 := d.below hb3 (Nat.le_refl _)
      have D3' := d'.below hb3 (Nat.le_refl _)
      go_wp2_with fail
      refine (S2.out w3 D3 D3').mono ?_
      rintro e w4 ⟨rfl, hb4⟩
      have hs4 := hb4.size
      have D4 := D3.below hb4 (Nat.le_refl _)
      have D4' := D3'.below hb4 (Nat.le_refl _)
      go_wp2_with fail
      refine (pl_snap D4 (by omega)).mono ?_
      rintro e w5 ⟨v5, rfl, ho5, hb5⟩
      have hs5 := hb5.size
      have D5 := D4.below hb5 (Nat.le_refl _)
      have D5' := D4'.below hb5 (Nat.le_refl _)
      obtain ⟨p5, cap5, rfl⟩ := ho5.val
      go_wp2_with fail
      refine (pl_snap D5' (by omega)).mono ?_
      rintro e w6 ⟨v6, rfl, ho6, hb6⟩
      have hs6 := hb6.size
      have D6 := D5.below hb6 (Nat.le_refl _)
      have D6' := D5'.below hb6 (Nat.le_refl _)
      obtain ⟨p6, cap6, rfl⟩ := ho6.val
      go_wp2_with fail
      refine (r_same w6 (ho5.rd.below hb6 (Nat.le_refl _)) ho6.rd (by omega) (by omega)).mono ?_
      rintro e w7 ⟨rfl, n, rfl⟩
      have e2 : decide (zs = zs) = true := by simp
      rw [e2]
      clear e2
      have D7 := D6.drewN n
      have D7' := D6'.drewN n
      have hb7 : Below wr.heap.size wr (w6.drewN n) := below_drewN (((hb3.trans (hb4.mono hs3)).trans (hb5.mono (by omega))).trans (hb6.mono (by omega))) n
      have hs7 := hb7.size
      generalize w6.drewN n = w7 at *
      go_wp2_with fail
      refine (pl_total D7).mono ?_
      rintro e w8 ⟨rfl, rfl⟩
      go_wp2_with fail
      refine (pl_total D7').mono ?_
      rintro e w8 ⟨rfl, rfl⟩
      go_wp2_with fail
      refine (p9_alive w7).mono ?_
      rintro e w8 ⟨rfl, hb8⟩
      go_wp2_with fail
      go_ret
      exact ⟨rfl, (hbl.trans (hb7.mono hwr)).trans (hb8.mono (by omega))⟩
end Go.Proofs.Ytipnnogafanemaa
