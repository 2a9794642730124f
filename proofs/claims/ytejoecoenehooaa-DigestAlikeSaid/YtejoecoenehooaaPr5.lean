/- The walks of the statements' own functions of layer 12: alive, few, made. -/
import Derived.Test.YtejoecoenehooaaPr4
namespace Go.Proofs.Ytejoecoenehooaa
open Go.RowKit Nl

namespace Nl
def fewB (kind l : Int) (xs : List (Int × Int)) : Bool := askB kind l xs && decide (l * (xs.length : Int) ≤ 400)
end Nl

set_option maxRecDepth 100000 in
set_option maxHeartbeats 1000000 in
theorem p_few {v : Value} {xs : List Nd} (kind l : Int) (w : World) (hr : RdA w v xs) (bl : In64 l) :
    Calls Try.prog 37 #[.int .i64 kind, .int .i64 l, v] w fun e w' => e = .returned (.bool (fewB kind l xs)) ∧ Below w.heap.size w w' := by
  have Is := hid (f_is kind l w hr bl)
  obtain ⟨hr, hn, hlen⟩ := hr
  obtain ⟨p, cap, rfl⟩ := hr.val
  have HF : Hid (fewB kind l xs = (askB kind l xs && decide (l * (xs.length : Int) ≤ 400))) := rfl
  obtain ⟨A, eA⟩ : ∃ A, askB kind l xs = A := ⟨_, rfl⟩
  rw [eA] at Is HF
  generalize fewB kind l xs = FB at *
  cases A
  · have e := HF.out
    simp only [Bool.false_and] at e
    subst e
    go_enter Try.func37, Try.ntmps37
    go_wp2_with fail
    refine Is.out.mono ?_
    rintro e w2 ⟨rfl, hb⟩
    go_wp2_with fail
    go_ret
    exact ⟨rfl, hb⟩
  · simp only [askB, Bool.and_eq_true, decide_eq_true_eq] at eA
    obtain ⟨⟨⟨e1, e2⟩, e3⟩, e4⟩ := eA
    have hroll := rollB_iff.1 e4
    have l1 := hroll.l1
    have l2 := hroll.l2
    have e := HF.out
    simp only [Bool.true_and] at e
    have hm0 : 0 ≤ l * (xs.length : Int) := Int.mul_nonneg (by omega) (by omega)
    have hm1 : l * (xs.length : Int) ≤ 48 * 60 := Int.mul_le_mul l2 (by omega) (by omega) (by omega)
    obtain ⟨M, eM⟩ : ∃ M, l * (xs.length : Int) = M := ⟨_, rfl⟩
    rw [eM] at e hm0 hm1
    subst e
    have EM := hid eM
    have hw : IntKind.i64.wrap (l * (xs.length : Int)) = M := by rw [eM]; exact IntWalk.i64_in _ (by omega)
    have hw2 : wrap64 (l * (xs.length : Int)) = M := by rw [eM]; exact IntWalk.wrap64_in _ ⟨by omega, by omega⟩
    clear e2 e3 e4 hroll eM HF
    go_enter Try.func37, Try.ntmps37
    go_wp2_with fail
    refine Is.out.mono ?_
    rintro e w2 ⟨rfl, hb⟩
    go_wp2_with fail
    go_ret
    exact ⟨ret_bool (by simp), hb⟩

def MadePost (kind l : Int) (p : Option Addr) (cap m : Nat) (xs : List Nd) (w : World) (e : Ending) (w' : World) : Prop :=
  ∃ q g h, e = .returned (.tuple #[.pointer (some ⟨q, 0, none⟩), .agg #[.int .i64 l, .slice p xs.length cap], .bool true]) ∧ PoolV w' q g h kind l m xs ∧ w.heap.size ≤ q ∧ w.heap.size ≤ g ∧ w.heap.size ≤ h ∧ Below w.heap.size w w'
set_option maxRecDepth 100000 in
set_option maxHeartbeats 1000000 in
theorem p_made {p : Option Addr} {cap : Nat} {xs : List Nd} (kind l : Int) (w : World) (hk : poolIs kind l = true) (hR : rollB l xs = true) (hr : RdN w (.slice p xs.length cap) xs) (hn : NB xs) (hl : xs.length ≤ 100000) :
    Calls Try.prog 33 #[.int .i64 kind, .int .i64 l, .slice p xs.length cap] w (MadePost kind l p cap xs.length xs w) := by
  have hba : Below w.heap.size w (w.alloc (.cells #[.int .i64 0, .slice none 0 0] 43)) := (Below.refl _ _).alloc (Nat.le_refl _) _
  have N := hid (pl_load kind l _ hk hR (hr.below hba (Nat.le_refl _)) hn hl)
  have Z := Blk.new w #[.int .i64 0, .slice none 0 0] 43
  have hsz : (w.alloc (.cells #[.int .i64 0, .slice none 0 0] 43)).heap.size = w.heap.size + 1 := by simp
  clear hk hR hr
  go_enter Try.func33, Try.ntmps33
  go_wp2_with fail
  refine N.out.mono ?_
  rintro e w2 ⟨q, g, h, rfl, d, hq, hg, hh, hb⟩
  have Z2 := Z.below hb (Nat.le_refl _)
  generalize (w.alloc (.cells #[.int .i64 0, .slice none 0 0] 43)) = w1 at *
  have z0 : w2.cell? ⟨w.heap.size, 0, none⟩ = some (.int .i64 0) := Z2.cell 0
  have z1 : w2.cell? ⟨w.heap.size, 1, none⟩ = some (.slice none 0 0) := Z2.cell 1
  have f0 := Z2.free 0
  have f1 := Z2.free 1
  go_wp2_with fail
  have Z3 := (Z2.set 0 (.int .i64 l)).set 1 (.slice p xs.length cap)
  have z30 : World.cell? _ ⟨w.heap.size, 0, none⟩ = some (.int .i64 l) := Z3.cell 0
  have z31 : World.cell? _ ⟨w.heap.size, 1, none⟩ = some (.slice p xs.length cap) := Z3.cell 1
  have hs2 := hb.size
  refine bodyPost_ret (v := .tuple #[.pointer (some ⟨q, 0, none⟩), .agg #[.int .i64 l, .slice p xs.length cap], .bool true]) (by simp [results, Try.results33, go_sem, z30, z31]) rfl ⟨q, g, h, rfl, ?_, by omega, by omega, by omega, ?_⟩
  · refine d.keepB (fun k hk hp => ?_)
    have hne : k ≠ w.heap.size := by rcases hp with e | e | e <;> omega
    exact (Below.heap_setCell _ ⟨w.heap.size, 1, none⟩ _ k hne).trans (Below.heap_setCell _ ⟨w.heap.size, 0, none⟩ _ k hne)
  · exact ((hba.trans (hb.mono (by omega))).setCell (p := ⟨w.heap.size, 0, none⟩) (Nat.le_refl _) _).setCell (p := ⟨w.heap.size, 1, none⟩) (Nat.le_refl _) _

set_option maxRecDepth 100000 in
set_option maxHeartbeats 2000000 in
theorem p_alive (w : World) : Calls Try.prog 32 #[] w fun e w' => e = .returned (.bool true) ∧ Below w.heap.size w w' := by
  have R := rd_lit w [(2, 1), (4, 1), (5, 2)] 100 (by decide)
  have hb0 : Below w.heap.size w (w.alloc (.cells (ncells [(2, 1), (4, 1), (5, 2)]).toArray 100)) := (Below.refl _ _).alloc (Nat.le_refl _) _
  have hR : rollB 2 [((2 : Int), (1 : Int)), (4, 1), (5, 2)] = true := by decide
  have hn : NB [((2 : Int), (1 : Int)), (4, 1), (5, 2)] := by intro x hx; simp at hx; rcases hx with rfl | rfl | rfl <;> exact ⟨⟨by decide, by decide⟩, ⟨by decide, by decide⟩⟩
  have N0 := fun kind (hk : poolIs kind 2 = true) W v (q : RdN W v [((2 : Int), (1 : Int)), (4, 1), (5, 2)]) => pl_load kind 2 W hk hR q hn (by decide)
  have N1 := hid (N0 2 (by decide) _ _ R)
  have N2 := hid (N0 1 (by decide))
  have e1 := hid (show (runR 2 (capV (sumL [((2 : Int), (1 : Int)), (4, 1), (5, 2)]) 1) [((2 : Int), (1 : Int)), (4, 1), (5, 2)]).2.length = 2 by decide +kernel)
  have e2 := hid (show (runR 2 (capV (sumL [((2 : Int), (1 : Int)), (4, 1), (5, 2)]) 2) [((2 : Int), (1 : Int)), (4, 1), (5, 2)]).2.length = 1 by decide +kernel)
  have e3 := hid (show findL 1 (runR 2 (capV (sumL [((2 : Int), (1 : Int)), (4, 1), (5, 2)]) 1) [((2 : Int), (1 : Int)), (4, 1), (5, 2)]).1 = 4 by decide +kernel)
  have e4 := hid (show findL 1 (runR 2 (capV (sumL [((2 : Int), (1 : Int)), (4, 1), (5, 2)]) 2) [((2 : Int), (1 : Int)), (4, 1), (5, 2)]).1 = 1 by decide +kernel)
  have R' := hid R
  clear R hR hn N0
  have hs0 := hb0.size
  go_enter Try.func32, Try.ntmps32
  go_wp2_with fail
  refine N1.out.mono ?_
  rintro e w1 ⟨q, g, h, rfl, d1, hq, hg, hh, hb1⟩
  have hs1 := hb1.size
  have L0 := hid (show [((2 : Int), (1 : Int)), (4, 1), (5, 2)].length = 3 by rfl)
  have r1 := R'.out.below hb1 (Nat.le_refl _)
  have hB1 := hb0.trans (hb1.mono hs0)
  have R1 := hid r1
  clear r1 R' N1
  go_wp2_with fail
  refine (N2.out w1 _ R1.out).mono ?_
  rintro e w2 ⟨q2, g2, h2, rfl, d2, hq2, hg2, hh2, hb2⟩
  have d1' := d1.below hb2 (Nat.le_refl _)
  have hs2 := hb2.size
  have hB2 := hB1.trans (hb2.mono (by omega))
  obtain ⟨lq, lg, lh, _⟩ := d1.lt
  have x1 := d1'.mono (m' := 4) (by rw [L0.out]; decide)
  have x2 := d2.mono (m' := 4) (by rw [L0.out]; decide)
  have P1 := hid (p_Run 1 (by decide) x1 (by decide) (by rw [L0.out]; decide) (by rw [L0.out]; decide))
  have P2 := hid (fun W (y : PoolV W q2 g2 h2 1 2 4 [((2 : Int), (1 : Int)), (4, 1), (5, 2)]) => p_Run 2 (by decide) y (by decide) (by rw [L0.out]; decide) (by rw [L0.out]; decide))
  generalize runR 2 (capV (sumL [((2 : Int), (1 : Int)), (4, 1), (5, 2)]) 1) [((2 : Int), (1 : Int)), (4, 1), (5, 2)] = A1 at *
  generalize runR 2 (capV (sumL [((2 : Int), (1 : Int)), (4, 1), (5, 2)]) 2) [((2 : Int), (1 : Int)), (4, 1), (5, 2)] = A2 at *
  clear d1 d1' d2 N2 R1 L0
  go_wp2_with fail
  refine P1.out.mono ?_
  rintro e w3 ⟨rfl, h3, y1, hh3, c3⟩
  rw [e1.out]
  have x2' := x2.keepB (c3.off (fun k hk hp => by rcases hk with e | e | e <;> rcases hp with e' | e' | e' <;> omega))
  have hs3 := c3.size
  have hB3 := hB2.trans (c3.below (B := w.heap.size) (fun k _ hp => by rcases hp with e | e | e <;> omega) (by omega))
  have P2' := hid (P2.out w3 x2')
  obtain ⟨mq, mg, mh, _⟩ := x2.lt
  clear x1 x2 x2' P1 P2
  go_wp2_with fail
  refine P2'.out.mono ?_
  rintro e w4 ⟨rfl, h4, y2, hh4, c4⟩
  rw [e2.out]
  have y1' := y1.keepB (c4.off (fun k hk hp => by rcases hk with e | e | e <;> rcases hp with e' | e' | e' <;> omega))
  have hs4 := c4.size
  have hB4 := hB3.trans (c4.below (B := w.heap.size) (fun k _ hp => by rcases hp with e | e | e <;> omega) (by omega))
  have G1 := hid (pl_get 1 y1' (by decide) ⟨by decide, by decide⟩)
  have G2 := hid (fun W (y : PoolV W q2 g2 h4 1 2 4 A2.1) => pl_get 1 y (by decide) ⟨by decide, by decide⟩)
  clear y1 y1' P2'
  go_wp2_with fail
  refine G1.out.mono ?_
  rintro e w5 ⟨rfl, hb5⟩
  rw [e3.out]
  have y2' := y2.below hb5 (Nat.le_refl _)
  have hs5 := hb5.size
  go_wp2_with fail
  refine (G2.out w5 y2').mono ?_
  rintro e w6 ⟨rfl, hb6⟩
  rw [e4.out]
  go_wp2_with fail
  refine (p_Bound 2 w6 ⟨by decide, by decide⟩).mono ?_
  rintro e w' ⟨rfl, rfl⟩
  go_wp2_with fail
  all_goals
    go_ret
    exact ⟨rfl, (hB4.trans (hb5.mono (by omega))).trans (hb6.mono (by omega))⟩
end Go.Proofs.Ytejoecoenehooaa
