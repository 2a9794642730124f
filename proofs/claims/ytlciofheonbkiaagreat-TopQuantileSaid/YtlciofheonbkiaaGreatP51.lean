/- Texts laid together. -/
import Derived.Test.YtlciofheonbkiaaGreatP48
import Derived.Test.YtlciofheonbkiaaGreatP44
import Derived.Test.YtlciofheonbkiaaGreatP46
namespace Go.Proofs.YtlciofheonbkiaaGreat
set_option maxHeartbeats 8000000
set_option maxRecDepth 100000
open Go.RowKit Nl
theorem q_slack {w : World} {dg q g h m : Nat} {kind l k : Int} {zs : List Nd} (d : DgV w dg q g h kind l k m zs) :
    Calls Tryz.prog 18 #[.pointer (some ⟨dg, 0, none⟩)] w fun e w' => e = .returned (.int .i64 (l * capV (sumL zs) k)) ∧ Below w.heap.size w w' := by
  have CF := hid (dg_conf d)
  have CP := hid (fun W (y : DgV W dg q g h kind l k m zs) => dg_cap y)
  have hroll := d.inv.roll
  have l1 := hroll.l1
  have l2 := hroll.l2
  have s0 := sumL_nonneg hroll.strict.pos
  have s1 := hroll.most
  have k1 := d.inv.k1
  have c0 : 0 ≤ capV (sumL zs) k ∧ capV (sumL zs) k ≤ sumL zs := by
    unfold capV
    rw [if_neg (by omega)]
    exact ⟨Int.ediv_nonneg s0 (by omega), Int.ediv_le_self _ s0⟩
  obtain ⟨C, eC⟩ : ∃ C, capV (sumL zs) k = C := ⟨_, rfl⟩
  rw [eC] at c0 CP ⊢
  have hm0 : 0 ≤ l * C := Int.mul_nonneg (by omega) c0.1
  have hm1 : l * C ≤ 48 * C := Int.mul_le_mul_of_nonneg_right l2 c0.1
  have hmv : Rk.mulV l C = l * C := by
    unfold Rk.mulV Rk.mulOk
    rw [if_pos (decide_eq_true ⟨by omega, by omega, by omega⟩)]
  have MU := hid (fun W => mul_any l C W (by omega) (by omega) (by omega) (by omega))
  rw [hmv] at MU
  clear hmv hm0 hm1 c0 eC s0 s1 k1 hroll
  go_enter Tryz.func18, Tryz.ntmps18
  go_wp2_with fail
  refine CF.out.mono ?_
  rintro e w1 ⟨rfl, hb1⟩
  have d1 := d.below hb1 nlr
  have CP1 := CP.out w1 d1
  clear CF CP d d1
  go_wp2_with (rename_i K hK; show K (Act.put _ (some 8) (.int .i64 l)) w1; refine hK _ _ ?_)
  refine CP1.mono ?_
  rintro e w2 ⟨rfl, hb2⟩
  go_wp2_with fail
  refine (MU.out w2).mono ?_
  rintro e w3 ⟨rfl, rfl⟩
  go_wp2_with fail
  go_ret
  exact ⟨rfl, hb1.trans (hb2.mono hb1.size)⟩
def KthP (its : List Nd) (r : Int) (w : World) (e : Ending) (w' : World) : Prop :=
  ∃ x, e = .returned (.tuple #[.int .i64 x, .int .i64 0]) ∧ r ≤ betV 0 x its ∧ betV 0 (x - 1) its < r ∧ Below w.heap.size w w'
def KthRel (its : List Nd) (r : Int) (n : Nat) (w : World) (gn : Nat) (i : Value) (wr : World) : Prop :=
  ∃ j : Nat, i = .int .i64 j ∧ j < n ∧ n ≤ gn + j ∧ (∀ i (hi : i < its.length), i < j → betV 0 its[i].1 its < r) ∧ Below w.heap.size w wr
theorem q_kth {w : World} {its : List Nd} {v : Value} (l r : Int) (hr : RdN w v its) (hl : its.length ≤ 90000) (hb : Bag l its) (r1 : 1 ≤ r) (r2 : r ≤ sumL its) :
    Calls Tryz.prog 16 #[.agg #[.int .i64 l, v], .int .i64 r] w (KthP its r w) := by
  obtain ⟨p, cap, rfl⟩ := hr.val
  have h0 : 0 < its.length := by
    cases its with
    | nil => simp [sumL] at r2; omega
    | cons x t => simp
  have TT := hid (fun W (q : RdN W (.slice p its.length cap) its) => b_total l q hl hb.pos' hb.most)
  have RK := hid (fun W x (q : RdN W (.slice p its.length cap) its) => tp_rank l x q hl hb.pos' hb.most)
  have KS := hid (fun j (hj : j < its.length) h1 h0 => kth_spec hb (r := r) (j := j) hj r1 h1 h0)
  have LAST := hid (show ∀ j (hj : j < its.length), betV 0 its[j].1 its < r → j + 1 < its.length from fun j hj hlt => by
    refine Nat.lt_of_not_le fun q => ?_
    have hrise := List.pairwise_iff_getElem.1 hb.rise
    rw [bet_rank hb, rank_all (fun z hz => ?_)] at hlt
    · omega
    · obtain ⟨i, hi, rfl⟩ := List.getElem_of_mem hz
      by_cases e : i = j
      · subst e; exact Int.le_refl _
      · have := hrise i j hi hj (by omega); omega)
  have X1 := Blk.new w #[.int .i64 l, .slice p its.length cap] 41
  have hb1 : Below w.heap.size w (w.alloc (.cells #[.int .i64 l, .slice p its.length cap] 41)) := (Below.refl _ _).alloc nlr _
  have hr1 := hr.below hb1 nlr
  have z1 : decide (r < 1) = false := decide_eq_false (by omega)
  have z2 : decide (sumL its < r) = false := decide_eq_false (by omega)
  have zl : ((its.length : Int) == 0) = false := beq_eq_false_iff_ne.2 (by omega)
  obtain ⟨S, eS⟩ : ∃ S, sumL its = S := ⟨_, rfl⟩
  rw [eS] at TT z2
  obtain ⟨n, en⟩ : ∃ n, its.length = n := ⟨_, rfl⟩
  have EL := hid en
  rw [en] at zl h0
  have hn9 : n ≤ 90000 := by rw [← en]; exact hl
  clear eS r1 r2 hb hl
  have HR1 := hid hr1
  have TT1 := hid (TT.out _ hr1)
  rw [en] at X1 HR1 TT1 hb1 hr1 TT RK
  rw [en]
  clear en TT hr hr1
  go_enter Tryz.func16, Tryz.ntmps16
  go_upto_region 1 with fail
  generalize hW : w.alloc (.cells #[.int .i64 l, .slice p n cap] 41) = w1 at *
  clear hW
  have b0 : w1.cell? ⟨w.heap.size, 0, none⟩ = some (.int .i64 l) := X1.cell 0
  have b1 : w1.cell? ⟨w.heap.size, 1, none⟩ = some (.slice p n cap) := X1.cell 1
  go_wp2_with fail
  refine TT1.out.mono ?_
  rintro e w2 ⟨rfl, hb2⟩
  have X2 := X1.below hb2 nlr
  have R2 := hid (HR1.out.below hb2 nlr)
  have hbw := hb1.trans (hb2.mono hb1.size)
  have RL : Hid (KthRel its r n w2 n (.int .i64 (0 : Nat)) w2) := ⟨0, rfl, h0, by omega, fun _ _ q => absurd q (Nat.not_lt_zero _), Below.refl _ _⟩
  clear b0 b1 TT1 HR1 X1 hb1 hb2
  go_wp2_with fail
  go_loopg [6] n (fun gn i wr => KthRel its r n w2 gn i wr)
  case atStart => exact RL.out
  case round =>
    clear RL
    obtain ⟨j, rfl, hj, hgn, hlow, hbl⟩ := hrel
    have hj' : j < its.length := by rw [EL.out]; exact hj
    have R3 := R2.out.below hbl nlr
    obtain ⟨gs, off, a, c, rfl, hac, hgs, q0, -⟩ := R3.at (k := j) hj'
    have ea : its[j].1 = a := by
      have : its[j] = (a, c) := by rw [← hac]; simp [List.getD, hj']
      rw [this]
    have X3 := X2.below hbl nlr
    have FX := hid (fun W (q : Below wr.heap.size wr W) => (show W.cell? ⟨w.heap.size, 0, none⟩ = some (.int .i64 l) ∧ W.cell? ⟨w.heap.size, 1, none⟩ = some (.slice (some ⟨gs, off, none⟩) n cap) ∧ W.cell? ⟨gs, off + j * 2, none⟩ = some (.int .i64 a) ∧ Below wr.heap.size wr W from
      ⟨(X3.below q nlr).cell 0, (X3.below q nlr).cell 1, cell_below q q0 hgs, q⟩))
    have hB1 : Below wr.heap.size wr (wr.drewN 1) := below_drewN (Below.refl wr.heap.size wr) 1
    have RK2 := hid (fun W (q : Below wr.heap.size wr W) => RK.out W a (R3.below q nlr))
    have KS2 := hid (KS.out j hj')
    have LA2 := hid (LAST.out j hj')
    rw [ea] at KS2 LA2
    have EA := hid ea
    have HL := hid hlow
    clear hac q0 X3 R3 ea hlow
    go_upto_region 6 with fail
    go_region_held3 (fun W => W.cell? ⟨w.heap.size, 0, none⟩ = some (.int .i64 l) ∧ W.cell? ⟨w.heap.size, 1, none⟩ = some (.slice (some ⟨gs, off, none⟩) n cap) ∧ W.cell? ⟨gs, off + j * 2, none⟩ = some (.int .i64 a) ∧ Below wr.heap.size wr W)
      (first
        | exact FX.out _ hB1
        | exact FX.out _ hBn)
      ((go_at_call 17; have hBa := (‹_ ∧ _ ∧ _ ∧ Below wr.heap.size wr _›).2.2.2; refine (RK2.out _ hBa).mono ?_; rintro e w6 ⟨rfl, hb6⟩
        have hBn := hBa.trans (hb6.mono hBa.size)))
    all_goals
      have hbx := hbl.trans (hBn.mono hbl.size)
      have X6 := X2.below hbx nlr
      have R6 := R2.out.below hbx nlr
      have x1 : w6.cell? ⟨w.heap.size, 1, none⟩ = some (.slice (some ⟨gs, off, none⟩) n cap) := X6.cell 1
      clear FX RK2 hBn hb6 X6
      by_cases hlt : betV 0 a its < r
      · have zz : decide (betV 0 a its < r) = true := decide_eq_true hlt
        have R9 : Hid (∀ i, i = Value.int .i64 ((j : Nat) + 1 : Int) → KthRel its r n w2 (n - (j + 1)) i w6) := by
          intro i hi
          have h1 := LA2.out hlt
          rw [EL.out] at h1
          refine ⟨j + 1, by rw [hi]; simp, h1, by omega, fun i hi hij => ?_, hbx⟩
          by_cases e : i = j
          · subst e; rw [EA.out]; exact hlt
          · exact HL.out i hi (by omega)
        clear KS2 LA2 R6 hbx
        generalize betV 0 a its = B at *
        go_wp2_with fail
        go_roundg (n - (j + 1))
        case rel => exact R9.out _ (by go_num)
        case measure => omega
      · have zz : decide (betV 0 a its < r) = false := decide_eq_false hlt
        obtain ⟨gs', off', a', c', hp, hac, hgs', q0, -⟩ := R6.at (k := j) hj'
        simp only [Option.some.injEq, Addr.mk.injEq, and_true] at hp
        obtain ⟨rfl, rfl⟩ := hp
        have ea' : a' = a := by
          have : its[j] = (a', c') := by rw [← hac]; simp [List.getD, hj']
          have h2 := EA.out
          rw [this] at h2; exact h2
        subst ea'
        have hk := KS2.out (by omega) HL.out
        have PP : Hid (KthP its r w (.returned (.tuple #[.int .i64 a', .int .i64 0])) w6) := ⟨a', rfl, by omega, hk, hbw.trans (hbx.mono hbw.size)⟩
        clear KS2 LA2 R6 hbx hac hk
        generalize betV 0 a' its = B at *
        go_wp2_with fail
        go_ret2
        exact PP.out
end Go.Proofs.YtlciofheonbkiaaGreat
