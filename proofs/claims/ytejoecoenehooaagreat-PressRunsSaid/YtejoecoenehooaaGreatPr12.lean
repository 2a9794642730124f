/- The walk of PressRuns. -/
import Derived.Test.YtejoecoenehooaaGreatPr11
import Derived.Test.YtejoecoenehooaaGreatPr9
namespace Go.Proofs.YtejoecoenehooaaGreat
open Go.RowKit Nl

set_option maxRecDepth 100000 in
set_option maxHeartbeats 4000000 in
theorem PressRuns_walk (kind l : Int) (v : Value) (xs : List Nd) (k : Int) (w : World) (_hk0 : -9223372036854775808 ≤ kind) (_hk1 : kind ≤ 9223372036854775807) (hl : -9223372036854775808 ≤ l) (hl1 : l ≤ 9223372036854775807) (ho : RdA w v xs) (hk0 : -9223372036854775808 ≤ k) (hk1 : k ≤ 9223372036854775807) :
    Calls Tryz.prog 3 #[.int .i64 kind, .int .i64 l, v, .int .i64 k] w fun e w' => e = .returned (.bool true) ∧ Below w.heap.size w w' := by
  have Fw := hid (p_few kind l w ho ⟨hl, hl1⟩)
  obtain ⟨hr, hn, hlen⟩ := ho
  obtain ⟨p, cap, rfl⟩ := hr.val
  have bk : In64 k := ⟨hk0, hk1⟩
  have RI := hid (fun W : World => r_Is k W)
  have A := hid (fun W : World => p_alive W)
  obtain ⟨F, eF⟩ : ∃ F, fewB kind l xs = F := ⟨_, rfl⟩
  rw [eF] at Fw
  cases F
  · clear eF
    go_enter Tryz.func3, Tryz.ntmps3
    go_wp2_with fail
    refine Fw.out.mono ?_
    rintro e w2 ⟨rfl, hb2⟩
    go_wp2_with fail
    refine (A.out w2).mono ?_
    rintro e w3 ⟨rfl, hb3⟩
    go_wp2_with fail
    go_ret
    exact ⟨rfl, hb2.trans (hb3.mono hb2.size)⟩
  have hask : askB kind l xs = true := by
    unfold fewB at eF
    simp only [Bool.and_eq_true] at eF
    exact eF.1
  obtain ⟨e1, e2, e3, e4⟩ := few_parts hask
  have hroll := rollB_iff.1 e4
  have M := hid (fun W (q : RdN W (.slice p xs.length cap) xs) => p_made kind l W e2 e4 q hn (by omega))
  have SL := hid (fun W pn cn (q : RdN W (.slice pn xs.length cn) xs) (q2 : RdN W (.slice p xs.length cap) xs) => r_same W q q2 (by omega) (by omega))
  obtain ⟨K, eK⟩ : ∃ K, isK k = K := ⟨_, rfl⟩
  rw [eK] at RI
  cases K
  · have T := hid (fun q W => p_Trace_no q k eK W)
    have U := hid (fun q W => p_Run_no q k eK W)
    have hsl := hid (show decide (xs = xs) = true by simp)
    clear eF hask e2 e3 e4 eK
    go_enter Tryz.func3, Tryz.ntmps3
    go_wp2_with fail
    refine Fw.out.mono ?_
    rintro e w2 ⟨rfl, hb2⟩
    have hr2 := hr.below hb2 (Nat.le_refl _)
    have hs2 := hb2.size
    go_wp2_with fail
    refine (M.out w2 hr2).mono ?_
    rintro e w3 ⟨q, g, h, rfl, d3, hq, hg, hh, hb3⟩
    have hs3 := hb3.size
    have hba : Below w3.heap.size w3 (w3.alloc (.cells #[.int .i64 l, .slice p xs.length cap] 27)) := (Below.refl _ _).alloc (Nat.le_refl _) _
    have hsz : (w3.alloc (.cells #[.int .i64 l, .slice p xs.length cap] 27)).heap.size = w3.heap.size + 1 := by simp
    have d4 := d3.below hba (Nat.le_refl _)
    have hr4 := (hr2.below hb3 (Nat.le_refl _)).below hba (Nat.le_refl _)
    have hB4 := (hb2.trans (hb3.mono hs2)).trans (hba.mono (by omega))
    go_wp2_with fail
    refine (T.out q _).mono ?_
    rintro e w4 ⟨rfl, hb4⟩
    generalize (w3.alloc (.cells #[.int .i64 l, .slice p xs.length cap] 27)) = wa at *
    have d5 := d4.below hb4 (Nat.le_refl _)
    have hr5 := hr4.below hb4 (Nat.le_refl _)
    have hs4 := hb4.size
    have hB5 := hB4.trans (hb4.mono (by omega))
    have P5 := hid (pl_snap d5 (by omega))
    clear d4 hr4 hB4 hb4 d3 hr2 T
    go_wp2_with fail
    refine P5.out.mono ?_
    rintro e w6 hN
    obtain ⟨v6, rfl, own6, hb6⟩ := hN
    have hr6 := own6.rd
    obtain ⟨p6, c6, rfl⟩ := hr6.val
    have hs6 := hb6.size
    have d6 := d5.below hb6 (Nat.le_refl _)
    have hrx6 := hr5.below hb6 (Nat.le_refl _)
    have hB6 := hB5.trans (hb6.mono (by omega))
    clear d5 hr5 hB5 hb6 P5
    go_wp2_with fail
    refine (SL.out w6 p6 c6 hr6 hrx6).mono ?_
    rintro e w7 ⟨rfl, n7, rfl⟩
    rw [hsl.out]
    have d7 := d6.below (below_drewN (Below.refl w6.heap.size w6) n7) (Nat.le_refl _)
    have hr7 := hrx6.drewN n7
    have hB7 := below_drewN hB6 n7
    have hs7 : (w6.drewN n7).heap.size = w6.heap.size := rfl
    generalize w6.drewN n7 = w7 at *
    clear d6 hrx6 hr6 hB6
    go_wp2_with fail
    refine (U.out q w7).mono ?_
    rintro e w' ⟨rfl, rfl⟩
    go_wp2_with fail
    refine (RI.out w7).mono ?_
    rintro e w' ⟨rfl, rfl⟩
    have P7 := hid (pl_snap d7 (by omega))
    go_wp2_with fail
    refine P7.out.mono ?_
    rintro e w8 hN
    obtain ⟨v8, rfl, own8, hb8⟩ := hN
    have hr8 := own8.rd
    obtain ⟨p8, c8, rfl⟩ := hr8.val
    have hrx8 := hr7.below hb8 (Nat.le_refl _)
    have hs8 := hb8.size
    go_wp2_with fail
    refine (SL.out w8 p8 c8 hr8 hrx8).mono ?_
    rintro e w9 ⟨rfl, n9, rfl⟩
    rw [hsl.out]
    go_wp2_with fail
    refine (A.out _).mono ?_
    rintro e w10 ⟨rfl, hb10⟩
    go_wp2_with fail
    go_ret
    exact ⟨rfl, (hB7.trans (hb8.mono (by omega))).trans ((below_drewN (Below.refl w8.heap.size w8) n9).trans (hb10.mono (by show w8.heap.size ≤ w8.heap.size; omega)) |>.mono (by omega))⟩
  · have T0 := fun W q g h (x : PoolV W q g h kind l (xs.length + 1) xs) => p_Trace k eK x (by omega) (by omega) (by omega)
    have U0 := fun W q g h (x : PoolV W q g h kind l (xs.length + 1) xs) => p_Run k eK x (by omega) (by omega) (by omega)
    have R0 := fun W (q : RdN W (.slice p xs.length cap) xs) => r_crun k q (by omega) hroll bk
    have rf := run_facts (most := capV (sumL xs) k) hroll
    obtain ⟨R, eR⟩ : ∃ R, runR l (capV (sumL xs) k) xs = R := ⟨_, rfl⟩
    simp only [eR] at T0 U0 R0 rf
    obtain ⟨Z, st⟩ := R
    obtain ⟨f1, _, f3, _, f5⟩ := rf
    simp only at f1 f3 f5
    have T := hid T0
    have U := hid U0
    have R := hid R0
    have SZ := hid (fun W va vb (x : RdN W va Z) (y : RdN W vb Z) => r_same W x y (by omega) (by omega))
    have hst : st.length ≤ 3000 := by
      have h1 := hroll.l2
      have : l * (xs.length : Int) ≤ 48 * (xs.length : Int) := Int.mul_le_mul_of_nonneg_right h1 (by omega)
      omega
    have SI := hid (fun W va vb (x : RdI W va st) (y : RdI W vb st) => r_isame W x y (by omega) (by omega))
    have hsl := hid (show decide (xs = xs) = true by simp)
    have hsz' := hid (show decide (Z = Z) = true by simp)
    have hsi := hid (show decide (st = st) = true by simp)
    clear eF hask e2 e3 e4 eK eR T0 U0 R0 f1 f5
    go_enter Tryz.func3, Tryz.ntmps3
    go_wp2_with fail
    refine Fw.out.mono ?_
    rintro e w2 ⟨rfl, hb2⟩
    have hr2 := hr.below hb2 (Nat.le_refl _)
    have hs2 := hb2.size
    go_wp2_with fail
    refine (M.out w2 hr2).mono ?_
    rintro e w3 ⟨q, g, h, rfl, d3, hq, hg, hh, hb3⟩
    have hs3 := hb3.size
    have hba : Below w3.heap.size w3 (w3.alloc (.cells #[.int .i64 l, .slice p xs.length cap] 27)) := (Below.refl _ _).alloc (Nat.le_refl _) _
    have Sb := Blk.new w3 #[.int .i64 l, .slice p xs.length cap] 27
    have hsz : (w3.alloc (.cells #[.int .i64 l, .slice p xs.length cap] 27)).heap.size = w3.heap.size + 1 := by simp
    have d4 := (d3.mono (m' := xs.length + 1) (by omega)).below hba (Nat.le_refl _)
    have hr3 := hr2.below hb3 (Nat.le_refl _)
    have hr4 := hr3.below hba (Nat.le_refl _)
    have hB4 := (hb2.trans (hb3.mono hs2)).trans (hba.mono (by omega))
    obtain ⟨lq, lg, lh, _⟩ := d3.lt
    have T4 := hid (T.out _ _ _ _ d4)
    clear T
    go_wp2_with fail
    refine T4.out.mono ?_
    rintro e w4 ⟨vw, rfl, ⟨hw4, hvw⟩, hb4⟩
    have HVW := hid hvw
    clear hvw
    generalize (w3.alloc (.cells #[.int .i64 l, .slice p xs.length cap] 27)) = wa at *
    have d5 := d4.below hb4 (Nat.le_refl _)
    have hr5 := hr4.below hb4 (Nat.le_refl _)
    have Sb5 := Sb.below hb4 (Nat.le_refl _)
    have hs4 := hb4.size
    have hB5 := hB4.trans (hb4.mono (by omega))
    have P5 := hid (pl_snap d5 (by omega))
    clear d4 hr4 hB4 hb4 d3 Sb T4
    go_wp2_with fail
    refine P5.out.mono ?_
    rintro e w6 hN
    obtain ⟨v6, rfl, own6, hb6⟩ := hN
    have hr6 := own6.rd
    obtain ⟨p6, c6, rfl⟩ := hr6.val
    have hs6 := hb6.size
    have d6 := d5.below hb6 (Nat.le_refl _)
    have hrx6 := hr5.below hb6 (Nat.le_refl _)
    have hw6 := hw4.below hb6 (Nat.le_refl _)
    have Sb6 := Sb5.below hb6 (Nat.le_refl _)
    have hB6 := hB5.trans (hb6.mono (by omega))
    clear d5 hr5 hB5 hb6 P5 hw4 Sb5
    go_wp2_with fail
    refine (SL.out w6 p6 c6 hr6 hrx6).mono ?_
    rintro e w7 ⟨rfl, n7, rfl⟩
    rw [hsl.out]
    have d7 := d6.below (below_drewN (Below.refl w6.heap.size w6) n7) (Nat.le_refl _)
    have hr7 := hrx6.drewN n7
    have hw7 := hw6.drewN n7
    have Sb7 := Sb6.drewN n7
    have hB7 := below_drewN hB6 n7
    have hs7 : (w6.drewN n7).heap.size = w6.heap.size := rfl
    generalize w6.drewN n7 = w7 at *
    have U7 := hid (U.out w7 q g h d7)
    clear d6 hrx6 hr6 own6 hB6 hw6 Sb6 U
    go_wp2_with fail
    refine U7.out.mono ?_
    rintro e w8 ⟨rfl, h8, d8, hh8, ch8⟩
    have hs8 := ch8.size
    have hr8 := hr2.old hr7 ch8 hq hg hh
    have hw8 : RdI w8 vw st := hw7.keep (fun j hj e => ch8.block j hj (fun hp => by
      have := HVW.out j e
      rcases hp with e | e | e <;> omega)) ch8.size
    have Sb8 := Sb7.keep (ch8.block _ Sb7.lt (fun hp => by rcases hp with e | e | e <;> omega))
    have hB8 := hB7.trans (ch8.below (B := w.heap.size) (fun j _ hp => by rcases hp with e | e | e <;> omega) (by omega))
    have d8' := d8
    have R8 := hid (R.out w8 hr8)
    clear d7 hr7 hw7 Sb7 hB7 ch8 U7 hr3 hr2 R
    go_wp2_with fail
    refine (RI.out w8).mono ?_
    rintro e w' ⟨rfl, rfl⟩
    have s0 : w8.cell? ⟨w3.heap.size, 0, none⟩ = some (.int .i64 l) := Sb8.cell 0
    have s1 : w8.cell? ⟨w3.heap.size, 1, none⟩ = some (.slice p xs.length cap) := Sb8.cell 1
    go_wp2_with fail
    refine R8.out.mono ?_
    rintro e w9 ⟨v9, o9, rfl, hr9, _, ⟨ho9, _⟩, hb9⟩
    obtain ⟨p9, c9, rfl⟩ := hr9.val
    obtain ⟨po, co, rfl⟩ := ho9.val
    obtain ⟨pw, cw, rfl⟩ := hw8.val
    have hs9 := hb9.size
    have d9 := d8.below hb9 (Nat.le_refl _)
    have hw9 := hw8.below hb9 (Nat.le_refl _)
    have hB9 := hB8.trans (hb9.mono (by omega))
    have hbb : Below w9.heap.size w9 (w9.alloc (.cells #[.int .i64 l, .slice p9 Z.length c9] 27)) := (Below.refl _ _).alloc (Nat.le_refl _) _
    have Wb := Blk.new w9 #[.int .i64 l, .slice p9 Z.length c9] 27
    have d10 := d9.below hbb (Nat.le_refl _)
    have hw10 := hw9.below hbb (Nat.le_refl _)
    have ho10 := ho9.below hbb (Nat.le_refl _)
    have hr10 := hr9.below hbb (Nat.le_refl _)
    have hB10 := hB9.trans (hbb.mono (by omega))
    have hs10 : (w9.alloc (.cells #[.int .i64 l, .slice p9 Z.length c9] 27)).heap.size = w9.heap.size + 1 := by simp
    have hel : ((st.length : Int) == (st.length : Int)) = true := by simp
    clear d8 d8' d9 hw8 hw9 ho9 hr9 hB8 hB9 hbb hb9 R8 s0 s1 Sb8 hr8 HVW
    go_wp2_with fail
    generalize (w9.alloc (.cells #[.int .i64 l, .slice p9 Z.length c9] 27)) = wb at *
    have z1 : wb.cell? ⟨w9.heap.size, 1, none⟩ = some (.slice p9 Z.length c9) := Wb.cell 1
    have hB0 := Below.refl wb.heap.size wb
    have hWl := Wb.lt
    have PS := hid (fun W (x : PoolV W q g h8 kind l (xs.length + 1) Z) => pl_snap x (by omega))
    have hSZ := hsz'.out
    have hSI := hsi.out
    go_region_held3 (fun w' => w'.cell? ⟨w9.heap.size, 1, none⟩ = some (.slice p9 Z.length c9) ∧ Below wb.heap.size wb w')
      (first
        | exact ⟨z1, below_drewN hB0 1⟩
        | exact ⟨(Wb.below' hBn hWl).cell 1, hBn⟩)
      (first
        | (go_at_call 15; have hBa := (‹_ ∧ Below wb.heap.size wb _›).2; refine (SI.out _ _ _ (hw10.below hBa (Nat.le_refl _)) (ho10.below hBa (Nat.le_refl _))).mono ?_; rintro e w5 ⟨rfl, n5, e5⟩; rw [hSI]
           have hBn : Below wb.heap.size wb w5 := by rw [e5]; exact below_drewN hBa n5
           clear e5)
        | (go_at_call 11; have hBa := (‹_ ∧ Below wb.heap.size wb _›).2; refine (PS.out _ (d10.below hBa (Nat.le_refl _))).mono ?_; rintro e w5 hN; obtain ⟨v5, rfl, own5, hb5⟩ := hN
           have hBn := hBa.trans (hb5.mono hBa.size)
           have hr5 := own5.rd)
        | (go_at_call 10; have hBa := (‹_ ∧ Below wb.heap.size wb _›).2; refine (SZ.out _ _ _ (by assumption) (hr10.below hBa (Nat.le_refl _))).mono ?_; rintro e w5 ⟨rfl, n5, e5⟩; rw [hSZ]
           have hBn : Below wb.heap.size wb w5 := by rw [e5]; exact below_drewN hBa n5
           clear e5)
        | (go_at_call 7; have hBa := (‹_ ∧ Below wb.heap.size wb _›).2; refine (A.out _).mono ?_; rintro e w5 ⟨rfl, hb5⟩
           have hBn := hBa.trans (hb5.mono hBa.size)))
    go_wp2_with fail
    go_ret
    exact ⟨rfl, hB10.trans (hBn.mono (by omega))⟩
end Go.Proofs.YtejoecoenehooaaGreat
