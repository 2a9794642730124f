/- The walk of PressBounds. -/
import Derived.Test.YtejoecoenehooaaPr9
import Derived.Deep.RegionLaw
namespace Go.Proofs.Ytejoecoenehooaa
open Go.RowKit Nl

/-- What is known of a run. -/
theorem Nl.bounds_facts {l k : Int} {xs Z : List Nd} {st : List Int} (r : Roll l xs) (hk : isK k = true) (e : runR l (capV (sumL xs) k) xs = (Z, st)) :
    Roll l Z ∧ sumL Z = sumL xs ∧ Z.length ≤ xs.length ∧ (st.length : Int) ≤ l * xs.length ∧ (Z.length : Int) ≤ 4 * k - 1 ∧ (firstR l Z (capV (sumL Z) k)).isNone = true ∧ runR l (capV (sumL Z) k) Z = (Z, []) ∧ (lightB l xs (capV (sumL xs) k) = true → lightB l Z (capV (sumL Z) k) = true) := by
  have h := run_facts (most := capV (sumL xs) k) r
  have h6 := fun h => run_light (cap_nn (sumL xs) k) r h
  rw [e] at h h6
  obtain ⟨h1, h2, h3, h4, h5⟩ := h
  simp only at h1 h2 h3 h4 h5 h6
  simp only [isK, decide_eq_true_eq] at hk
  rw [← h2] at h4
  refine ⟨h1, h2, h3, h5, tight_len h1 hk.1 h4, by rw [h4]; rfl, runR_none h4, fun h => ?_⟩
  rw [h2]; exact h6 h

set_option maxRecDepth 100000 in
set_option maxHeartbeats 1000000 in
theorem PressBounds_walk (kind l : Int) (v : Value) (xs : List Nd) (k : Int) (w : World) (_hk0 : -9223372036854775808 ≤ kind) (_hk1 : kind ≤ 9223372036854775807) (hl : -9223372036854775808 ≤ l) (hl1 : l ≤ 9223372036854775807) (ho : RdA w v xs) (hk0 : -9223372036854775808 ≤ k) (hk1 : k ≤ 9223372036854775807) :
    Calls Try.prog 7 #[.int .i64 kind, .int .i64 l, v, .int .i64 k] w fun e w' => e = .returned (.bool true) ∧ Below w.heap.size w w' := by
  have Is := hid (f_is kind l w ho ⟨hl, hl1⟩)
  obtain ⟨hr, hn, hlen⟩ := ho
  obtain ⟨p, cap, rfl⟩ := hr.val
  have bk : In64 k := ⟨hk0, hk1⟩
  have RI := hid (fun W : World => r_Is k W)
  have A := hid (fun W : World => p_alive W)
  obtain ⟨F, eF⟩ : ∃ F, askB kind l xs = F := ⟨_, rfl⟩
  obtain ⟨K, eK⟩ : ∃ K, isK k = K := ⟨_, rfl⟩
  rw [eF] at Is
  rw [eK] at RI
  have EK := hid eK
  have EF := hid eF
  clear eF eK
  cases F
  · go_enter Try.func7, Try.ntmps7
    go_wp2_with fail
    refine Is.out.mono ?_
    rintro e w2 ⟨rfl, hb2⟩
    go_wp2_with fail
    refine (A.out w2).mono ?_
    rintro e w3 ⟨rfl, hb3⟩
    go_wp2_with fail
    go_ret
    exact ⟨rfl, hb2.trans (hb3.mono hb2.size)⟩
  cases K
  · go_enter Try.func7, Try.ntmps7
    go_wp2_with fail
    refine Is.out.mono ?_
    rintro e w2 ⟨rfl, hb2⟩
    go_wp2_with fail
    refine (RI.out w2).mono ?_
    rintro e w' ⟨rfl, rfl⟩
    go_wp2_with fail
    refine (A.out w2).mono ?_
    rintro e w3 ⟨rfl, hb3⟩
    go_wp2_with fail
    go_ret
    exact ⟨rfl, hb2.trans (hb3.mono hb2.size)⟩
  obtain ⟨e1, e2, e3, e4⟩ := few_parts EF.out
  have hroll := rollB_iff.1 e4
  have eK := EK.out
  have hkk : 1 ≤ k ∧ k ≤ 1048576 := by simpa only [isK, decide_eq_true_eq] using eK
  obtain ⟨kk1, kk2⟩ := hkk
  have M := hid (fun W (q : RdN W (.slice p xs.length cap) xs) => p_made kind l W e2 e4 q hn (by omega))
  have ST0 := fun W (q : RdN W (.slice p xs.length cap) xs) => r_sttotal l W q (by omega)
  simp only [hroll.tot] at ST0
  have ST := hid ST0
  obtain ⟨Z, st, eR⟩ : ∃ Z st, runR l (capV (sumL xs) k) xs = (Z, st) := ⟨_, _, rfl⟩
  obtain ⟨f1, f2, f3, f4, f5, f6, f7, f8⟩ := bounds_facts hroll eK eR
  have F8 := hid f8
  have HF := hid (And.intro f2 (And.intro f6 f7))
  have ER := hid eR
  have l1 := hroll.l1
  have l2 := hroll.l2
  obtain ⟨N, eN⟩ : ∃ N, xs.length = N := ⟨_, rfl⟩
  have hm0 : 0 ≤ l * (xs.length : Int) := Int.mul_nonneg (by omega) (by omega)
  have hm1 : l * (xs.length : Int) ≤ 48 * 60 := Int.mul_le_mul l2 (by omega) (by omega) (by omega)
  obtain ⟨MM, eM⟩ : ∃ MM, l * (xs.length : Int) = MM := ⟨_, rfl⟩
  rw [eM] at f4 hm0 hm1
  have hw : IntKind.i64.wrap (l * (xs.length : Int)) = MM := by rw [eM]; exact IntWalk.i64_in _ (by omega)
  have hw2 : wrap64 (l * (xs.length : Int)) = MM := by rw [eM]; exact IntWalk.wrap64_in _ ⟨by omega, by omega⟩
  have hk4 : IntKind.i64.wrap (4 * k) = 4 * k := IntWalk.i64_in _ (by omega)
  have hk5 : IntKind.i64.wrap (4 * k - 1) = 4 * k - 1 := IntWalk.i64_in _ (by omega)
  have hk6 : wrap64 (4 * k) = 4 * k := IntWalk.wrap64_in _ ⟨by omega, by omega⟩
  have hk7 : wrap64 (4 * k - 1) = 4 * k - 1 := IntWalk.wrap64_in _ ⟨by omega, by omega⟩
  have EM := hid eM
  clear ST0 e2 e3 e4 f8 eM f1 f2 f6 f7 eR eN
  go_enter Try.func7, Try.ntmps7
  go_wp2_with fail
  refine Is.out.mono ?_
  rintro e w2 ⟨rfl, hb2⟩
  have hr2 := hr.below hb2 (Nat.le_refl _)
  have hs2 := hb2.size
  go_wp2_with fail
  refine (RI.out w2).mono ?_
  rintro e w' ⟨rfl, rfl⟩
  go_wp2_with fail
  refine (M.out w2 hr2).mono ?_
  rintro e w3 ⟨q, g, h, rfl, d3, hq, hg, hh, hb3⟩
  have d3' := d3.mono (m' := xs.length + 1) (by omega)
  have L1 := fun W (x : PoolV W q g h kind l (xs.length + 1) xs) => p_LightB k x (by omega)
  have U1 := fun W (x : PoolV W q g h kind l (xs.length + 1) xs) => p_Run k eK x (by omega) (by omega) (by omega)
  simp only [ER.out] at U1
  simp only [eK, Bool.and_true] at L1
  have LL1 := hid L1
  have UU1 := hid U1
  obtain ⟨lb, elb⟩ : ∃ lb, lightB l xs (capV (sumL xs) k) = lb := ⟨_, rfl⟩
  rw [elb] at F8
  simp only [elb] at LL1
  clear L1 U1 elb
  have hs3 := hb3.size
  have Sb := Blk.new w3 #[.int .i64 l, .slice p xs.length cap] 43
  have hb4 : Below w3.heap.size w3 (w3.alloc (.cells #[.int .i64 l, .slice p xs.length cap] 43)) := (Below.refl _ _).alloc (Nat.le_refl _) _
  have d4 := d3'.below hb4 (Nat.le_refl _)
  have hr4 := (hr2.below hb3 (Nat.le_refl _)).below hb4 (Nat.le_refl _)
  have hB4 := (hb2.trans (hb3.mono hs2)).trans (hb4.mono (by omega))
  have hsz4 : (w3.alloc (.cells #[.int .i64 l, .slice p xs.length cap] 43)).heap.size = w3.heap.size + 1 := by simp
  obtain ⟨lq, lg, lh, _⟩ := d3.lt
  clear d3 d3' hb3 hb2 hb4 M Is RI
  go_wp2_with fail
  generalize (w3.alloc (.cells #[.int .i64 l, .slice p xs.length cap] 43)) = w4 at *
  refine (LL1.out w4 d4).mono ?_
  rintro e w5 ⟨rfl, hb5⟩
  have d5 := d4.below hb5 (Nat.le_refl _)
  have hr5 := hr4.below hb5 (Nat.le_refl _)
  have S5 := Sb.below hb5 (Nat.le_refl _)
  have hs5 := hb5.size
  have hB5 := hB4.trans (hb5.mono (by omega))
  clear d4 hr4 Sb hb5
  go_wp2_with fail
  refine (UU1.out w5 d5).mono ?_
  rintro e w6 ⟨rfl, h6, d6, hh6, c6⟩
  have hr6 := hr2.old hr5 c6 hq hg hh
  have S6 := S5.keep (c6.block _ S5.lt (fun hp => by rcases hp with e | e | e <;> omega))
  have hs6 := c6.size
  have hB6 := hB5.trans (c6.below (B := w.heap.size) (fun j _ hp => by rcases hp with e | e | e <;> omega) (by omega))
  have hg6 : w2.heap.size ≤ h6 := by rcases hh6 with e | e <;> omega
  obtain ⟨mq, mg, mh, _⟩ := d6.lt
  have T1 := fun W (x : PoolV W q g h6 kind l (xs.length + 1) Z) => p_Tight k x (by omega) (by omega) bk
  have L2 := fun W (x : PoolV W q g h6 kind l (xs.length + 1) Z) => p_LightB k x (by omega)
  have TT := fun W (x : PoolV W q g h6 kind l (xs.length + 1) Z) => pl_total x
  have LN := hid (fun W (x : PoolV W q g h6 kind l (xs.length + 1) Z) => pl_len x)
  have SN := hid (fun W (x : PoolV W q g h6 kind l (xs.length + 1) Z) => pl_snap x (by omega))
  have U2 := fun W (x : PoolV W q g h6 kind l (xs.length + 1) Z) => p_Run k eK x (by omega) (by omega) (by omega)
  obtain ⟨f2, f6, f7⟩ := HF.out
  simp only [f6, eK, Bool.and_self] at T1
  simp only [eK, Bool.and_true] at L2
  simp only [f7] at U2
  simp only [f2] at TT
  have TT1 := hid T1
  have TTT := hid TT
  have UU2 := hid U2
  have LL2 := hid L2
  have hZlen : Z.length < 2097152 := by omega
  obtain ⟨NZ, eNZ⟩ : ∃ NZ, Z.length = NZ := ⟨_, rfl⟩
  obtain ⟨NS, eNS⟩ : ∃ NS, st.length = NS := ⟨_, rfl⟩
  rw [eNZ] at f3 f5
  rw [eNS] at f4
  simp only [eNZ] at LN
  rw [eNS]
  obtain ⟨tot, etot⟩ : ∃ tot, sumL xs = tot := ⟨_, rfl⟩
  simp only [etot] at TTT ST
  have htt : (tot != tot) = false := by simp
  obtain ⟨lz, elz⟩ : ∃ lz, lightB l Z (capV (sumL Z) k) = lz := ⟨_, rfl⟩
  rw [elz] at F8
  simp only [elz] at LL2
  clear T1 TT U2 L2 S5 d5 hr5 etot c6 LL1 UU1 elz eNZ eNS f6 f7 f2
  have s0 : w6.cell? ⟨w3.heap.size, 0, none⟩ = some (.int .i64 l) := S6.cell 0
  have s1 : w6.cell? ⟨w3.heap.size, 1, none⟩ = some (.slice p xs.length cap) := S6.cell 1
  have hB0 := Below.refl w6.heap.size w6
  have hSl := S6.lt
  have hnd1 : decide ((4 * k - 1) < (NZ : Int)) = false := by simp; omega
  have hnd2 : decide (xs.length < NZ) = false := by simp; omega
  have hnd3 : decide (MM < (NS : Int)) = false := by simp; omega
  rcases (show lb = false ∨ (lb = true ∧ lz = true) by
    cases lb
    · exact .inl rfl
    · exact .inr ⟨rfl, F8.out rfl⟩) with rfl | ⟨rfl, rfl⟩
  · clear F8
    go_wp2_with fail
    have hBd : Below w6.heap.size w6 w6.drew := below_drewN hB0 1
    refine wp_region_held_drew (S := fun w' => w'.cell? ⟨w3.heap.size, 0, none⟩ = some (.int .i64 l) ∧ w'.cell? ⟨w3.heap.size, 1, none⟩ = some (.slice p xs.length cap) ∧ Below w6.heap.size w6 w') (by kernel_rfl) ⟨s0, s1, hBd⟩ (fun hHeld => ?_)
    refine wpAnyH_take (i := 0) (v := ?_) rfl (by kernel_rfl) (by kernel_rfl) (by kernel_rfl) (fun _ _ _ h => h) (Or.inl ⟨by rfl, ?_⟩) hHeld ?_
    rotate_left 1
    · intro w hSw; (try dsimp only at hSw); go_simp; first | done | with_reducible rfl
    show wpAnyH _ _ _ _ _ _ _ (Act.put _ (some 48) _) _
    try simp only [Act.put, List.setIfInBounds_toArray, List.set_cons_zero, List.set_cons_succ]
    refine wpAnyH_take (i := 1) (v := ?_) rfl (by kernel_rfl) (by kernel_rfl) (by kernel_rfl) (fun _ _ _ h => h) (Or.inl ⟨by rfl, ?_⟩) hHeld ?_
    rotate_left 1
    · intro w hSw; (try dsimp only at hSw); go_simp; first | done | with_reducible rfl
    show wpAnyH _ _ _ _ _ _ _ (Act.put _ (some 49) _) _
    try simp only [Act.put, List.setIfInBounds_toArray, List.set_cons_zero, List.set_cons_succ]
    refine wpAnyH_take (i := 2) (v := ?_) rfl (by kernel_rfl) (by kernel_rfl) (by kernel_rfl) (fun _ _ _ h => h) (Or.inl ⟨by rfl, ?_⟩) hHeld ?_
    rotate_left 1
    · intro w hSw; (try dsimp only at hSw); go_simp; first | done | with_reducible rfl
    show wpAnyH _ _ _ _ _ _ _ (Act.put _ (some 50) _) _
    try simp only [Act.put, List.setIfInBounds_toArray, List.set_cons_zero, List.set_cons_succ]
    refine wpAnyH_take (i := 3) (v := ?_) rfl (by kernel_rfl) (by kernel_rfl) (by kernel_rfl) (fun _ _ _ h => h) (Or.inl ⟨by rfl, ?_⟩) hHeld ?_
    rotate_left 1
    · intro w hSw; (try dsimp only at hSw); go_simp; first | done | with_reducible rfl
    show wpAnyH _ _ _ _ _ _ _ (Act.put _ (some 51) _) _
    try simp only [Act.put, List.setIfInBounds_toArray, List.set_cons_zero, List.set_cons_succ]
    refine wpAnyH_take (i := 4) (v := ?_) rfl (by kernel_rfl) (by kernel_rfl) (by kernel_rfl) (fun _ _ _ h => h) (Or.inl ⟨by rfl, ?_⟩) hHeld ?_
    rotate_left 1
    · intro w hSw; (try dsimp only at hSw); go_simp; first | done | with_reducible rfl
    show wpAnyH _ _ _ _ _ _ _ (Act.put _ (some 52) _) _
    try simp only [Act.put, List.setIfInBounds_toArray, List.set_cons_zero, List.set_cons_succ]
    refine wpAnyH_ready (rs := [5]) (by kernel_rfl) (by simp) ?_
    refine AllReadyH.cons rfl (fun K hK => ?_) AllReadyH.nil
    go_simp
    (go_at_call 40; have hBa := hHeld.2.2; refine (TT1.out _ (d6.below hBa (Nat.le_refl _))).mono ?_; rintro e w7 ⟨rfl, hb7⟩; have hBq := hBa.trans (hb7.mono hBa.size); go_simp)
    refine hK.out _ _ ⟨(S6.below' hBq hSl).cell 0, (S6.below' hBq hSl).cell 1, hBq⟩ (fun hHeld => ?_)
    clear hK K
    try simp only [Act.put, List.setIfInBounds_toArray, List.set_cons_zero, List.set_cons_succ]
    refine wpAnyH_take (i := 6) (v := ?_) rfl (by kernel_rfl) (by kernel_rfl) (by kernel_rfl) (fun _ _ _ h => h) (Or.inl ⟨by rfl, ?_⟩) hHeld ?_
    rotate_left 1
    · intro w hSw; (try dsimp only at hSw); go_simp; first | done | with_reducible rfl
    show wpAnyH _ _ _ _ _ _ _ (Act.put _ (some 54) _) _
    try simp only [Act.put, List.setIfInBounds_toArray, List.set_cons_zero, List.set_cons_succ]
    refine wpAnyH_take (i := 7) (v := ?_) rfl (by kernel_rfl) (by kernel_rfl) (by kernel_rfl) (fun _ _ _ h => h) (Or.inl ⟨by rfl, ?_⟩) hHeld ?_
    rotate_left 1
    · intro w hSw; (try dsimp only at hSw); go_simp; first | done | with_reducible rfl
    show wpAnyH _ _ _ _ _ _ _ (Act.put _ (some 55) _) _
    try simp only [Act.put, List.setIfInBounds_toArray, List.set_cons_zero, List.set_cons_succ]
    refine wpAnyH_take (i := 8) (v := ?_) rfl (by kernel_rfl) (by kernel_rfl) (by kernel_rfl) (fun _ _ _ h => h) (Or.inl ⟨by rfl, ?_⟩) hHeld ?_
    rotate_left 1
    · intro w hSw; (try dsimp only at hSw); go_simp; first | done | with_reducible rfl
    show wpAnyH _ _ _ _ _ _ _ (Act.put _ (some 56) _) _
    try simp only [Act.put, List.setIfInBounds_toArray, List.set_cons_zero, List.set_cons_succ]
    refine wpAnyH_take (i := 9) (v := ?_) rfl (by kernel_rfl) (by kernel_rfl) (by kernel_rfl) (fun _ _ _ h => h) (Or.inl ⟨by rfl, ?_⟩) hHeld ?_
    rotate_left 1
    · intro w hSw; (try dsimp only at hSw); go_simp; first | done | with_reducible rfl
    show wpAnyH _ _ _ _ _ _ _ (Act.put _ (some 57) _) _
    try simp only [Act.put, List.setIfInBounds_toArray, List.set_cons_zero, List.set_cons_succ]
    refine wpAnyH_take (i := 11) (v := ?_) rfl (by kernel_rfl) (by kernel_rfl) (by kernel_rfl) (fun _ _ _ h => h) (Or.inl ⟨by rfl, ?_⟩) hHeld ?_
    rotate_left 1
    · intro w hSw; (try dsimp only at hSw); go_simp; first | done | with_reducible rfl
    show wpAnyH _ _ _ _ _ _ _ (Act.put _ (some 59) _) _
    try simp only [Act.put, List.setIfInBounds_toArray, List.set_cons_zero, List.set_cons_succ]
    refine wpAnyH_ready (rs := [10]) (by kernel_rfl) (by simp) ?_
    refine AllReadyH.cons rfl (fun K hK => ?_) AllReadyH.nil
    go_simp
    (go_at_call 44; have hBq := hHeld.2.2; refine (TTT.out _ (d6.below hBq (Nat.le_refl _))).mono ?_; rintro e wx ⟨rfl, rfl⟩; go_simp)
    refine hK.out _ _ ⟨(S6.below' hBq hSl).cell 0, (S6.below' hBq hSl).cell 1, hBq⟩ (fun hHeld => ?_)
    clear hK K
    try simp only [Act.put, List.setIfInBounds_toArray, List.set_cons_zero, List.set_cons_succ]
    refine wpAnyH_ready (rs := [12]) (by kernel_rfl) (by simp) ?_
    refine AllReadyH.cons rfl (fun K hK => ?_) AllReadyH.nil
    go_simp
    (go_at_call 45; have hBa := hHeld.2.2; refine (ST.out _ (hr6.below hBa (Nat.le_refl _))).mono ?_; rintro e w8 ⟨rfl, hb8⟩; have hBq := hBa.trans (hb8.mono hBa.size); go_simp)
    refine hK.out _ _ ⟨(S6.below' hBq hSl).cell 0, (S6.below' hBq hSl).cell 1, hBq⟩ (fun hHeld => ?_)
    clear hK K
    try simp only [Act.put, List.setIfInBounds_toArray, List.set_cons_zero, List.set_cons_succ]
    refine wpAnyH_take (i := 13) (v := ?_) rfl (by kernel_rfl) (by kernel_rfl) (by kernel_rfl) (fun _ _ _ h => h) (Or.inl ⟨by rfl, ?_⟩) hHeld ?_
    rotate_left 1
    · intro w hSw; (try dsimp only at hSw); go_simp; first | done | with_reducible rfl
    show wpAnyH _ _ _ _ _ _ _ (Act.put _ (some 61) _) _
    try simp only [Act.put, List.setIfInBounds_toArray, List.set_cons_zero, List.set_cons_succ]
    refine wpAnyH_take (i := 14) (v := ?_) rfl (by kernel_rfl) (by kernel_rfl) (by kernel_rfl) (fun _ _ _ h => h) (Or.inl ⟨by rfl, ?_⟩) hHeld ?_
    rotate_left 1
    · intro w hSw; (try dsimp only at hSw); go_simp; first | done | with_reducible rfl
    show wpAnyH _ _ _ _ _ _ _ (Act.put _ (some 62) _) _
    try simp only [Act.put, List.setIfInBounds_toArray, List.set_cons_zero, List.set_cons_succ]
    refine wpAnyH_take (i := 15) (v := ?_) rfl (by kernel_rfl) (by kernel_rfl) (by kernel_rfl) (fun _ _ _ h => h) (Or.inl ⟨by rfl, ?_⟩) hHeld ?_
    rotate_left 1
    · intro w hSw; (try dsimp only at hSw); go_simp; first | done | with_reducible rfl
    show wpAnyH _ _ _ _ _ _ _ (Act.put _ (some 63) _) _
    try simp only [Act.put, List.setIfInBounds_toArray, List.set_cons_zero, List.set_cons_succ]
    refine wpAnyH_take (i := 16) (v := ?_) rfl (by kernel_rfl) (by kernel_rfl) (by kernel_rfl) (fun _ _ _ h => h) (Or.inl ⟨by rfl, ?_⟩) hHeld ?_
    rotate_left 1
    · intro w hSw; (try dsimp only at hSw); go_simp; first | done | with_reducible rfl
    show wpAnyH _ _ _ _ _ _ _ (Act.put _ (some 64) _) _
    try simp only [Act.put, List.setIfInBounds_toArray, List.set_cons_zero, List.set_cons_succ]
    refine wpAnyH_take (i := 18) (v := ?_) rfl (by kernel_rfl) (by kernel_rfl) (by kernel_rfl) (fun _ _ _ h => h) (Or.inl ⟨by rfl, ?_⟩) hHeld ?_
    rotate_left 1
    · intro w hSw; (try dsimp only at hSw); go_simp; first | done | with_reducible rfl
    show wpAnyH _ _ _ _ _ _ _ (Act.put _ (some 66) _) _
    try simp only [Act.put, List.setIfInBounds_toArray, List.set_cons_zero, List.set_cons_succ]
    refine wpAnyH_take (i := 19) (v := ?_) rfl (by kernel_rfl) (by kernel_rfl) (by kernel_rfl) (fun _ _ _ h => h) (Or.inl ⟨by rfl, ?_⟩) hHeld ?_
    rotate_left 1
    · intro w hSw; (try dsimp only at hSw); go_simp; first | done | with_reducible rfl
    show wpAnyH _ _ _ _ _ _ _ (Act.put _ (some 67) _) _
    try simp only [Act.put, List.setIfInBounds_toArray, List.set_cons_zero, List.set_cons_succ]
    refine wpAnyH_take (i := 20) (v := ?_) rfl (by kernel_rfl) (by kernel_rfl) (by kernel_rfl) (fun _ _ _ h => h) (Or.inl ⟨by rfl, ?_⟩) hHeld ?_
    rotate_left 1
    · intro w hSw; (try dsimp only at hSw); go_simp; first | done | with_reducible rfl
    show wpAnyH _ _ _ _ _ _ _ (Act.put _ (some 68) _) _
    try simp only [Act.put, List.setIfInBounds_toArray, List.set_cons_zero, List.set_cons_succ]
    refine wpAnyH_ready (rs := [17]) (by kernel_rfl) (by simp) ?_
    refine AllReadyH.cons rfl (fun K hK => ?_) AllReadyH.nil
    go_simp
    (go_at_call 46; have hBq := hHeld.2.2; refine (LN.out _ (d6.below hBq (Nat.le_refl _))).mono ?_; rintro e wx ⟨rfl, rfl⟩; go_simp)
    refine hK.out _ _ ⟨(S6.below' hBq hSl).cell 0, (S6.below' hBq hSl).cell 1, hBq⟩ (fun hHeld => ?_)
    clear hK K
    try simp only [Act.put, List.setIfInBounds_toArray, List.set_cons_zero, List.set_cons_succ]
    refine wpAnyH_take (i := 21) (v := ?_) rfl (by kernel_rfl) (by kernel_rfl) (by kernel_rfl) (fun _ _ _ h => h) (Or.inl ⟨by rfl, ?_⟩) hHeld ?_
    rotate_left 1
    · intro w hSw; (try dsimp only at hSw); go_simp; first | done | with_reducible rfl
    show wpAnyH _ _ _ _ _ _ _ (Act.put _ (some 69) _) _
    try simp only [Act.put, List.setIfInBounds_toArray, List.set_cons_zero, List.set_cons_succ]
    refine wpAnyH_take (i := 22) (v := ?_) rfl (by kernel_rfl) (by kernel_rfl) (by kernel_rfl) (fun _ _ _ h => h) (Or.inl ⟨by rfl, ?_⟩) hHeld ?_
    rotate_left 1
    · intro w hSw; (try dsimp only at hSw); go_simp; first | done | with_reducible rfl
    show wpAnyH _ _ _ _ _ _ _ (Act.put _ (some 70) _) _
    try simp only [Act.put, List.setIfInBounds_toArray, List.set_cons_zero, List.set_cons_succ]
    refine wpAnyH_take (i := 23) (v := ?_) rfl (by kernel_rfl) (by kernel_rfl) (by kernel_rfl) (fun _ _ _ h => h) (Or.inl ⟨by rfl, ?_⟩) hHeld ?_
    rotate_left 1
    · intro w hSw; (try dsimp only at hSw); go_simp; first | done | with_reducible rfl
    show wpAnyH _ _ _ _ _ _ _ (Act.put _ (some 71) _) _
    try simp only [Act.put, List.setIfInBounds_toArray, List.set_cons_zero, List.set_cons_succ]
    refine wpAnyH_take (i := 24) (v := ?_) rfl (by kernel_rfl) (by kernel_rfl) (by kernel_rfl) (fun _ _ _ h => h) (Or.inl ⟨by rfl, ?_⟩) hHeld ?_
    rotate_left 1
    · intro w hSw; (try dsimp only at hSw); go_simp; first | done | with_reducible rfl
    show wpAnyH _ _ _ _ _ _ _ (Act.put _ (some 72) _) _
    try simp only [Act.put, List.setIfInBounds_toArray, List.set_cons_zero, List.set_cons_succ]
    refine wpAnyH_take (i := 26) (v := ?_) rfl (by kernel_rfl) (by kernel_rfl) (by kernel_rfl) (fun _ _ _ h => h) (Or.inl ⟨by rfl, ?_⟩) hHeld ?_
    rotate_left 1
    · intro w hSw; (try dsimp only at hSw); go_simp; first | done | with_reducible rfl
    show wpAnyH _ _ _ _ _ _ _ (Act.put _ (some 74) _) _
    try simp only [Act.put, List.setIfInBounds_toArray, List.set_cons_zero, List.set_cons_succ]
    refine wpAnyH_take (i := 27) (v := ?_) rfl (by kernel_rfl) (by kernel_rfl) (by kernel_rfl) (fun _ _ _ h => h) (Or.inl ⟨by rfl, ?_⟩) hHeld ?_
    rotate_left 1
    · intro w hSw; (try dsimp only at hSw); go_simp; first | done | with_reducible rfl
    show wpAnyH _ _ _ _ _ _ _ (Act.put _ (some 75) _) _
    try simp only [Act.put, List.setIfInBounds_toArray, List.set_cons_zero, List.set_cons_succ]
    refine wpAnyH_ready (rs := [25]) (by kernel_rfl) (by simp) ?_
    refine AllReadyH.cons rfl (fun K hK => ?_) AllReadyH.nil
    go_simp
    (go_at_call 46; have hBq := hHeld.2.2; refine (LN.out _ (d6.below hBq (Nat.le_refl _))).mono ?_; rintro e wx ⟨rfl, rfl⟩; go_simp)
    refine hK.out _ _ ⟨(S6.below' hBq hSl).cell 0, (S6.below' hBq hSl).cell 1, hBq⟩ (fun hHeld => ?_)
    clear hK K
    try simp only [Act.put, List.setIfInBounds_toArray, List.set_cons_zero, List.set_cons_succ]
    refine wpAnyH_take (i := 28) (v := ?_) rfl (by kernel_rfl) (by kernel_rfl) (by kernel_rfl) (fun _ _ _ h => h) (Or.inl ⟨by rfl, ?_⟩) hHeld ?_
    rotate_left 1
    · intro w hSw; (try dsimp only at hSw); go_simp; first | done | with_reducible rfl
    show wpAnyH _ _ _ _ _ _ _ (Act.put _ (some 76) _) _
    try simp only [Act.put, List.setIfInBounds_toArray, List.set_cons_zero, List.set_cons_succ]
    refine wpAnyH_take (i := 29) (v := ?_) rfl (by kernel_rfl) (by kernel_rfl) (by kernel_rfl) (fun _ _ _ h => h) (Or.inl ⟨by rfl, ?_⟩) hHeld ?_
    rotate_left 1
    · intro w hSw; (try dsimp only at hSw); go_simp; first | done | with_reducible rfl
    show wpAnyH _ _ _ _ _ _ _ (Act.put _ (some 77) _) _
    try simp only [Act.put, List.setIfInBounds_toArray, List.set_cons_zero, List.set_cons_succ]
    refine wpAnyH_take (i := 30) (v := ?_) rfl (by kernel_rfl) (by kernel_rfl) (by kernel_rfl) (fun _ _ _ h => h) (Or.inl ⟨by rfl, ?_⟩) hHeld ?_
    rotate_left 1
    · intro w hSw; (try dsimp only at hSw); go_simp; first | done | with_reducible rfl
    show wpAnyH _ _ _ _ _ _ _ (Act.put _ (some 78) _) _
    try simp only [Act.put, List.setIfInBounds_toArray, List.set_cons_zero, List.set_cons_succ]
    refine wpAnyH_take (i := 31) (v := ?_) rfl (by kernel_rfl) (by kernel_rfl) (by kernel_rfl) (fun _ _ _ h => h) (Or.inl ⟨by rfl, ?_⟩) hHeld ?_
    rotate_left 1
    · intro w hSw; (try dsimp only at hSw); go_simp; first | done | with_reducible rfl
    show wpAnyH _ _ _ _ _ _ _ (Act.put _ (some 79) _) _
    try simp only [Act.put, List.setIfInBounds_toArray, List.set_cons_zero, List.set_cons_succ]
    refine wpAnyH_take (i := 32) (v := ?_) rfl (by kernel_rfl) (by kernel_rfl) (by kernel_rfl) (fun _ _ _ h => h) (Or.inl ⟨by rfl, ?_⟩) hHeld ?_
    rotate_left 1
    · intro w hSw; (try dsimp only at hSw); go_simp; first | done | with_reducible rfl
    show wpAnyH _ _ _ _ _ _ _ (Act.put _ (some 80) _) _
    try simp only [Act.put, List.setIfInBounds_toArray, List.set_cons_zero, List.set_cons_succ]
    refine wpAnyH_take (i := 33) (v := ?_) rfl (by kernel_rfl) (by kernel_rfl) (by kernel_rfl) (fun _ _ _ h => h) (Or.inl ⟨by rfl, ?_⟩) hHeld ?_
    rotate_left 1
    · intro w hSw; (try dsimp only at hSw); go_simp; first | done | with_reducible rfl
    show wpAnyH _ _ _ _ _ _ _ (Act.put _ (some 81) _) _
    try simp only [Act.put, List.setIfInBounds_toArray, List.set_cons_zero, List.set_cons_succ]
    refine wpAnyH_take (i := 34) (v := ?_) rfl (by kernel_rfl) (by kernel_rfl) (by kernel_rfl) (fun _ _ _ h => h) (Or.inl ⟨by rfl, ?_⟩) hHeld ?_
    rotate_left 1
    · intro w hSw; (try dsimp only at hSw); go_simp; first | done | with_reducible rfl
    show wpAnyH _ _ _ _ _ _ _ (Act.put _ (some 82) _) _
    try simp only [Act.put, List.setIfInBounds_toArray, List.set_cons_zero, List.set_cons_succ]
    refine wpAnyH_take (i := 35) (v := ?_) rfl (by kernel_rfl) (by kernel_rfl) (by kernel_rfl) (fun _ _ _ h => h) (Or.inl ⟨by rfl, ?_⟩) hHeld ?_
    rotate_left 1
    · intro w hSw; (try dsimp only at hSw); go_simp; first | done | with_reducible rfl
    show wpAnyH _ _ _ _ _ _ _ (Act.put _ (some 83) _) _
    try simp only [Act.put, List.setIfInBounds_toArray, List.set_cons_zero, List.set_cons_succ]
    refine wpAnyH_take (i := 36) (v := ?_) rfl (by kernel_rfl) (by kernel_rfl) (by kernel_rfl) (fun _ _ _ h => h) (Or.inl ⟨by rfl, ?_⟩) hHeld ?_
    rotate_left 1
    · intro w hSw; (try dsimp only at hSw); go_simp; first | done | with_reducible rfl
    show wpAnyH _ _ _ _ _ _ _ (Act.put _ (some 84) _) _
    try simp only [Act.put, List.setIfInBounds_toArray, List.set_cons_zero, List.set_cons_succ]
    refine wpAnyH_take (i := 37) (v := ?_) rfl (by kernel_rfl) (by kernel_rfl) (by kernel_rfl) (fun _ _ _ h => h) (Or.inl ⟨by rfl, ?_⟩) hHeld ?_
    rotate_left 1
    · intro w hSw; (try dsimp only at hSw); go_simp; first | done | with_reducible rfl
    show wpAnyH _ _ _ _ _ _ _ (Act.put _ (some 85) _) _
    try simp only [Act.put, List.setIfInBounds_toArray, List.set_cons_zero, List.set_cons_succ]
    refine wpAnyH_take (i := 38) (v := ?_) rfl (by kernel_rfl) (by kernel_rfl) (by kernel_rfl) (fun _ _ _ h => h) (Or.inl ⟨by rfl, ?_⟩) hHeld ?_
    rotate_left 1
    · intro w hSw; (try dsimp only at hSw); go_simp; first | done | with_reducible rfl
    show wpAnyH _ _ _ _ _ _ _ (Act.put _ (some 86) _) _
    try simp only [Act.put, List.setIfInBounds_toArray, List.set_cons_zero, List.set_cons_succ]
    refine wpAnyH_take (i := 39) (v := ?_) rfl (by kernel_rfl) (by kernel_rfl) (by kernel_rfl) (fun _ _ _ h => h) (Or.inl ⟨by rfl, ?_⟩) hHeld ?_
    rotate_left 1
    · intro w hSw; (try dsimp only at hSw); go_simp; first | done | with_reducible rfl
    show wpAnyH _ _ _ _ _ _ _ (Act.put _ (some 87) _) _
    try simp only [Act.put, List.setIfInBounds_toArray, List.set_cons_zero, List.set_cons_succ]
    refine wpAnyH_take (i := 40) (v := ?_) rfl (by kernel_rfl) (by kernel_rfl) (by kernel_rfl) (fun _ _ _ h => h) (Or.inl ⟨by rfl, ?_⟩) hHeld ?_
    rotate_left 1
    · intro w hSw; (try dsimp only at hSw); go_simp; first | done | with_reducible rfl
    show wpAnyH _ _ _ _ _ _ _ (Act.put _ (some 88) _) _
    try simp only [Act.put, List.setIfInBounds_toArray, List.set_cons_zero, List.set_cons_succ]
    refine wpAnyH_take (i := 41) (v := undef) rfl (by kernel_rfl) (by kernel_rfl) (by kernel_rfl) (fun _ _ _ h => h) (Or.inr ⟨by rfl, rfl⟩) hHeld ?_
    show wpAnyH _ _ _ _ _ _ _ (Act.put _ (some 89) _) _
    try simp only [Act.put, List.setIfInBounds_toArray, List.set_cons_zero, List.set_cons_succ]
    refine wpAnyH_take (i := 42) (v := undef) rfl (by kernel_rfl) (by kernel_rfl) (by kernel_rfl) (fun _ _ _ h => h) (Or.inr ⟨by rfl, rfl⟩) hHeld ?_
    show wpAnyH _ _ _ _ _ _ _ (Act.put _ (some 90) _) _
    try simp only [Act.put, List.setIfInBounds_toArray, List.set_cons_zero, List.set_cons_succ]
    refine wpAnyH_take (i := 43) (v := undef) rfl (by kernel_rfl) (by kernel_rfl) (by kernel_rfl) (fun _ _ _ h => h) (Or.inr ⟨by rfl, rfl⟩) hHeld ?_
    show wpAnyH _ _ _ _ _ _ _ (Act.put _ (some 91) _) _
    try simp only [Act.put, List.setIfInBounds_toArray, List.set_cons_zero, List.set_cons_succ]
    refine wpAnyH_take (i := 44) (v := undef) rfl (by kernel_rfl) (by kernel_rfl) (by kernel_rfl) (fun _ _ _ h => h) (Or.inr ⟨by rfl, rfl⟩) hHeld ?_
    show wpAnyH _ _ _ _ _ _ _ (Act.put _ (some 92) _) _
    try simp only [Act.put, List.setIfInBounds_toArray, List.set_cons_zero, List.set_cons_succ]
    refine wpAnyH_take (i := 45) (v := ?_) rfl (by kernel_rfl) (by kernel_rfl) (by kernel_rfl) (fun _ _ _ h => h) (Or.inl ⟨by rfl, ?_⟩) hHeld ?_
    rotate_left 1
    · intro w hSw; (try dsimp only at hSw); go_simp; first | done | with_reducible rfl
    show wpAnyH _ _ _ _ _ _ _ (Act.put _ (some 93) _) _
    try simp only [Act.put, List.setIfInBounds_toArray, List.set_cons_zero, List.set_cons_succ]
    refine wpAnyH_take (i := 46) (v := ?_) rfl (by kernel_rfl) (by kernel_rfl) (by kernel_rfl) (fun _ _ _ h => h) (Or.inl ⟨by rfl, ?_⟩) hHeld ?_
    rotate_left 1
    · intro w hSw; (try dsimp only at hSw); go_simp; first | done | with_reducible rfl
    show wpAnyH _ _ _ _ _ _ _ (Act.put _ (some 94) _) _
    try simp only [Act.put, List.setIfInBounds_toArray, List.set_cons_zero, List.set_cons_succ]
    refine wpAnyH_done (by kernel_rfl) ?_ _
    all_goals
      have hBz := hHeld.2.2
      have d7 := d6.below hBz (Nat.le_refl _)
      have hsz := hBz.size
      have hBw := hB6.trans (hBz.mono (by omega))
      go_wp2_with fail
      refine (SN.out _ d7).mono ?_
      rintro e wa ⟨va, rfl, oa, hba⟩
      obtain ⟨pa, ca, rfl⟩ := oa.val
      have da := d7.below hba (Nat.le_refl _)
      have hsa := hba.size
      have hBa2 := hBw.trans (hba.mono (by omega))
      go_wp2_with fail
      refine (UU2.out wa da).mono ?_
      rintro e wb ⟨rfl, h7, db, hh7, cb⟩
      have ob := oa.rd.off (B := 0) cb (fun j hj => by have := oa.lt j hj; exact .inr (by omega)) (Nat.zero_le _) (Nat.zero_le _) (Nat.zero_le _)
      have hsb := cb.size
      have hBb2 := hBa2.trans (cb.below (B := w.heap.size) (fun j _ hp => by rcases hp with e | e | e <;> omega) (by omega))
      have SN2 := hid (pl_snap db (by omega))
      go_wp2_with fail
      refine SN2.out.mono ?_
      rintro e wc ⟨vc, rfl, oc, hbc⟩
      obtain ⟨pc, cc, rfl⟩ := oc.val
      have hsc := hbc.size
      have hBc2 := hBb2.trans (hbc.mono (by omega))
      go_wp2_with fail
      refine (r_same_self wc oc.rd (ob.below hbc (Nat.le_refl _)) hZlen).mono ?_
      rintro e wd ⟨rfl, nd, rfl⟩
      go_wp2_with fail
      refine (A.out _).mono ?_
      rintro e we ⟨rfl, hbe⟩
      go_wp2_with fail
      go_ret
      exact ⟨rfl, (below_drewN hBc2 nd).trans (hbe.mono (show w.heap.size ≤ wc.heap.size by omega))⟩
  · clear F8
    go_wp2_with fail
    go_region_held3 (fun w' => w'.cell? ⟨w3.heap.size, 0, none⟩ = some (.int .i64 l) ∧ w'.cell? ⟨w3.heap.size, 1, none⟩ = some (.slice p xs.length cap) ∧ Below w6.heap.size w6 w')
      (first
        | exact ⟨s0, s1, below_drewN hB0 1⟩
        | exact ⟨(S6.below' hB9 hSl).cell 0, (S6.below' hB9 hSl).cell 1, hB9⟩
        | exact ⟨(S6.below' hB8 hSl).cell 0, (S6.below' hB8 hSl).cell 1, hB8⟩
        | exact ⟨(S6.below' hB7 hSl).cell 0, (S6.below' hB7 hSl).cell 1, hB7⟩)
      (first
        | (go_at_call 40; have hBa := (‹_ ∧ _ ∧ Below w6.heap.size w6 _›).2.2; refine (TT1.out _ (d6.below hBa (Nat.le_refl _))).mono ?_; rintro e w7 ⟨rfl, hb7⟩
           have hB7 := hBa.trans (hb7.mono hBa.size))
        | (go_at_call 44; have hBe := (‹_ ∧ _ ∧ Below w6.heap.size w6 _›).2.2; refine (TTT.out _ (d6.below hBe (Nat.le_refl _))).mono ?_; rintro e wx ⟨rfl, rfl⟩)
        | (go_at_call 45; have hBb := (‹_ ∧ _ ∧ Below w6.heap.size w6 _›).2.2; refine (ST.out _ (hr6.below hBb (Nat.le_refl _))).mono ?_; rintro e w8 ⟨rfl, hb8⟩
           have hB8 := hBb.trans (hb8.mono hBb.size))
        | (go_at_call 46; have hBf := (‹_ ∧ _ ∧ Below w6.heap.size w6 _›).2.2; refine (LN.out _ (d6.below hBf (Nat.le_refl _))).mono ?_; rintro e wx ⟨rfl, rfl⟩)
        | (go_at_call 42; have hBc := (‹_ ∧ _ ∧ Below w6.heap.size w6 _›).2.2; refine (LL2.out _ (d6.below hBc (Nat.le_refl _))).mono ?_; rintro e w9 ⟨rfl, hb9⟩
           have hB9 := hBc.trans (hb9.mono hBc.size)))
    have hBz := hB9
    have d7 := d6.below hBz (Nat.le_refl _)
    have hsz := hBz.size
    have hBw := hB6.trans (hBz.mono (by omega))
    go_wp2_with fail
    refine (SN.out _ d7).mono ?_
    rintro e wa ⟨va, rfl, oa, hba⟩
    obtain ⟨pa, ca, rfl⟩ := oa.val
    have da := d7.below hba (Nat.le_refl _)
    have hsa := hba.size
    have hBa2 := hBw.trans (hba.mono (by omega))
    go_wp2_with fail
    refine (UU2.out wa da).mono ?_
    rintro e wb ⟨rfl, h7, db, hh7, cb⟩
    have ob := oa.rd.off (B := 0) cb (fun j hj => by have := oa.lt j hj; exact .inr (by omega)) (Nat.zero_le _) (Nat.zero_le _) (Nat.zero_le _)
    have hsb := cb.size
    have hBb2 := hBa2.trans (cb.below (B := w.heap.size) (fun j _ hp => by rcases hp with e | e | e <;> omega) (by omega))
    have SN2 := hid (pl_snap db (by omega))
    go_wp2_with fail
    refine SN2.out.mono ?_
    rintro e wc ⟨vc, rfl, oc, hbc⟩
    obtain ⟨pc, cc, rfl⟩ := oc.val
    have hsc := hbc.size
    have hBc2 := hBb2.trans (hbc.mono (by omega))
    go_wp2_with fail
    refine (r_same_self wc oc.rd (ob.below hbc (Nat.le_refl _)) hZlen).mono ?_
    rintro e wd ⟨rfl, nd, rfl⟩
    go_wp2_with fail
    refine (A.out _).mono ?_
    rintro e we ⟨rfl, hbe⟩
    go_wp2_with fail
    go_ret
    exact ⟨rfl, (below_drewN hBc2 nd).trans (hbe.mono (show w.heap.size ≤ wc.heap.size by omega))⟩
end Go.Proofs.Ytejoecoenehooaa
