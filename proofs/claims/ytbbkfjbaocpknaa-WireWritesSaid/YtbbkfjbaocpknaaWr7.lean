/- The walk of the reference's Encode (layer 24). -/
import Derived.Test.YtbbkfjbaocpknaaWr6
import Derived.Deep.RegionHeldLaw
namespace Go.Proofs.Ytbbkfjbaocpknaa
open Go.RowKit Nl Vy

theorem Vy.head_str9 (c : UInt8) (A B : List UInt8) : (⟨#[68, 87, 80, 1]⟩ ++ ⟨#[c]⟩ ++ ⟨A.toArray⟩ ++ ⟨B.toArray⟩ : ByteArray) = ⟨([68, 87, 80, 1] ++ [c] ++ (A ++ B)).toArray⟩ := by
  have e := bs_app
  rw [show (⟨#[68, 87, 80, 1]⟩ : ByteArray) = ⟨[68, 87, 80, 1].toArray⟩ from rfl, show (⟨#[c]⟩ : ByteArray) = ⟨[c].toArray⟩ from rfl]
  simp only [e, List.append_assoc]
set_option maxRecDepth 100000 in
set_option maxHeartbeats 2000000 in
theorem r_wencode {w : World} {k l : Int} {zs : List Nd} {p : Option Addr} {cap : Nat} (hr : RdN w (.slice p zs.length cap) zs) (inv : Dg l k zs) (hz : zs.length ≤ 270) :
    Calls Try.prog 19 #[.agg #[.int .i64 k, .int .i64 l, .slice p zs.length cap]] w fun e w' => e = .returned (.string ⟨(encL l k (sumL zs) (zs.map (fun x => x.1)) (zs.map (fun x => x.2))).toArray⟩) ∧ Below w.heap.size w w' := by
  have X1 : Blk (w.alloc (.cells #[.int .i64 k, .int .i64 l, .slice p zs.length cap] 55)) w.heap.size #[.int .i64 k, .int .i64 l, .slice p zs.length cap] 55 := Blk.new w _ _
  have hb1 : Below w.heap.size w (w.alloc (.cells #[.int .i64 k, .int .i64 l, .slice p zs.length cap] 55)) := (Below.refl _ _).alloc (Nat.le_refl _) _
  have r1 := hr.below hb1 (Nat.le_refl _)
  have hl1 := inv.roll.l1
  have hl2 := inv.roll.l2
  have hk1 := inv.k1
  have hk2 := inv.k2
  obtain ⟨u1, u2⟩ := inv.roll.sum
  have hA9 := vy_len 2 k.toNat (by omega)
  have hA92 := vy_len9 (n := (sumL zs).toNat) (by omega)
  have lid : (zs.map (fun x => x.1)).length = zs.length := List.length_map _
  have lws : (zs.map (fun x => x.2)).length = zs.length := List.length_map _
  have ci := ids_cnt inv.roll
  have cw := ws_cnt inv.roll
  have ri := ids_rise inv.roll
  have hR9 := rises_len (fun j => (ci j).2) (fun j => (ci j).1) (by omega)
  have hW9 := ws_len (fun j => (cw j).2) (l := zs.map (fun x => x.2))
  have LC : ((UInt8.ofNat l.toNat).toNat : Int) = l := by rw [of_low (by omega)]; omega
  obtain ⟨kn, rfl⟩ := Int.eq_ofNat_of_zero_le (show 0 ≤ k by omega)
  obtain ⟨sn, hsn⟩ := Int.eq_ofNat_of_zero_le (show 0 ≤ sumL zs by omega)
  rw [Int.toNat_natCast] at hA9
  rw [hsn, Int.toNat_natCast] at hA92
  have hsnb : sn ≤ 9223372036854775807 := by omega
  have HS := hid hsn
  clear hsn
  go_enter Try.func19, Try.ntmps19
  go_upto_region 1 with fail
  generalize w.alloc (.cells #[.int .i64 kn, .int .i64 l, .slice p zs.length cap] 55) = w1 at *
  go_cut [3] (fun v wx => v = .string ⟨(headB l kn (sumL zs)).toArray⟩ ∧ Below w1.heap.size w1 wx)
  case first =>
    have ONk := hid (fun W => r_one (w := W) kn (by omega))
    have ONn := hid (fun W => r_one (w := W) sn (by omega))
    have WT := hid (fun (W : World) (y : RdN W (.slice p zs.length cap) zs) => r_dweight (l := l) (kn : Int) y (by omega) inv.roll)
    rw [HS.out] at WT
    have HB : Hid ([68, 87, 80, 1] ++ [UInt8.ofNat l.toNat] ++ (vyL kn ++ vyL sn) = headB l kn (sumL zs)) := by
      show _ = _
      unfold headB
      rw [HS.out, Int.toNat_natCast, Int.toNat_natCast]
    have hwl := IntWalk.u8_in l ⟨by omega, by omega⟩
    obtain ⟨c9, hc9⟩ : ∃ c9, UInt8.ofNat l.toNat = c9 := ⟨_, rfl⟩
    rw [hc9] at LC HB
    have CVA := hid (one_conv c9 l LC)
    have CV1 : ∀ (X : World) (T : TypeId), (convert 77 9 (.slice (some ⟨X.heap.size, 0, none⟩) 1 1)).run Try.prog (X.alloc (.cells #[.int .u8 l] T)) = .ok (.string ⟨#[c9]⟩) (X.alloc (.cells #[.int .u8 l] T)) := fun X T => one_conv c9 l LC _ _ ((Blk.new X #[.int .u8 l] T).cell 0)
    have CV2 : ∀ (X : World) (T : TypeId), (convert 77 9 (.slice (some ⟨X.heap.size, 0, none⟩) 1 1)).run Try.prog (X.alloc (.cells #[.int .u8 l] T)).drew = .ok (.string ⟨#[c9]⟩) (X.alloc (.cells #[.int .u8 l] T)).drew := fun X T => one_conv c9 l LC _ _ (((Blk.new X #[.int .u8 l] T).drewN 1).cell 0)
    have STR := hid (head_str9 c9 (vyL kn) (vyL sn))
    rw [HB.out] at STR
    have hB1 : Below w1.heap.size w1 (w1.drewN 1) := below_drewN (Below.refl w1.heap.size w1) 1
    have FX := hid (fun W (hb : Below w1.heap.size w1 W) => show W.cell? ⟨w.heap.size, 0, none⟩ = some (.int .i64 kn) ∧ W.cell? ⟨w.heap.size, 1, none⟩ = some (.int .i64 l) ∧ W.cell? ⟨w.heap.size, 2, none⟩ = some (.slice p zs.length cap) ∧ Below w1.heap.size w1 W from ⟨(X1.below hb (Nat.le_refl _)).cell 0, (X1.below hb (Nat.le_refl _)).cell 1, (X1.below hb (Nat.le_refl _)).cell 2, hb⟩)
    have s1 : ¬ 9223372036854775807 < 5 + (vyL kn).length := by omega
    have s2 : ¬ 9223372036854775807 < 5 + (vyL kn).length + (vyL sn).length := by omega
    generalize vyL kn = A9 at *
    generalize vyL sn = B9 at *
    clear hA9 hA92 lid lws ci cw ri hR9 hW9 LC inv u1 u2 hr
    go_region_held_law (fun w' => w'.cell? ⟨w.heap.size, 0, none⟩ = some (.int .i64 kn) ∧ w'.cell? ⟨w.heap.size, 1, none⟩ = some (.int .i64 l) ∧ w'.cell? ⟨w.heap.size, 2, none⟩ = some (.slice p zs.length cap) ∧ Below w1.heap.size w1 w')
      (first
        | exact FX.out _ hB1
        | exact FX.out _ hBn
        | exact FX.out _ (hB1.alloc (Nat.le_refl _) _)
        | exact FX.out _ (hBn.alloc hBn.size _))
      (first
        | (go_at_call_of 40 (Value.int .i64 kn); have hBa := (‹_ ∧ _ ∧ _ ∧ Below w1.heap.size w1 _›).2.2.2; refine (ONk.out _).mono ?_; rintro e w5 ⟨rfl, hb5⟩
           have hBn := hBa.trans (hb5.mono hBa.size)
           try have hcb := keepB hb5 hcb
           try have hcb := keepA hb5
           try have hcb := keepD hb5
           try have CVn := CVA.out _ _ hcb)
        | (go_at_call_of 40 (Value.int .i64 sn); have hBa := (‹_ ∧ _ ∧ _ ∧ Below w1.heap.size w1 _›).2.2.2; refine (ONn.out _).mono ?_; rintro e w5 ⟨rfl, hb5⟩
           have hBn := hBa.trans (hb5.mono hBa.size)
           try have hcb := keepB hb5 hcb
           try have hcb := keepA hb5
           try have hcb := keepD hb5
           try have CVn := CVA.out _ _ hcb)
        | (go_at_call 41; have hBa := (‹_ ∧ _ ∧ _ ∧ Below w1.heap.size w1 _›).2.2.2; refine (WT.out _ (r1.below hBa (Nat.le_refl _))).mono ?_; rintro e w5 ⟨rfl, hb5⟩
           have hBn := hBa.trans (hb5.mono hBa.size)
           try have hcb := keepB hb5 hcb
           try have hcb := keepA hb5
           try have hcb := keepD hb5
           try have CVn := CVA.out _ _ hcb))
    all_goals
      clear FX ONk ONn WT s1 s2 CVA CV1 CV2
      go_wp2_with fail
      go_meet
      first
        | exact ⟨by rw [STR.out], hBn⟩
        | exact ⟨by rw [STR.out], hBn.alloc hBn.size _⟩
  case rest =>
    obtain ⟨rfl, hb2⟩ := hcut
    obtain ⟨w2, rfl⟩ : ∃ x, x = wc := ⟨_, rfl⟩
    have X2 := X1.below hb2 (Nat.le_refl _)
    have r2 := r1.below hb2 (Nat.le_refl _)
    have hbw := hb1.trans (hb2.mono hb1.size)
    have HH := head_len (l := l) (k := (kn : Int)) (n := sumL zs) (by omega) (by omega)
    have RS := hid (fun (W : World) v (y : RdI W v (zs.map (fun x => x.1))) => r_rises y ci ri (by omega))
    have CW := hid (show ∀ j, (zs.map (fun x => x.2)).getD j 0 ≤ 9223372036854775807 ∧ 0 ≤ (zs.map (fun x => x.2)).getD j 0 from fun j => ⟨(cw j).2, (cw j).1⟩)
    have ON := hid (fun (W : World) (N : Nat) (hN : N ≤ 9223372036854775807) => r_one (w := W) N hN)
    have SL := hid (fun W t (h : t.length ≤ 1000000) => r_seal (w := W) t h)
    have EN : Hid (sealL (headB l (kn : Int) (sumL zs) ++ risesL (zs.map (fun x => x.1)) ++ wsL (zs.map (fun x => x.2)) zs.length) = encL l kn (sumL zs) (zs.map (fun x => x.1)) (zs.map (fun x => x.2))) := by
      show _ = _
      unfold encL
      rw [lws]
    clear X1 r1 hb1 hb2 hr ci cw ri inv LC hA9 hA92
    go_wp2_with fail
    go_loopg [4, 5] zs.length (fun gn b i wr => ∃ j : Nat, i = .int .i64 j ∧ j ≤ zs.length ∧ zs.length - j ≤ gn ∧ OwnI wr w2.heap.size b ((zs.take j).map (fun x => x.1)) ∧ Below w2.heap.size w2 wr)
    case atStart => exact ⟨0, rfl, Nat.zero_le _, Nat.le_refl _, by simpa using OwnI.nil _ _, Below.refl _ _⟩
    case round =>
      obtain ⟨j, rfl, hj, hgn, hown, hbl⟩ := hrel
      have hwr := hbl.size
      have Xr := X2.below hbl (Nat.le_refl _)
      have y0 : wr.cell? ⟨w.heap.size, 0, none⟩ = some (.int .i64 kn) := Xr.cell 0
      have y1 : wr.cell? ⟨w.heap.size, 1, none⟩ = some (.int .i64 l) := Xr.cell 1
      have y2 : wr.cell? ⟨w.heap.size, 2, none⟩ = some (.slice p zs.length cap) := Xr.cell 2
      by_cases hlt : j < zs.length
      · obtain ⟨gs, off, a, c, hp, hac, hgs, q0, q1⟩ := (r2.below hbl (Nat.le_refl _)).at hlt
        subst hp
        have STA := hid (map_take zs (fun x => x.1) hlt hac)
        have hla : ((zs.take j).map (fun x => x.1)).length ≤ 270 := by simp; omega
        generalize (zs.take j).map (fun x => x.1) = xs at *
        have z0 : decide ((j : Int) < (zs.length : Int)) = true := decide_eq_true (by omega)
        obtain ⟨pa, ca, rfl⟩ := hown.val
        go_wp2_with (at_builtin; refine appendI (wr := wr) (c := a) _ _ hown (by omega) (by omega) rfl rfl rfl rfl rfl ?_; intro g cap' w3 ho3 hg3 hgb hgl)
        go_roundg (zs.length - (j + 1))
        case rel => exact ⟨j + 1, by go_num, by omega, Nat.le_refl _, by rw [STA.out]; exact ho3, hbl.grown hg3 (by omega) hown.lt⟩
        case measure => omega
      · obtain rfl : j = zs.length := by omega
        have z0 : decide ((zs.length : Int) < (zs.length : Int)) = false := decide_eq_false (by omega)
        rw [List.take_length] at hown
        have L1 := hid (RS.out wr _ hown.rd)
        clear hown RS
        go_wp2_with fail
        refine L1.out.mono ?_
        rintro e w7 ⟨rfl, hb7⟩
        have X7 := Xr.below hb7 (Nat.le_refl _)
        have r7 := (r2.below hbl (Nat.le_refl _)).below hb7 (Nat.le_refl _)
        have hbw7 := (hbw.trans (hbl.mono hbw.size)).trans (hb7.mono (Nat.le_trans hbw.size hwr))
        have hnl : ¬ 9223372036854775807 < (headB l (kn : Int) (sumL zs)).length + (risesL (zs.map (fun x => x.1))).length := by omega
        clear L1 X2 r2 hbw hbl hb7 Xr y0 y1 y2
        obtain ⟨H9, eH⟩ : ∃ H9, headB l (kn : Int) (sumL zs) = H9 := ⟨_, rfl⟩
        obtain ⟨R9, eR⟩ : ∃ R9, risesL (zs.map (fun x => x.1)) = R9 := ⟨_, rfl⟩
        rw [eH] at EN HH hnl ⊢
        rw [eR] at EN hR9 hnl ⊢
        clear eH eR
        have E0 : Hid ((⟨H9.toArray⟩ ++ ⟨R9.toArray⟩ : ByteArray) = ⟨(H9 ++ R9 ++ wsL (zs.map (fun x => x.2)) 0).toArray⟩) := by
          show _ = _
          rw [bs_app]; simp [wsL]
        go_wp2_with fail
        go_loopg [3, 8] zs.length (fun gn s i wr => ∃ j : Nat, i = .int .i64 j ∧ j ≤ zs.length ∧ zs.length - j ≤ gn ∧ s = .string ⟨(H9 ++ R9 ++ wsL (zs.map (fun x => x.2)) j).toArray⟩ ∧ Below w7.heap.size w7 wr)
        case atStart => exact ⟨0, rfl, Nat.zero_le _, Nat.le_refl _, by rw [E0.out], Below.refl _ _⟩
        case round =>
          obtain ⟨j, rfl, hj, hgn, rfl, hbl⟩ := hrel
          have hwr := hbl.size
          have Xr := X7.below hbl (Nat.le_refl _)
          have y0 : wr.cell? ⟨w.heap.size, 0, none⟩ = some (.int .i64 kn) := Xr.cell 0
          have y1 : wr.cell? ⟨w.heap.size, 1, none⟩ = some (.int .i64 l) := Xr.cell 1
          have y2 : wr.cell? ⟨w.heap.size, 2, none⟩ = some (.slice p zs.length cap) := Xr.cell 2
          have hwj := hW9 j
          by_cases hlt : j < zs.length
          · obtain ⟨gs, off, a, c, hp, hac, hgs, q0, q1⟩ := (r7.below hbl (Nat.le_refl _)).at hlt
            subst hp
            have hgc : (zs.map (fun x => x.2)).getD j 0 = c := by
              have e2 : zs[j] = (a, c) := by rw [← hac]; simp [List.getD, hlt]
              rw [map_getD, dif_pos hlt, e2]
            have ST := ws_at hgc
            have hcb := CW.out j
            rw [hgc] at hcb
            obtain ⟨n, rfl⟩ := Int.eq_ofNat_of_zero_le hcb.2
            have L1 := hid (ON.out wr n (by omega))
            have hn9 := vy_len9 (n := n) (by omega)
            rw [Int.toNat_natCast] at ST
            have ST2 := congrArg (fun t => H9 ++ R9 ++ t) ST
            simp only [← List.append_assoc] at ST2
            have hLl : (H9 ++ R9 ++ wsL (zs.map (fun x => x.2)) j).length ≤ 10000 := by simp only [List.length_append]; omega
            obtain ⟨L, eL⟩ : ∃ L, H9 ++ R9 ++ wsL (zs.map (fun x => x.2)) j = L := ⟨_, rfl⟩
            rw [eL] at ST2 hLl ⊢
            obtain ⟨D, eD⟩ : ∃ D, vyL n = D := ⟨_, rfl⟩
            rw [eD] at L1 ST2 hn9
            have s1 : ¬ 9223372036854775807 < L.length + D.length := by omega
            have STH := hid ST2
            have z0 : decide ((j : Int) < (zs.length : Int)) = true := decide_eq_true (by omega)
            clear eL eD ST ST2 hgc hac
            go_wp2_with fail
            refine L1.out.mono ?_
            rintro e w8 ⟨rfl, hb8⟩
            have hbn := hbl.trans (hb8.mono hwr)
            go_wp2_with fail
            go_roundg (zs.length - (j + 1))
            case rel => exact ⟨j + 1, by go_num, by omega, Nat.le_refl _, by rw [STH.out, bs_app], hbn⟩
            case measure => omega
          · obtain rfl : j = zs.length := by omega
            have z0 : decide ((zs.length : Int) < (zs.length : Int)) = false := decide_eq_false (by omega)
            have L1 := hid (SL.out wr (H9 ++ R9 ++ wsL (zs.map (fun x => x.2)) zs.length) (by simp only [List.length_append]; omega))
            rw [EN.out] at L1
            obtain ⟨L, eL⟩ : ∃ L, H9 ++ R9 ++ wsL (zs.map (fun x => x.2)) zs.length = L := ⟨_, rfl⟩
            rw [eL] at L1 ⊢
            clear eL EN
            obtain ⟨E9, hE9⟩ : ∃ E9, encL l kn (sumL zs) (zs.map (fun x => x.1)) (zs.map (fun x => x.2)) = E9 := ⟨_, rfl⟩
            rw [hE9] at L1
            have E9E := hid hE9
            clear hE9
            go_wp2_with fail
            refine L1.out.mono ?_
            rintro e w8 ⟨rfl, hb8⟩
            have hbz := hbw7.trans ((hbl.trans (hb8.mono hwr)).mono hbw7.size)
            go_wp2_with fail
            go_ret
            exact ⟨by simp [E9E.out], hbz⟩
end Go.Proofs.Ytbbkfjbaocpknaa
