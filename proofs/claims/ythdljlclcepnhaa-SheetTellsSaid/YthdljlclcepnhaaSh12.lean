/- The walk of the reference's Text (under way). -/
import Derived.Test.YthdljlclcepnhaaSh8
import Derived.Test.YthdljlclcepnhaaSh4
import Derived.Test.YthdljlclcepnhaaDr1
namespace Go.Proofs.Ythdljlclcepnhaa
open Go.RowKit Nl Sh

theorem r_digs (n : Int) (w : World) (bn : In64 n) : Calls Try.prog 15 #[.int .i64 n] w fun e w' => e = .returned (.string ⟨(digL n).toArray⟩) ∧ Below w.heap.size w w' := by
  rw [← digS_list]; exact r_digits n w bn
theorem Sh.bs_app (a b : List UInt8) : (⟨a.toArray⟩ ++ ⟨b.toArray⟩ : ByteArray) = ⟨(a ++ b).toArray⟩ := by
  apply ByteArray.ext
  rw [ByteArray.data_append]
  simp
theorem Sh.head_str (l k n : Int) : (⟨#[100, 105, 103, 101, 115, 116, 32]⟩ ++ ⟨(digL l).toArray⟩ ++ ⟨#[32]⟩ ++ ⟨(digL k).toArray⟩ ++ ⟨#[32]⟩ ++ ⟨(digL n).toArray⟩ ++ ⟨#[10]⟩ : ByteArray) = ⟨(headL l k n).toArray⟩ := by
  have e := bs_app
  rw [show (⟨#[100, 105, 103, 101, 115, 116, 32]⟩ : ByteArray) = ⟨[100, 105, 103, 101, 115, 116, 32].toArray⟩ from rfl, show (⟨#[32]⟩ : ByteArray) = ⟨[32].toArray⟩ from rfl, show (⟨#[10]⟩ : ByteArray) = ⟨[10].toArray⟩ from rfl]
  simp only [e]
  rfl
theorem Sh.line_str (L A Z C : List UInt8) : (⟨L.toArray⟩ ++ ⟨A.toArray⟩ ++ ⟨#[46, 46]⟩ ++ ⟨Z.toArray⟩ ++ ⟨#[32]⟩ ++ ⟨C.toArray⟩ ++ ⟨#[10]⟩ : ByteArray) = ⟨(L ++ (A ++ [46, 46] ++ Z ++ [32] ++ C ++ [10])).toArray⟩ := by
  have e := bs_app
  rw [show (⟨#[46, 46]⟩ : ByteArray) = ⟨[46, 46].toArray⟩ from rfl, show (⟨#[32]⟩ : ByteArray) = ⟨[32].toArray⟩ from rfl, show (⟨#[10]⟩ : ByteArray) = ⟨[10].toArray⟩ from rfl]
  simp only [e, List.append_assoc]
set_option maxRecDepth 100000 in
set_option maxHeartbeats 1000000 in
theorem r_text {w : World} {k l : Int} {zs : List Nd} {p : Option Addr} {cap : Nat} (hr : RdN w (.slice p zs.length cap) zs) (inv : Dg l k zs) (hz : zs.length < 1048576) (bl : In64 l) (bk : In64 k) (bs : In64 (sumL zs)) (bw : ∀ x ∈ zs, In64 x.2) :
    Calls Try.prog 9 #[.agg #[.int .i64 k, .int .i64 l, .slice p zs.length cap]] w fun e w' => e = .returned (.string ⟨(textL l k zs).toArray⟩) ∧ Below w.heap.size w w' := by
  have X1 : Blk (w.alloc (.cells #[.int .i64 k, .int .i64 l, .slice p zs.length cap] 34)) w.heap.size #[.int .i64 k, .int .i64 l, .slice p zs.length cap] 34 := Blk.new w _ _
  have hb1 : Below w.heap.size w (w.alloc (.cells #[.int .i64 k, .int .i64 l, .slice p zs.length cap] 34)) := (Below.refl _ _).alloc (Nat.le_refl _) _
  have r1 := hr.below hb1 (Nat.le_refl _)
  have l1 := digL_len bl
  have l2 := digL_len bk
  have l3 := digL_len bs
  go_enter Try.func9, Try.ntmps9
  go_upto_region 1 with fail
  generalize w.alloc (.cells #[.int .i64 k, .int .i64 l, .slice p zs.length cap] 34) = w1 at *
  go_cut [3] (fun v wx => v = .string ⟨(headL l k (sumL zs)).toArray⟩ ∧ Below w1.heap.size w1 wx)
  case first =>
    have DG := hid (fun n (h : In64 n) W => r_digs n W h)
    have WT := hid (fun (W : World) (y : RdN W (.slice p zs.length cap) zs) => r_dweight (l := l) k y hz inv.roll)
    have hB1 : Below w1.heap.size w1 (w1.drewN 1) := below_drewN (Below.refl w1.heap.size w1) 1
    have FX := hid (fun W (hb : Below w1.heap.size w1 W) => show W.cell? ⟨w.heap.size, 0, none⟩ = some (.int .i64 k) ∧ W.cell? ⟨w.heap.size, 1, none⟩ = some (.int .i64 l) ∧ W.cell? ⟨w.heap.size, 2, none⟩ = some (.slice p zs.length cap) from ⟨(X1.below hb (Nat.le_refl _)).cell 0, (X1.below hb (Nat.le_refl _)).cell 1, (X1.below hb (Nat.le_refl _)).cell 2⟩)
    have s1 : ¬ 9223372036854775807 < 7 + (digL l).length := by omega
    have s2 : ¬ 9223372036854775807 < 7 + (digL l).length + 1 := by omega
    have s3 : ¬ 9223372036854775807 < 7 + (digL l).length + 1 + (digL k).length := by omega
    have s4 : ¬ 9223372036854775807 < 7 + (digL l).length + 1 + (digL k).length + 1 := by omega
    have s5 : ¬ 9223372036854775807 < 7 + (digL l).length + 1 + (digL k).length + 1 + (digL (sumL zs)).length := by omega
    have s6 : ¬ 9223372036854775807 < 7 + (digL l).length + 1 + (digL k).length + 1 + (digL (sumL zs)).length + 1 := by omega
    clear l1 l2 l3
    go_region_held3 (fun w' => w'.cell? ⟨w.heap.size, 0, none⟩ = some (.int .i64 k) ∧ w'.cell? ⟨w.heap.size, 1, none⟩ = some (.int .i64 l) ∧ w'.cell? ⟨w.heap.size, 2, none⟩ = some (.slice p zs.length cap))
      (first
        | exact FX.out _ hB1
        | exact FX.out _ hBn)
      (first
        | (go_at_call_of 15 (Value.int .i64 l); have hBa := ‹Below w1.heap.size w1 _›; refine (DG.out l bl _).mono ?_; rintro e w5 ⟨rfl, hb5⟩
           have hBn := hBa.trans (hb5.mono hBa.size))
        | (go_at_call_of 15 (Value.int .i64 k); have hBa := ‹Below w1.heap.size w1 _›; refine (DG.out k bk _).mono ?_; rintro e w5 ⟨rfl, hb5⟩
           have hBn := hBa.trans (hb5.mono hBa.size))
        | (go_at_call_of 15 (Value.int .i64 (sumL zs)); have hBa := ‹Below w1.heap.size w1 _›; refine (DG.out (sumL zs) bs _).mono ?_; rintro e w5 ⟨rfl, hb5⟩
           have hBn := hBa.trans (hb5.mono hBa.size))
        | (go_at_call 26; have hBa := ‹Below w1.heap.size w1 _›; refine (WT.out _ (r1.below hBa (Nat.le_refl _))).mono ?_; rintro e w5 ⟨rfl, hb5⟩
           have hBn := hBa.trans (hb5.mono hBa.size)))
    all_goals
      have ES := hid (head_str l k (sumL zs))
      clear FX DG WT s1 s2 s3 s4 s5 s6
      go_wp2_with fail
      go_meet
      exact ⟨by rw [ES.out], hBn⟩
  case rest =>
    obtain ⟨rfl, hb2⟩ := hcut
    obtain ⟨w2, rfl⟩ : ∃ x, x = wc := ⟨_, rfl⟩
    have X2 := X1.below hb2 (Nat.le_refl _)
    have r2 := r1.below hb2 (Nat.le_refl _)
    have hbw := hb1.trans (hb2.mono hb1.size)
    have HH : (headL l k (sumL zs)).length ≤ 67 := by simp [headL]; omega
    clear X1 r1 hb1 hb2 hr l1 l2 l3
    have R0 : Hid ((headL l k (sumL zs) ++ bodyL l (zs.take 0)).length ≤ 67 + 61 * 0 ∧ Below w2.heap.size w2 w2) := ⟨by simpa [bodyL] using HH, Below.refl _ _⟩
    have e0 : headL l k (sumL zs) = headL l k (sumL zs) ++ bodyL l (zs.take 0) := by simp [bodyL]
    have E0 := hid e0
    clear HH e0
    go_wp2_with fail
    go_loopg [3, 4] zs.length (fun gn sv i wr => ∃ j : Nat, i = .int .i64 j ∧ j ≤ zs.length ∧ zs.length - j ≤ gn ∧ sv = .string ⟨(headL l k (sumL zs) ++ bodyL l (zs.take j)).toArray⟩ ∧ Hid ((headL l k (sumL zs) ++ bodyL l (zs.take j)).length ≤ 67 + 61 * j ∧ Below w2.heap.size w2 wr))
    case atStart => exact ⟨0, rfl, Nat.zero_le _, Nat.le_refl _, by rw [← E0.out], R0⟩
    case round =>
      obtain ⟨j, rfl, hj, hgn, rfl, hr⟩ := hrel
      obtain ⟨hl6, hb6⟩ := hr.out
      clear hr R0
      have Xr := X2.below hb6 (Nat.le_refl _)
      have y0 : wr.cell? ⟨w.heap.size, 0, none⟩ = some (.int .i64 k) := Xr.cell 0
      have y1 : wr.cell? ⟨w.heap.size, 1, none⟩ = some (.int .i64 l) := Xr.cell 1
      have y2 : wr.cell? ⟨w.heap.size, 2, none⟩ = some (.slice p zs.length cap) := Xr.cell 2
      by_cases hjn : j < zs.length
      · obtain ⟨gs, off, a, c, hp, hac, hgs, q0, q1⟩ := (r2.below hb6 (Nat.le_refl _)).at hjn
        subst hp
        have hmem : (a, c) ∈ zs := by
          rw [← hac]; simp [List.getD, hjn]
        have hra := inv.roll.ids _ hmem
        obtain ⟨ea, eb⟩ := ends_in hra
        have ec := bw _ hmem
        have STEP := hid (body_step (l := l) hjn hac)
        have hdl : decide ((j : Int) < (zs.length : Int)) = true := decide_eq_true (by omega)
        have hba : Below wr.heap.size wr (wr.alloc (.cells #[.int .i64 a, .int .i64 c] 64)) := (Below.refl _ _).alloc (Nat.le_refl _) _
        have EN := hid (r_ends l a (wr.alloc (.cells #[.int .i64 a, .int .i64 c] 64)) hra)
        have Xn := Blk.new wr #[.int .i64 a, .int .i64 c] 64
        have z1 : (wr.alloc (.cells #[.int .i64 a, .int .i64 c] 64)).cell? ⟨w.heap.size, 1, none⟩ = some (.int .i64 l) := (Xr.below hba (Nat.le_refl _)).cell 1
        have hxr := Xr.lt
        go_wp2_with fail
        refine EN.out.mono ?_
        rintro e w7 ⟨rfl, rfl⟩
        have LE : lineL l (a, c) = digL (endsLo l a) ++ [46, 46] ++ digL (endsHi l a) ++ [32] ++ digL c ++ [10] := rfl
        have STEP2 : headL l k (sumL zs) ++ bodyL l (zs.take (j + 1)) = headL l k (sumL zs) ++ bodyL l (zs.take j) ++ (digL (endsLo l a) ++ [46, 46] ++ digL (endsHi l a) ++ [32] ++ digL c ++ [10]) := by
          rw [STEP.out, LE]; simp only [List.append_assoc]
        have l1 := digL_len ea
        have l2 := digL_len eb
        have l3 := digL_len ec
        clear STEP LE EN z1 y0 y1 y2 q0 q1
        obtain ⟨L, eL⟩ : ∃ L, headL l k (sumL zs) ++ bodyL l (zs.take j) = L := ⟨_, rfl⟩
        rw [eL] at hl6 STEP2 ⊢
        obtain ⟨L2, eL2⟩ : ∃ L2, headL l k (sumL zs) ++ bodyL l (zs.take (j + 1)) = L2 := ⟨_, rfl⟩
        rw [eL2] at STEP2
        have hl7 : L2.length ≤ 67 + 61 * (j + 1) := by rw [STEP2]; simp; omega
        have EL2 := hid eL2
        clear eL eL2
        generalize endsLo l a = A at *
        generalize endsHi l a = Z at *
        obtain ⟨w8, hw8⟩ : ∃ x, x = wr.alloc (.cells #[.int .i64 a, .int .i64 c] 64) := ⟨_, rfl⟩
        rw [← hw8] at hba Xn ⊢
        clear hw8
        have hb9 := hb6.trans (hba.mono hb6.size)
        have s1 : ¬ 9223372036854775807 < L.length + (digL A).length := by omega
        have s2 : ¬ 9223372036854775807 < L.length + (digL A).length + 2 := by omega
        have s3 : ¬ 9223372036854775807 < L.length + (digL A).length + 2 + (digL Z).length := by omega
        have s4 : ¬ 9223372036854775807 < L.length + (digL A).length + 2 + (digL Z).length + 1 := by omega
        have s5 : ¬ 9223372036854775807 < L.length + (digL A).length + 2 + (digL Z).length + 1 + (digL c).length := by omega
        have s6 : ¬ 9223372036854775807 < L.length + (digL A).length + 2 + (digL Z).length + 1 + (digL c).length + 1 := by omega
        have DG := hid (fun n (h : In64 n) W => r_digs n W h)
        have hB1 : Below w8.heap.size w8 (w8.drewN 1) := below_drewN (Below.refl w8.heap.size w8) 1
        have FX := hid (fun W (hb : Below w8.heap.size w8 W) => show W.cell? ⟨wr.heap.size, 1, none⟩ = some (.int .i64 c) from (Xn.below hb (Nat.le_refl _)).cell 1)
        have STR := hid (line_str L (digL A) (digL Z) (digL c))
        have ST2 := hid STEP2
        clear l1 l2 l3 hl6 STEP2 hba
        generalize wr.heap.size = nb at *
        go_upto_region 7 with fail
        go_region_held3 (fun w' => w'.cell? ⟨nb, 1, none⟩ = some (.int .i64 c))
          (first
            | exact FX.out _ hB1
            | exact FX.out _ hBn)
          (first
            | (go_at_call_of 15 (Value.int .i64 A); have hBa := ‹Below w8.heap.size w8 _›; refine (DG.out A ea _).mono ?_; rintro e w9 ⟨rfl, hb8'⟩
               have hBn := hBa.trans (hb8'.mono hBa.size))
            | (go_at_call_of 15 (Value.int .i64 Z); have hBa := ‹Below w8.heap.size w8 _›; refine (DG.out Z eb _).mono ?_; rintro e w9 ⟨rfl, hb8'⟩
               have hBn := hBa.trans (hb8'.mono hBa.size))
            | (go_at_call_of 15 (Value.int .i64 c); have hBa := ‹Below w8.heap.size w8 _›; refine (DG.out c ec _).mono ?_; rintro e w9 ⟨rfl, hb8'⟩
               have hBn := hBa.trans (hb8'.mono hBa.size)))
        all_goals
          have hbe := hb9.trans (hBn.mono hb9.size)
          have RR : Hid ((headL l k (sumL zs) ++ bodyL l (zs.take (j + 1))).length ≤ 67 + 61 * (j + 1) ∧ Below w2.heap.size w2 w9) := by
            rw [EL2.out]; exact ⟨hl7, hbe⟩
          clear FX DG s1 s2 s3 s4 s5 s6 hB1
          go_wp2_with fail
          go_roundg (zs.length - (j + 1))
          case rel => exact ⟨j + 1, by go_num, by omega, Nat.le_refl _, by rw [STR.out, EL2.out, ST2.out], RR⟩
          case measure => omega
      · obtain rfl : j = zs.length := by omega
        have hdl : decide ((zs.length : Int) < (zs.length : Int)) = false := decide_eq_false (by omega)
        rw [List.take_length]
        go_wp2_with fail
        go_ret
        exact ⟨rfl, hbw.trans (hb6.mono hbw.size)⟩
end Go.Proofs.Ythdljlclcepnhaa
