/- The walk of PressTells. -/
import Derived.Test.YtejoecoenehooaaPr5
namespace Go.Proofs.Ytejoecoenehooaa
open Go.RowKit Nl

theorem p_LightB {w : World} {q g h m : Nat} {kind l : Int} {zs : List Nd} (k : Int) (d : PoolV w q g h kind l m zs) (hm : m ≤ 100000) :
    Calls Try.prog 42 #[.pointer (some ⟨q, 0, none⟩), .int .i64 k] w fun e w' => e = .returned (.bool (lightB l zs (capV (sumL zs) k) && isK k)) ∧ Below w.heap.size w w' := by
  cases hk : isK k
  · exact (p_Light_no q k hk w).mono fun e w' ⟨h1, h2⟩ => ⟨by rw [h1]; simp, h2⟩
  · exact (p_Light k hk d hm).mono fun e w' ⟨h1, h2⟩ => ⟨by rw [h1]; simp, h2⟩
theorem few_parts {kind l : Int} {xs : List Nd} (h : askB kind l xs = true) : xs.length ≤ 60 ∧ poolIs kind l = true ∧ (kind == 2 || decide (l ≤ 10)) = true ∧ rollB l xs = true := by
  simp only [askB, Bool.and_eq_true, decide_eq_true_eq] at h
  obtain ⟨⟨⟨e1, e2⟩, e3⟩, e4⟩ := h
  exact ⟨e1, e2, e3, e4⟩

set_option maxRecDepth 100000 in
set_option maxHeartbeats 4000000 in
theorem PressTells_walk (kind l : Int) (v : Value) (xs : List Nd) (k : Int) (w : World) (_hk0 : -9223372036854775808 ≤ kind) (_hk1 : kind ≤ 9223372036854775807) (hl : -9223372036854775808 ≤ l) (hl1 : l ≤ 9223372036854775807) (ho : RdA w v xs) (hk0 : -9223372036854775808 ≤ k) (hk1 : k ≤ 9223372036854775807) :
    Calls Try.prog 6 #[.int .i64 kind, .int .i64 l, v, .int .i64 k] w fun e w' => e = .returned (.bool true) ∧ Below w.heap.size w w' := by
  have Fw := hid (p_few kind l w ho ⟨hl, hl1⟩)
  obtain ⟨hr, hn, hlen⟩ := ho
  obtain ⟨p, cap, rfl⟩ := hr.val
  have bk : In64 k := ⟨hk0, hk1⟩
  have B1 := hid (fun W : World => p_Bound k W bk)
  have B2 := hid (fun W : World => r_Bound k W bk)
  have A := hid (fun W : World => p_alive W)
  obtain ⟨F, eF⟩ : ∃ F, fewB kind l xs = F := ⟨_, rfl⟩
  rw [eF] at Fw
  cases F
  · generalize (if isK k then 4 * k - 1 else 0) = bd at *
    have hbd : (bd == bd) = true := by simp
    clear eF
    go_enter Try.func6, Try.ntmps6
    go_wp2_with fail
    refine Fw.out.mono ?_
    rintro e w2 ⟨rfl, hb2⟩
    go_wp2_with fail
    refine (B1.out w2).mono ?_
    rintro e w' ⟨rfl, rfl⟩
    go_wp2_with fail
    refine (B2.out w2).mono ?_
    rintro e w' ⟨rfl, rfl⟩
    go_wp2_with fail
    refine (A.out w2).mono ?_
    rintro e w3 ⟨rfl, hb3⟩
    go_wp2_with fail
    go_ret
    exact ⟨rfl, hb2.trans (hb3.mono hb2.size)⟩
  · have hask : askB kind l xs = true := by
      unfold fewB at eF
      simp only [Bool.and_eq_true] at eF
      exact eF.1
    obtain ⟨e1, e2, e3, e4⟩ := few_parts hask
    have hroll := rollB_iff.1 e4
    have M := hid (fun W (q : RdN W (.slice p xs.length cap) xs) => p_made kind l W e2 e4 q hn (by omega))
    have T2 := hid (fun W (q : RdN W (.slice p xs.length cap) xs) => r_ctight k q (by omega) hroll bk)
    have L2 := hid (fun W (q : RdN W (.slice p xs.length cap) xs) => r_clight k q (by omega) hroll bk)
    clear eF hask e2 e3 e4
    go_enter Try.func6, Try.ntmps6
    go_wp2_with fail
    refine Fw.out.mono ?_
    rintro e w2 ⟨rfl, hb2⟩
    have hr2 := hr.below hb2 (Nat.le_refl _)
    have hs2 := hb2.size
    go_wp2_with fail
    refine (M.out w2 hr2).mono ?_
    rintro e w3 ⟨q, g, h, rfl, d3, hq, hg, hh, hb3⟩
    have T1 := hid (fun W (x : PoolV W q g h kind l xs.length xs) => p_Tight k x (by omega) (by omega) bk)
    have L1 := hid (fun W (x : PoolV W q g h kind l xs.length xs) => p_LightB k x (by omega))
    generalize (if isK k then 4 * k - 1 else 0) = bd at *
    generalize (isK k && (firstR l xs (capV (sumL xs) k)).isNone) = tb at *
    generalize (lightB l xs (capV (sumL xs) k) && isK k) = lb at *
    have hs3 := hb3.size
    have Sb := Blk.new w3 #[.int .i64 l, .slice p xs.length cap] 43
    have hb4 : Below w3.heap.size w3 (w3.alloc (.cells #[.int .i64 l, .slice p xs.length cap] 43)) := (Below.refl _ _).alloc (Nat.le_refl _) _
    have d4 := d3.below hb4 (Nat.le_refl _)
    have hr4 := (hr2.below hb3 (Nat.le_refl _)).below hb4 (Nat.le_refl _)
    have hB4 := (hb2.trans (hb3.mono hs2)).trans (hb4.mono (by omega))
    have hsz4 : (w3.alloc (.cells #[.int .i64 l, .slice p xs.length cap] 43)).heap.size = w3.heap.size + 1 := by simp
    clear d3 hr2 hb3 hb2 hb4 M Fw
    go_wp2_with fail
    generalize (w3.alloc (.cells #[.int .i64 l, .slice p xs.length cap] 43)) = w4 at *
    have s0 : w4.cell? ⟨w3.heap.size, 0, none⟩ = some (.int .i64 l) := Sb.cell 0
    have s1 : w4.cell? ⟨w3.heap.size, 1, none⟩ = some (.slice p xs.length cap) := Sb.cell 1
    have hB0 := Below.refl w4.heap.size w4
    have hSl := Sb.lt
    have htb : (tb == tb) = true := by simp
    have hlb : (lb == lb) = true := by simp
    have hbd : (bd == bd) = true := by simp
    go_region_held3 (fun w' => w'.cell? ⟨w3.heap.size, 0, none⟩ = some (.int .i64 l) ∧ w'.cell? ⟨w3.heap.size, 1, none⟩ = some (.slice p xs.length cap) ∧ Below w4.heap.size w4 w')
      (first
        | exact ⟨s0, s1, below_drewN hB0 1⟩
        | exact ⟨(Sb.below' hB9 hSl).cell 0, (Sb.below' hB9 hSl).cell 1, hB9⟩
        | exact ⟨(Sb.below' hB8 hSl).cell 0, (Sb.below' hB8 hSl).cell 1, hB8⟩
        | exact ⟨(Sb.below' hB7 hSl).cell 0, (Sb.below' hB7 hSl).cell 1, hB7⟩
        | exact ⟨(Sb.below' hB6 hSl).cell 0, (Sb.below' hB6 hSl).cell 1, hB6⟩
        | exact ⟨(Sb.below' hB5 hSl).cell 0, (Sb.below' hB5 hSl).cell 1, hB5⟩)
      (first
        | (go_at_call 40; have hBa := (‹_ ∧ _ ∧ Below w4.heap.size w4 _›).2.2; refine (T1.out _ (d4.below hBa (Nat.le_refl _))).mono ?_; rintro e w5 ⟨rfl, hb5⟩
           have hB5 := hBa.trans (hb5.mono hBa.size))
        | (go_at_call 41; have hBb := (‹_ ∧ _ ∧ Below w4.heap.size w4 _›).2.2; refine (T2.out _ (hr4.below hBb (Nat.le_refl _))).mono ?_; rintro e w6 ⟨rfl, hb6⟩
           have hB6 := hBb.trans (hb6.mono hBb.size))
        | (go_at_call 42; have hBc := (‹_ ∧ _ ∧ Below w4.heap.size w4 _›).2.2; refine (L1.out _ (d4.below hBc (Nat.le_refl _))).mono ?_; rintro e w7 ⟨rfl, hb7⟩
           have hB7 := hBc.trans (hb7.mono hBc.size))
        | (go_at_call 43; have hBd := (‹_ ∧ _ ∧ Below w4.heap.size w4 _›).2.2; refine (L2.out _ (hr4.below hBd (Nat.le_refl _))).mono ?_; rintro e w8 ⟨rfl, hb8⟩
           have hB8 := hBd.trans (hb8.mono hBd.size))
        | (go_at_call 38; refine (B1.out _).mono ?_; rintro e wx ⟨rfl, rfl⟩)
        | (go_at_call 39; refine (B2.out _).mono ?_; rintro e wx ⟨rfl, rfl⟩)
        | (go_at_call 32; have hBe := (‹_ ∧ _ ∧ Below w4.heap.size w4 _›).2.2; refine (A.out _).mono ?_; rintro e w9 ⟨rfl, hb9⟩
           have hB9 := hBe.trans (hb9.mono hBe.size)))
    go_wp2_with fail
    go_ret
    exact ⟨rfl, hB4.trans (hB9.mono (by omega))⟩
end Go.Proofs.Ytejoecoenehooaa
