/- The walk of PressRises. -/
import Derived.Test.YtejoecoenehooaaPr8
namespace Go.Proofs.Ytejoecoenehooaa
open Go.RowKit Nl

theorem RdN.off {w w' : World} {v : Value} {xs : List Nd} {q g h B : Nat} (r : RdN w v xs) (hc : ChB (PB q g h) w w') (hv : ∀ j, v.ownBlock = some j → j < B ∨ q < j ∧ g < j ∧ h < j) (hq : B ≤ q) (hg : B ≤ g) (hh : B ≤ h) : RdN w' v xs :=
  r.keep (fun j hj e => hc.block j hj (fun hp => by
    have := hv j e
    rcases hp with e | e | e <;> omega)) hc.size
theorem RdN.own_lt {w : World} {v : Value} {xs : List Nd} (r : RdN w v xs) (hx : xs ≠ []) : ∀ j, v.ownBlock = some j → j < w.heap.size := by
  rcases r with ⟨_, e⟩ | ⟨_, _, _, e⟩ | ⟨g, off, cap, e, hg, _⟩
  · exact absurd e hx
  · exact absurd e hx
  · intro j hj; rw [e] at hj; cases hj; exact hg
theorem RdN.nil_any {w w' : World} {v : Value} (r : RdN w v []) (hs : w.heap.size ≤ w'.heap.size) : RdN w' v [] := by
  rcases r with ⟨h, _⟩ | ⟨a, c, h, _⟩ | ⟨g, off, cap, h, hg, hc, _⟩
  · exact .inl ⟨h, rfl⟩
  · exact .inr (.inl ⟨a, c, h, rfl⟩)
  · exact .inr (.inr ⟨g, off, cap, h, by omega, hc, fun k hk => by simp at hk⟩)
/-- Nodes that lay there before a pool did are kept when the pool is folded. -/
theorem RdN.old {w0 w w' : World} {v : Value} {xs : List Nd} {q g h : Nat} (r0 : RdN w0 v xs) (r : RdN w v xs) (hc : ChB (PB q g h) w w') (hq : w0.heap.size ≤ q) (hg : w0.heap.size ≤ g) (hh : w0.heap.size ≤ h) : RdN w' v xs := by
  cases xs with
  | nil => exact r.nil_any hc.size
  | cons x t => exact r.off hc (fun j e => .inl (r0.own_lt (by simp) j e)) hq hg hh
theorem Nl.roll_nb {l : Int} {zs : List Nd} (hroll : Roll l zs) : NB zs := fun x hx => by
  have h1 := hroll.ids x hx
  have h2 := hroll.strict.2 x hx
  have h3 := Pos.le_sum hroll.strict.pos x hx
  have h4 := hroll.most
  have l1 := hroll.l1
  have l2 := hroll.l2
  simp only [rightB, decide_eq_true_eq] at h1
  obtain ⟨n, rfl⟩ := Int.eq_ofNat_of_zero_le (show 0 ≤ l by omega)
  have := (pow48 (n := n) (by omega)).2
  simp only [Int.toNat_natCast] at h1
  exact ⟨⟨by omega, by omega⟩, ⟨by omega, by omega⟩⟩

set_option maxRecDepth 100000 in
set_option maxHeartbeats 1000000 in
theorem PressRises_walk (kind l : Int) (v : Value) (xs : List Nd) (k id : Int) (w : World) (_hk0 : -9223372036854775808 ≤ kind) (_hk1 : kind ≤ 9223372036854775807) (hl : -9223372036854775808 ≤ l) (hl1 : l ≤ 9223372036854775807) (ho : RdA w v xs) (_hk2 : -9223372036854775808 ≤ k) (_hk3 : k ≤ 9223372036854775807) (hi0 : -9223372036854775808 ≤ id) (hi1 : id ≤ 9223372036854775807) :
    Calls Try.prog 5 #[.int .i64 kind, .int .i64 l, v, .agg #[.int .i64 k, .int .i64 id]] w fun e w' => e = .returned (.bool true) ∧ Below w.heap.size w w' := by
  obtain ⟨hr, hn, hlen⟩ := ho
  obtain ⟨p, cap, rfl⟩ := hr.val
  have bi : In64 id := ⟨hi0, hi1⟩
  have X := Blk.new w #[.int .i64 k, .int .i64 id] 54
  have hbx : Below w.heap.size w (w.alloc (.cells #[.int .i64 k, .int .i64 id] 54)) := (Below.refl _ _).alloc (Nat.le_refl _) _
  have hrx := hr.below hbx (Nat.le_refl _)
  have hsx : (w.alloc (.cells #[.int .i64 k, .int .i64 id] 54)).heap.size = w.heap.size + 1 := by simp
  have Is := hid (fun W (q : RdN W (.slice p xs.length cap) xs) => f_is kind l W ⟨q, hn, hlen⟩ ⟨hl, hl1⟩)
  have RI := hid (fun W : World => r_Is k W)
  have A := hid (fun W : World => p_alive W)
  obtain ⟨F, eF⟩ : ∃ F, askB kind l xs = F := ⟨_, rfl⟩
  obtain ⟨K, eK⟩ : ∃ K, isK k = K := ⟨_, rfl⟩
  rw [eF] at Is
  rw [eK] at RI
  have EK := hid eK
  have EF := hid eF
  clear eF eK hr
  cases F
  · go_enter Try.func5, Try.ntmps5
    go_wp2_with fail
    refine (Is.out _ hrx).mono ?_
    rintro e w2 ⟨rfl, hb2⟩
    have hs2 := hb2.size
    go_wp2_with fail
    refine (A.out w2).mono ?_
    rintro e w3 ⟨rfl, hb3⟩
    go_wp2_with fail
    go_ret
    exact ⟨rfl, (hbx.trans (hb2.mono (by omega))).trans (hb3.mono (by omega))⟩
  cases K
  · go_enter Try.func5, Try.ntmps5
    go_wp2_with fail
    refine (Is.out _ hrx).mono ?_
    rintro e w2 ⟨rfl, hb2⟩
    have hs2 := hb2.size
    have X2 := X.below hb2 (Nat.le_refl _)
    have x0 : w2.cell? ⟨w.heap.size, 0, none⟩ = some (.int .i64 k) := X2.cell 0
    go_wp2_with fail
    refine (RI.out w2).mono ?_
    rintro e w' ⟨rfl, rfl⟩
    go_wp2_with fail
    refine (A.out w2).mono ?_
    rintro e w3 ⟨rfl, hb3⟩
    go_wp2_with fail
    go_ret
    exact ⟨rfl, (hbx.trans (hb2.mono (by omega))).trans (hb3.mono (by omega))⟩
  obtain ⟨e1, e2, e3, e4⟩ := few_parts EF.out
  have hroll := rollB_iff.1 e4
  have eK := EK.out
  have M := hid (fun W (q : RdN W (.slice p xs.length cap) xs) => p_made kind l W e2 e4 q hn (by omega))
  have rf := run_facts (most := capV (sumL xs) k) hroll
  have br := below_run (most := capV (sumL xs) k) (id := id) hroll
  obtain ⟨R, eR⟩ : ∃ R, runR l (capV (sumL xs) k) xs = R := ⟨_, rfl⟩
  rw [eR] at rf br
  obtain ⟨f1, f2, f3, _, _⟩ := rf
  have U1 := fun W q g h (x : PoolV W q g h kind l (xs.length + 1) xs) => p_Run k eK x (by omega) (by omega) (by omega)
  simp only [eR] at U1
  have UU := hid U1
  obtain ⟨Z, st⟩ := R
  simp only at f1 f2 f3 br
  have BS := fun W (q : RdN W (.slice p xs.length cap) xs) => r_below id q (by omega) hroll bi
  have BS1 := fun W (q : RdN W (.slice p xs.length cap) xs) => r_below 1 q (by omega) hroll ⟨by decide, by decide⟩
  have BZ := fun W pn cn (q : RdN W (.slice pn Z.length cn) Z) => r_below id q (by omega) f1 bi
  have BZ1 := fun W pn cn (q : RdN W (.slice pn Z.length cn) Z) => r_below 1 q (by omega) f1 ⟨by decide, by decide⟩
  have RN0 := fun W pn cn (q : RdN W (.slice pn Z.length cn) Z) => r_rightN l W q (roll_nb f1) (by omega) ⟨hl, hl1⟩
  simp only [rollB_iff.2 f1] at RN0
  rw [below_root hroll] at BS1
  simp only [below_root f1, f2] at BZ1
  have HBS := hid BS
  have HBS1 := hid BS1
  have HBZ := hid BZ
  have HBZ1 := hid BZ1
  have HRN := hid RN0
  generalize sumL xs = S at *
  generalize belowV id Z = bz at *
  generalize belowV id xs = bx at *
  have hdl : decide (bz ≤ bx) = true := by simpa using br
  have hss : (S == S) = true := by simp
  have hzl : Z.length ≤ 60 := by omega
  clear BS BS1 BZ BZ1 RN0 U1 e2 e3 e4 f1 f2 eR br hroll EF EK
  go_enter Try.func5, Try.ntmps5
  go_wp2_with fail
  refine (Is.out _ hrx).mono ?_
  rintro e w2 ⟨rfl, hb2⟩
  have hs2 := hb2.size
  have X2 := X.below hb2 (Nat.le_refl _)
  have hr2 := hrx.below hb2 (Nat.le_refl _)
  have hB2 := hbx.trans (hb2.mono (by omega))
  have x0 : w2.cell? ⟨w.heap.size, 0, none⟩ = some (.int .i64 k) := X2.cell 0
  clear X hrx hb2 hbx Is
  go_wp2_with fail
  refine (RI.out w2).mono ?_
  rintro e w' ⟨rfl, rfl⟩
  go_wp2_with fail
  refine (M.out w2 hr2).mono ?_
  rintro e w3 ⟨q, g, h, rfl, d3, hq, hg, hh, hb3⟩
  have d3' := d3.mono (m' := xs.length + 1) (by omega)
  have hs3 := hb3.size
  have X3 := X2.below hb3 (Nat.le_refl _)
  have Sb := Blk.new w3 #[.int .i64 l, .slice p xs.length cap] 43
  have hb4 : Below w3.heap.size w3 (w3.alloc (.cells #[.int .i64 l, .slice p xs.length cap] 43)) := (Below.refl _ _).alloc (Nat.le_refl _) _
  have d4 := d3'.below hb4 (Nat.le_refl _)
  have X4 := X3.below hb4 (Nat.le_refl _)
  have hr4 := (hr2.below hb3 (Nat.le_refl _)).below hb4 (Nat.le_refl _)
  have hB4 := (hB2.trans (hb3.mono (by omega))).trans (hb4.mono (by omega))
  have hsz4 : (w3.alloc (.cells #[.int .i64 l, .slice p xs.length cap] 43)).heap.size = w3.heap.size + 1 := by simp
  obtain ⟨lq, lg, lh, _⟩ := d3.lt
  clear d3 d3' hb3 hb4 M RI x0
  have x0 : World.cell? _ ⟨w.heap.size, 0, none⟩ = some (.int .i64 k) := X4.cell 0
  go_wp2_with fail
  generalize (w3.alloc (.cells #[.int .i64 l, .slice p xs.length cap] 43)) = w4 at *
  refine (UU.out w4 q g h d4).mono ?_
  rintro e w6 ⟨rfl, h6, d6, hh6, c6⟩
  have hr6 := hr2.old hr4 c6 hq hg hh
  have S6 := Sb.keep (c6.block _ Sb.lt (fun hp => by rcases hp with e | e | e <;> omega))
  have X6 := X4.keep (c6.block _ X4.lt (fun hp => by rcases hp with e | e | e <;> omega))
  have hs6 := c6.size
  have hB6 := hB4.trans (c6.below (B := w.heap.size) (fun j _ hp => by rcases hp with e | e | e <;> omega) (by omega))
  have SN := hid (pl_snap d6 (by omega))
  clear x0 X4 Sb d4 d6 hr4 hB4 c6 X3 X2
  go_wp2_with fail
  refine SN.out.mono ?_
  rintro e w7 ⟨v7, rfl, o7, hb7⟩
  obtain ⟨pn, cn, rfl⟩ := o7.val
  have hs7 := hb7.size
  have hr7 := hr6.below hb7 (Nat.le_refl _)
  have S7 := S6.below hb7 (Nat.le_refl _)
  have X7 := X6.below hb7 (Nat.le_refl _)
  have hB7 := hB6.trans (hb7.mono (by omega))
  have NB8 := Blk.new w7 #[.int .i64 l, .slice pn Z.length cn] 43
  have hb8 : Below w7.heap.size w7 (w7.alloc (.cells #[.int .i64 l, .slice pn Z.length cn] 43)) := (Below.refl _ _).alloc (Nat.le_refl _) _
  have hsz8 : (w7.alloc (.cells #[.int .i64 l, .slice pn Z.length cn] 43)).heap.size = w7.heap.size + 1 := by simp
  have hr8 := hr7.below hb8 (Nat.le_refl _)
  have hz8 := o7.rd.below hb8 (Nat.le_refl _)
  have S8 := S7.below hb8 (Nat.le_refl _)
  have X8 := X7.below hb8 (Nat.le_refl _)
  have hB8 := hB7.trans (hb8.mono (by omega))
  clear hb7 hb8 hr7 hr6 S7 S6 X7 X6 o7 hB7 hB6 SN
  have TZ := hid (HBZ.out · pn cn)
  have TZ1 := hid (HBZ1.out · pn cn)
  have TR := hid (HRN.out · pn cn)
  go_wp2_with fail
  generalize (w7.alloc (.cells #[.int .i64 l, .slice pn Z.length cn] 43)) = w8 at *
  have x1 : w8.cell? ⟨w.heap.size, 1, none⟩ = some (.int .i64 id) := X8.cell 1
  have s0 : w8.cell? ⟨w3.heap.size, 0, none⟩ = some (.int .i64 l) := S8.cell 0
  have s1 : w8.cell? ⟨w3.heap.size, 1, none⟩ = some (.slice p xs.length cap) := S8.cell 1
  have n0 : w8.cell? ⟨w7.heap.size, 0, none⟩ = some (.int .i64 l) := NB8.cell 0
  have n1 : w8.cell? ⟨w7.heap.size, 1, none⟩ = some (.slice pn Z.length cn) := NB8.cell 1
  have hB0 := Below.refl w8.heap.size w8
  have hXl := X8.lt
  have hSl := S8.lt
  have hNl := NB8.lt
  clear HBZ HBZ1 HRN
  have KK := hid (fun W (hb : Below w8.heap.size w8 W) => show W.cell? ⟨w.heap.size, 1, none⟩ = some (.int .i64 id) ∧ W.cell? ⟨w3.heap.size, 0, none⟩ = some (.int .i64 l) ∧ W.cell? ⟨w3.heap.size, 1, none⟩ = some (.slice p xs.length cap) ∧ W.cell? ⟨w7.heap.size, 0, none⟩ = some (.int .i64 l) ∧ W.cell? ⟨w7.heap.size, 1, none⟩ = some (.slice pn Z.length cn) ∧ Below w8.heap.size w8 W from
    ⟨(X8.below' hb hXl).cell 1, (S8.below' hb hSl).cell 0, (S8.below' hb hSl).cell 1, (NB8.below' hb hNl).cell 0, (NB8.below' hb hNl).cell 1, hb⟩)
  go_region_held3 (fun w' => w'.cell? ⟨w.heap.size, 1, none⟩ = some (.int .i64 id) ∧ w'.cell? ⟨w3.heap.size, 0, none⟩ = some (.int .i64 l) ∧ w'.cell? ⟨w3.heap.size, 1, none⟩ = some (.slice p xs.length cap) ∧ w'.cell? ⟨w7.heap.size, 0, none⟩ = some (.int .i64 l) ∧ w'.cell? ⟨w7.heap.size, 1, none⟩ = some (.slice pn Z.length cn) ∧ Below w8.heap.size w8 w')
    (first
      | exact KK.out _ (below_drewN hB0 1)
      | exact KK.out _ hBz)
    (first
      | (go_at_call 35; have hBa := (‹_ ∧ _ ∧ _ ∧ _ ∧ _ ∧ Below w8.heap.size w8 _›).2.2.2.2.2
         first
         | ((with_reducible refine (TZ.out _ (hz8.below hBa (Nat.le_refl _))).mono ?_); rintro e wy ⟨rfl, hby⟩)
         | ((with_reducible refine (HBS.out _ (hr8.below hBa (Nat.le_refl _))).mono ?_); rintro e wy ⟨rfl, hby⟩)
         | ((with_reducible refine (TZ1.out _ (hz8.below hBa (Nat.le_refl _))).mono ?_); rintro e wy ⟨rfl, hby⟩)
         | ((with_reducible refine (HBS1.out _ (hr8.below hBa (Nat.le_refl _))).mono ?_); rintro e wy ⟨rfl, hby⟩)
         have hBz := hBa.trans (hby.mono hBa.size))
      | (go_at_call 36; have hBa := (‹_ ∧ _ ∧ _ ∧ _ ∧ _ ∧ Below w8.heap.size w8 _›).2.2.2.2.2; refine (TR.out _ (hz8.below hBa (Nat.le_refl _))).mono ?_; rintro e wy ⟨rfl, hby⟩
         have hBz := hBa.trans (hby.mono hBa.size))
      | (go_at_call 32; have hBa := (‹_ ∧ _ ∧ _ ∧ _ ∧ _ ∧ Below w8.heap.size w8 _›).2.2.2.2.2; refine (A.out _).mono ?_; rintro e wy ⟨rfl, hby⟩
         have hBz := hBa.trans (hby.mono hBa.size)))
  go_wp2_with fail
  go_ret
  exact ⟨rfl, hB8.trans (hBz.mono (by omega))⟩
end Go.Proofs.Ytejoecoenehooaa
