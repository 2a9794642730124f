/- Texts laid together. -/
import Derived.Test.YtdnlejboijkcfaaGreatDoorP39
import Derived.Test.YtdnlejboijkcfaaGreatDoorP15
import Derived.Test.YtdnlejboijkcfaaGreatDoorP14
import Derived.Test.YtdnlejboijkcfaaGreatDoorP02
/- epoch.New. -/
namespace Go.Proofs.YtdnlejboijkcfaaGreatDoor
set_option maxHeartbeats 8000000
set_option maxRecDepth 100000
open Go.RowKit Nl Tb
namespace Tb
theorem kids_self {ps : List Int} {r : Nat} (R : Right ps r) (i : Nat) (hi : i < ps.length) : (kidsN ps i ps.length).testBit i = false := by
  cases h : (kidsN ps i ps.length).testBit i
  · rfl
  · exfalso
    have h1 := ((kids_bit ps i ps.length i).1 h).2
    obtain ⟨d, _, hd⟩ := R.tree i hi
    have hd2 : Dep ps (d + 1) i := ⟨i, hi, h1, hd⟩
    have := hd.uniq hd2
    omega
end Tb
structure NewOk (c : Cx) (r : Nat) (kind l k wait number : Int) (ps : List Int) (W W' : World) (lab : Nat → Nat) (R : Nat) (sns : List Sn) : Prop where
  ec : c.kind = kind ∧ c.l = l ∧ c.k = k ∧ c.ps = ps
  hp : poolIs kind l = true
  hk : isK k = true
  rt : Right ps r
  O : OrdP ps 0 r c.os
  ep : c.ep ≤ 1099511627776
  e : RunE c W' lab R false false sns []
  len : sns.length = ps.length
  m : MadeAll ps sns
  lab0 : ∀ b, b < W.heap.size → lab b = 0
def NewP (kind l k wait number : Int) (ps : List Int) (W : World) (e : Ending) (W' : World) : Prop :=
  Below W.heap.size W W' ∧ ((∃ code : Int, code ≠ 0 ∧ e = .returned (.tuple #[.pointer none, .int .i64 code])) ∨ ∃ c r R lab sns, e = .returned (.tuple #[.pointer (some ⟨R, 0, none⟩), .int .i64 0]) ∧ NewOk c r kind l k wait number ps W W' lab R sns)
def NwRel (c : Cx) (number : Int) (R V : Nat) (pv : Value) (W : World) (gn : Nat) (i : Value) (wr : World) : Prop :=
  ∃ (j : Nat) (lab : Nat → Nat) (sv iv : Value) (sns : List Sn), i = .int .i64 j ∧ j + gn = c.ps.length ∧ sns.length = j ∧ RunM c wr lab R V pv c.ov sv iv false false sns [] ∧ MadeAll c.ps sns ∧ (∀ b, b < W.heap.size + 1 → lab b = 0) ∧ Blk wr W.heap.size #[.int .i64 c.l, .int .i64 c.k, .int .i64 c.kind] 24 ∧ Below W.heap.size W wr ∧ (1 ≤ j → poolIs c.kind c.l = true ∧ isK c.k = true ∧ 0 ≤ number ∧ number ≤ 1099511627776)
theorem re_new {W : World} {v : Value} {ps : List Int} (hr : RdI W v ps) (hn : ps.length ≤ 12) (hT : Tab W) (kind l k wait number : Int) (bk : In64 k) :
    Calls Tryz.prog 7 #[v, .agg #[.int .i64 l, .int .i64 k, .int .i64 kind], .int .i64 wait, .int .i64 number] W (NewP kind l k wait number ps W) := by
  have X0 := Blk.new W #[.int .i64 l, .int .i64 k, .int .i64 kind] 24
  have hb0 : Below W.heap.size W (W.alloc (.cells #[.int .i64 l, .int .i64 k, .int .i64 kind] 24)) := (Below.refl _ _).alloc nlr _
  obtain ⟨W0, eW⟩ : ∃ W0, (W.alloc (.cells #[.int .i64 l, .int .i64 k, .int .i64 kind] 24)) = W0 := ⟨_, rfl⟩
  rw [eW] at X0 hb0
  have HS0 : Hid (W0.heap.size = W.heap.size + 1) := by show _ = _; rw [← eW]; simp
  have OR := hid (g_order (hr.below hb0 nlr) (by omega) (hT.below hb0))
  have HR := hid hr
  obtain ⟨p, cap, rfl⟩ := hr.val
  have HN := hid hn
  clear hr hT
  go_enter Tryz.func7, Tryz.ntmps7
  go_wp2_with fail
  refine OR.out.mono ?_
  rintro e w1 ⟨(⟨hR, rfl⟩ | ⟨hR, r, y, ys, RR, OO, rfl, own⟩), hb1⟩
  · have hbw := hb0.trans (hb1.mono hb0.size)
    go_wp2_with fail
    go_ret2
    exact ⟨hbw, .inl ⟨15, by decide, rfl⟩⟩
  · have hbw := hb0.trans (hb1.mono hb0.size)
    obtain ⟨py, cy, rfl⟩ := own.val
    have HOW := hid own
    have HRR := hid RR
    have HOO := hid OO
    have HRB := hid hR
    have X1 := X0.below hb1 nlr
    have hs01 := hb1.size
    clear OR own RR OO hR hb1 hb0 X0
    go_wp2_with fail
    refine (wv_new w1).mono ?_
    rintro e w2 ⟨V, rfl, hV, wv2, hb2⟩
    have hbw2 := hbw.trans (hb2.mono hbw.size)
    have IC := hid (i_clone w2 (HR.out.below hbw2 nlr) (by omega))
    have X2 := X1.below hb2 nlr
    have O2 := hid (HOW.out.rd.below hb2 nlr)
    have OL := hid (fun j q => HOW.out.lt' j q)
    have OG := hid (fun j q => HOW.out.lt j q)
    have WV2 := hid wv2
    have hVl := wv2.blk
    have hVlt : V < w2.heap.size := by obtain ⟨_, _, _, _, _, q⟩ := hVl; exact q.lt
    clear HOW wv2 hVl hb2 X1
    go_wp2_with fail
    refine IC.out.mono ?_
    rintro e w3 ⟨v3, rfl, o3, hb3⟩
    have hbw3 := hbw2.trans (hb3.mono hbw2.size)
    obtain ⟨p3, c3, rfl⟩ := o3.val
    have X3 := X2.below hb3 nlr
    have P3 := hid o3
    have O3 := hid (O2.out.below hb3 nlr)
    have WV3 := hid (WV2.out.below hb3)
    have hs3 := hb3.size
    have hs1 := hbw.size
    clear IC O2 WV2 X2 o3
    rw [toI_len] at O3 OL OG ⊢
    have HB3 := hid hbw3
    obtain ⟨c, ec⟩ : ∃ c : Cx, c = ⟨kind, l, k, wait, number.toNat, ps, ys, .slice py ys.length cy⟩ := ⟨_, rfl⟩
    have M0 : Hid (∃ lab, RunM c (w3.alloc (.cells #[.pointer (some ⟨V, 0, none⟩), .slice p3 ps.length c3, .slice py ys.length cy, .slice none 0 0, .bool false, .bool false] 78)) lab w3.heap.size V (.slice p3 ps.length c3) (.slice py ys.length cy) (.slice none 0 0) (.slice none 0 0) false false [] [] ∧ ∀ b, b < W.heap.size + 1 → lab b = 0) := by
      subst ec
      have hba : Below w3.heap.size w3 (w3.alloc (.cells #[.pointer (some ⟨V, 0, none⟩), .slice p3 ps.length c3, .slice py ys.length cy, .slice none 0 0, .bool false, .bool false] 78)) := (Below.refl _ _).alloc nlr _
      have hsz : (w3.alloc (.cells #[.pointer (some ⟨V, 0, none⟩), .slice p3 ps.length c3, .slice py ys.length cy, .slice none 0 0, .bool false, .bool false] 78)).heap.size = w3.heap.size + 1 := by simp
      have hs2 := hbw2.size
      have hs0 := HS0.out
      have p3a := P3.out.lt
      have p3b := P3.out.lt'
      refine ⟨fun b => if b = w3.heap.size then 1 else if b = V then 2 else if (Value.slice p3 ps.length c3).ownBlock = some b then 3 else if (Value.slice py ys.length cy).ownBlock = some b then 4 else 0, ⟨Blk.new w3 _ _, WV3.out.below hba, P3.out.rd.alloc _, O3.alloc _, World.ownsRow_nil _ 0 _ _, fun i h => absurd h (Nat.not_lt_zero _), if_pos rfl, ?_, fun b q => ?_, fun b q => ?_, (fun b q => by cases q), (fun b q => by cases q), fun i h => absurd h (Nat.not_lt_zero _), fun b hb => ?_, rfl⟩, fun b hb => ?_⟩
      · show (if V = w3.heap.size then 1 else if V = V then 2 else _) = 2
        rw [if_neg (by omega), if_pos rfl]
      · have h1 := p3a b q
        have h2 := p3b b q
        refine ⟨by omega, ?_⟩
        show (if b = w3.heap.size then 1 else if b = V then 2 else if (Value.slice p3 ps.length c3).ownBlock = some b then 3 else _) = 3
        rw [if_neg (by omega), if_neg (by omega), if_pos q]
      · have h1 := OL.out b q
        refine ⟨by omega, ?_⟩
        show (if b = w3.heap.size then 1 else if b = V then 2 else if (Value.slice p3 ps.length c3).ownBlock = some b then 3 else if (Value.slice py ys.length cy).ownBlock = some b then 4 else 0) = 4
        rw [if_neg (by omega), if_neg (by omega), if_neg (fun q2 => by have := p3a b q2; omega), if_pos q]
      · rw [hsz] at hb
        show (if b = w3.heap.size then 1 else if b = V then 2 else if (Value.slice p3 ps.length c3).ownBlock = some b then 3 else if (Value.slice py ys.length cy).ownBlock = some b then 4 else 0) = 0
        rw [if_neg (by omega), if_neg (by omega), if_neg (fun q2 => by have := p3b b q2; omega), if_neg (fun q2 => by have := OL.out b q2; omega)]
      · show (if b = w3.heap.size then 1 else if b = V then 2 else if (Value.slice p3 ps.length c3).ownBlock = some b then 3 else if (Value.slice py ys.length cy).ownBlock = some b then 4 else 0) = 0
        rw [if_neg (by omega), if_neg (by omega), if_neg (fun q2 => by have := p3a b q2; omega), if_neg (fun q2 => by have := OG.out b q2; omega)]
    have X4 := X3.alloc (.cells #[.pointer (some ⟨V, 0, none⟩), .slice p3 ps.length c3, .slice py ys.length cy, .slice none 0 0, .bool false, .bool false] 78)
    have hbw4 := hbw3.alloc hbw3.size (.cells #[.pointer (some ⟨V, 0, none⟩), .slice p3 ps.length c3, .slice py ys.length cy, .slice none 0 0, .bool false, .bool false] 78)
    obtain ⟨w4, ew4⟩ : ∃ w4, (w3.alloc (.cells #[.pointer (some ⟨V, 0, none⟩), .slice p3 ps.length c3, .slice py ys.length cy, .slice none 0 0, .bool false, .bool false] 78)) = w4 := ⟨_, rfl⟩
    rw [ew4] at M0 X4 hbw4
    obtain ⟨N, eN⟩ : ∃ N, ps.length = N := ⟨_, rfl⟩
    have EN := hid eN
    have EC := hid ec
    have R0 : Hid (NwRel c number w3.heap.size V (.slice p3 ps.length c3) W N (.int .i64 (0 : Nat)) w4) := by
      obtain ⟨lab, h1, h2⟩ := M0.out
      have e1 : c.ps = ps := by rw [ec]
      have e2 : c.ov = .slice py ys.length cy := by rw [ec]
      refine ⟨0, lab, .slice none 0 0, .slice none 0 0, [], rfl, by rw [e1]; omega, rfl, by rw [e2]; exact h1, (fun i h => absurd h (Nat.not_lt_zero _)), h2, by rw [ec]; exact X4, hbw4, by omega⟩
    have GK := hid (fun W' (y : RdI W' (.slice p ps.length cap) ps) i hi => g_kidsK y (by omega) i hi HRB.out)
    rw [eN] at GK ew4 ⊢
    have hN12 : N ≤ 12 := by omega
    clear P3 O3 WV3 X3 M0 OL OG hbw4 hbw3 hbw2 hbw hb3 ec eN hn
    rw [EN.out] at R0
    go_wp2_with fail
    go_loopg [35] N (fun gn i wr => NwRel c number w3.heap.size V (.slice p3 N c3) W gn i wr)
    case atStart => exact R0.out
    case round =>
      clear R0
      obtain ⟨j, lab, sv, iv, sns, rfl, hj, hsl, M, MA, hl0, XC, hbw, hfact⟩ := hrel
      have ecps : c.ps = ps := by rw [EC.out]
      rw [ecps, EN.out] at hj
      obtain ⟨psv, csv, rfl⟩ := M.sval
      rw [hsl] at M
      cases gk with
      | zero =>
        have hjN : j = N := by omega
        have z0 : decide ((j : Int) < (N : Int)) = false := decide_eq_false (by omega)
        have Q : Hid (NewP kind l k wait number ps W (.returned (.tuple #[.pointer (some ⟨w3.heap.size, 0, none⟩), .int .i64 0])) wr) := by
          have n1 := HRR.out.n1
          obtain ⟨f1, f2, f3, f4⟩ := hfact (by have := EN.out; omega)
          have ec := EC.out
          subst ec
          exact ⟨hbw, .inr ⟨_, r, w3.heap.size, lab, sns, rfl, ⟨rfl, rfl, rfl, rfl⟩, f1, f2, HRR.out, HOO.out, by show number.toNat ≤ _; omega, ⟨V, _, _, _, _, M⟩, by rw [hsl, hjN, EN.out], MA, fun b hb => hl0 b (by omega)⟩⟩
        clear M MA hl0 hfact hbw
        go_wp2_with fail
        go_ret2
        exact Q.out
      | succ gn =>
        have hjN : j < N := by omega
        have hjp : j < ps.length := by rw [EN.out]; exact hjN
        have z0 : decide ((j : Int) < (N : Int)) = true := decide_eq_true (by omega)
        have K1 := hid (GK.out wr (by have := HR.out.below hbw nlr; rw [EN.out] at this; exact this) j hjN)
        obtain ⟨kd, ekd⟩ : ∃ kd, kidsN ps j N = kd := ⟨_, rfl⟩
        rw [ekd] at K1
        have hkd : kd < 281474976710656 := by
          rw [← ekd]
          exact lt12 (n := N) hN12 (fun x hx => ((kids_bit ps j N x).1 hx).1)
        have hks : kd.testBit j = false := by
          have := kids_self HRR.out j hjp
          rw [EN.out, ekd] at this
          exact this
        have SN := hid (fun W' => sn_new (w := W') kind l k wait number j kd (ps.getD j 0) bk (by omega) hkd hks)
        have HM := hid M
        have HNEW := hid M.new
        have hxl := XC.lt
        have HMA := hid MA
        have HL0 := hid hl0
        have HEK := hid ekd
        have hsw := hbw.size
        have XC : Blk wr W.heap.size #[.int .i64 l, .int .i64 k, .int .i64 kind] 24 := by rw [EC.out] at XC; exact XC
        have hfx := hid hfact
        clear M MA hl0 hfact ekd hkd hks hjp ecps
        go_wp2_with fail
        refine K1.out.mono ?_
        rintro e w5 ⟨rfl, hb5⟩
        have hbw5 := hbw.trans (hb5.mono hbw.size)
        have M5 := hid (HM.out.below hb5)
        have X5 := XC.below hb5 nlr
        have x0 : w5.cell? ⟨W.heap.size, 0, none⟩ = some (.int .i64 l) := X5.cell 0
        have x1 : w5.cell? ⟨W.heap.size, 1, none⟩ = some (.int .i64 k) := X5.cell 1
        have x2 : w5.cell? ⟨W.heap.size, 2, none⟩ = some (.int .i64 kind) := X5.cell 2
        have S5 := hid (SN.out w5)
        have hs5 := hb5.size
        clear K1 SN HM XC hb5 hbw
        go_wp2_with fail
        refine S5.out.mono ?_
        rintro e w6 ⟨hb6, (rfl | ⟨f1, f2, f3, f4, f5, b, dg, q, g, h, rfl, SV, hnew⟩)⟩
        · have hbw6 := hbw5.trans (hb6.mono hbw5.size)
          go_wp2_with fail
          go_ret2
          exact ⟨hbw6, .inl ⟨2, by decide, rfl⟩⟩
        · have hbw6 := hbw5.trans (hb6.mono hbw5.size)
          have M6 := M5.out.below hb6
          have X6 := X5.below hb6 nlr
          have HSV := hid SV
          have HNW := hid hnew
          have HF := hid (And.intro f1 (And.intro f2 (And.intro f4 f5)))
          have k3 : w6.cell? ⟨w3.heap.size, 3, none⟩ = some (.slice psv j csv) := M6.blk.cell 3
          have g3 := M6.blk.free 3
          have l3 := M6.blk.lt
          have row6 := M6.row
          rw [hsl] at row6
          have c3a : (w6.alloc (.cells #[.pointer (some ⟨b, 0, none⟩)] 81)).cell? ⟨w3.heap.size, 3, none⟩ = some (.slice psv j csv) := (M6.blk.alloc _).cell 3
          have HM6 := hid M6
          have hs6 := hb6.size
          clear S5 M5 X5 x0 x1 x2 SV hnew f1 f2 f3 f4 f5 hb6 M6
          go_wp2_with (at_builtin; refine appendSn (wr := w6) (pa := some ⟨b, 0, none⟩) _ _ row6 (by omega) (Nat.zero_le _) rfl rfl rfl rfl rfl ?_; intro g7 cap7 w7 o7 hg7 hn7 hl7; have X7 := HM6.out.blk.keep (hg7.block w3.heap.size l3 (fun e => by have := HM6.out.ls w3.heap.size e.symm; rw [HM6.out.lR] at this; omega)); have f7 := X7.free 3; have l7 := X7.lt; have c7 : w7.cell? ⟨w3.heap.size, 3, none⟩ = some (.slice psv j csv) := X7.cell 3)
          have R9 : Hid (NwRel c number w3.heap.size V (.slice p3 N c3) W gn (.int .i64 ((j : Int) + 1)) (w7.setCell ⟨w3.heap.size, 3, none⟩ (.slice (some ⟨g7, 0, none⟩) (j + 1) cap7))) := by
            have ec := EC.out
            have hN := EN.out
            have hl0 := HL0.out
            subst ec
            subst hN
            have hsvB : ∀ y, (Value.slice psv j csv).ownBlock = some y → W.heap.size ≤ y := fun y q => by
              have h5 := HM6.out.ls y q
              rcases Nat.lt_or_ge y (W.heap.size + 1) with q2 | q2
              · rw [hl0 y q2] at h5; omega
              · omega
            have hRB : W.heap.size < w3.heap.size := by
              have h1 := HM6.out.lR
              rcases Nat.lt_or_ge w3.heap.size (W.heap.size + 1) with q2 | q2
              · rw [hl0 _ q2] at h1; omega
              · omega
            have h76 := hg7.size
            obtain ⟨lab', M8, hz⟩ := HM6.out.add (B0 := W.heap.size + 1) (s := Sn.made b dg q g h (ps.getD j 0) kd j) (g := g7) (cap := cap7) (W2 := w7) (by rw [hsl]; exact HSV.out) (fun y hy => by
              have := HNW.out y hy
              exact ⟨HNEW.out y (by omega), by omega⟩) hl0 (by omega) (by rw [hsl]; exact o7) hg7 (by rcases hn7 with q2 | q2; exact .inl q2; exact .inr (by omega)) hl7
            rw [hsl] at M8
            refine ⟨j + 1, lab', _, iv, _, by simp, by show j + 1 + gn = ps.length; omega, by simp [hsl], M8, fun i hi => ?_, hz, ?_, ?_, fun _ => ⟨HF.out.1, HF.out.2.1, HF.out.2.2.1, HF.out.2.2.2⟩⟩
            · by_cases q2 : i < sns.length
              · rw [List.getElem_append_left q2]
                exact HMA.out i q2
              · have hj2 : i = sns.length := by rw [List.length_append] at hi; simp at hi; omega
                subst hj2
                simp only [List.getElem_append_right nlr, Nat.sub_self, List.getElem_cons_zero]
                have := HEK.out
                rw [hsl]
                exact ⟨b, dg, q, g, h, by show _ = Sn.made b dg q g h (ps.getD j 0) (kidsN ps j ps.length) j; rw [this]⟩
            · have k1 := X6.keep (hg7.block W.heap.size X6.lt (fun e => by
                have h5 := HM6.out.ls _ e.symm
                rw [hl0 _ (by omega)] at h5; omega))
              exact k1.keep (Below.heap_setCell w7 ⟨w3.heap.size, 3, none⟩ _ _ (by show W.heap.size ≠ w3.heap.size; omega))
            · exact (hbw6.grown hg7 hbw6.size hsvB).setCell (p := ⟨w3.heap.size, 3, none⟩) (by show W.heap.size ≤ w3.heap.size; omega) _
          go_roundg gn
          case rel => exact R9.out
          case measure => omega
end Go.Proofs.YtdnlejboijkcfaaGreatDoor

/- Texts laid together: RcMath, RcMath2. -/
/- Nodes that move to another universe (no program in sight). -/
namespace Go.Proofs.YtdnlejboijkcfaaGreatDoor
open Go.RowKit
namespace Nl
theorem dep_rep {id : Int} (h : 1 ≤ id) : ∃ d i : Nat, id = ((2 ^ d + i : Nat) : Int) ∧ i < 2 ^ d ∧ depV id = (d : Int) := by
  obtain ⟨n, rfl⟩ := Int.eq_ofNat_of_zero_le (show 0 ≤ id by omega)
  obtain ⟨d1, d2, d3⟩ := dep_pow (i := n) (by omega)
  refine ⟨depN (n : Int), n - 2 ^ depN (n : Int), ?_, ?_, d1⟩
  · have : n = 2 ^ depN (n : Int) + (n - 2 ^ depN (n : Int)) := by omega
    exact_mod_cast this
  · rw [Nat.pow_succ] at d3; omega
theorem dep_two {d i : Nat} (h : i < 2 ^ d) : depV ((2 ^ d + i : Nat) : Int) = (d : Int) := by
  have h1 : 1 ≤ 2 ^ d := Nat.one_le_two_pow
  obtain ⟨e, j, h2, h3, h4⟩ := dep_rep (id := ((2 ^ d + i : Nat) : Int)) (by omega)
  have h5 : 2 ^ d + i = 2 ^ e + j := by exact_mod_cast h2
  have a1 : 2 ^ d < 2 ^ (e + 1) := by rw [Nat.pow_succ]; omega
  have a2 : 2 ^ e < 2 ^ (d + 1) := by rw [Nat.pow_succ]; omega
  have a3 := (Nat.pow_lt_pow_iff_right (a := 2) (by omega)).1 a1
  have a4 := (Nat.pow_lt_pow_iff_right (a := 2) (by omega)).1 a2
  rw [h4]
  have : d = e := by omega
  rw [this]
def pruneV (t id : Int) : Int := id / 2 ^ (depN id - t.toNat)
theorem right_rep {l : Int} {d i : Nat} (h : i < 2 ^ d) (h1 : 1 ≤ l) (h2 : l ≤ 48) : rightB l ((2 ^ d + i : Nat) : Int) = decide ((d : Int) ≤ l) := by
  have hp : 1 ≤ 2 ^ d := Nat.one_le_two_pow
  rw [rightB_dep ⟨h1, h2⟩ (by omega), dep_two h]
theorem right_pos1 {l id : Int} (h : rightB l id = true) : 1 ≤ id ∧ 1 ≤ l ∧ l ≤ 48 := by
  simp only [rightB, decide_eq_true_eq] at h; omega
end Nl
end Go.Proofs.YtdnlejboijkcfaaGreatDoor
/- What moved nodes stand for, and moves in two steps (no program in sight). -/
namespace Go.Proofs.YtdnlejboijkcfaaGreatDoor
open Go.RowKit
namespace Nl
end Nl
end Go.Proofs.YtdnlejboijkcfaaGreatDoor

/- The node that holds a run of values (no program in sight). -/
namespace Go.Proofs.YtdnlejboijkcfaaGreatDoor
open Go.RowKit Nl
namespace Sh
def upV (L lo : Int) (j : Nat) : Int := (2 ^ L.toNat + lo) / 2 ^ j
end Sh
end Go.Proofs.YtdnlejboijkcfaaGreatDoor

/- The walks of twig.Ends, twig.Meet, sheet.Node and the reference's Node. -/
namespace Go.Proofs.YtdnlejboijkcfaaGreatDoor
set_option maxHeartbeats 8000000
set_option maxRecDepth 100000
open Go.RowKit Nl
theorem Sh.nat_rep {l id : Int} (h : rightB l id = true) : ∃ n d x : Nat, l = (n : Int) ∧ id = (x : Int) ∧ depV id = (d : Int) ∧ depOk id = true ∧ d ≤ n ∧ n ≤ 48 ∧ 1 ≤ n ∧ 2 ^ d ≤ x ∧ x < 2 ^ (d + 1) := by
  obtain ⟨b1, b2, b3⟩ := right_pos1 h
  obtain ⟨d, i, rfl, hi, hd⟩ := dep_rep b1
  obtain ⟨n, rfl⟩ := Int.eq_ofNat_of_zero_le (show 0 ≤ l by omega)
  rw [right_rep hi b2 b3] at h
  have h := of_decide_eq_true h
  refine ⟨n, d, 2 ^ d + i, rfl, rfl, hd, decide_eq_true b1, by omega, by omega, by omega, by omega, ?_⟩
  rw [Nat.pow_succ]; omega
theorem t_ends {l id : Int} (w : World) (h : rightB l id = true) :
    Calls Tryz.prog 74 #[.int .i64 l, .int .i64 id] w fun e w' => e = .returned (.tuple #[.int .i64 (endsLo l id), .int .i64 (endsHi l id), .bool true]) ∧ Below w.heap.size w w' := by
  obtain ⟨n, d, x, rfl, rfl, hd, hok, hdn, hn, hn1, hx1, hx2⟩ := Sh.nat_rep h
  obtain ⟨p1, p2⟩ := pow48 (n := d) (by omega)
  obtain ⟨m, em⟩ : ∃ m, n - d = m := ⟨_, rfl⟩
  obtain ⟨q1, q2⟩ := pow48 (n := m) (by omega)
  have hxb : (x : Int) < 562949953421312 := by
    have h1 : (2 : Nat) ^ (d + 1) ≤ 2 ^ 49 := Nat.pow_le_pow_right (by omega) (by omega)
    have h2 : (2 : Nat) ^ 49 = 562949953421312 := rfl
    omega
  have Rt0 := twig_right (n : Int) (x : Int) w (by omega) (by omega) (by omega) (by omega)
  rw [h] at Rt0
  have Rt := hid Rt0
  have Dp := hid (t_depth (x : Int) w ⟨by omega, by omega⟩)
  rw [hd, hok] at Dp
  have hsub : IntKind.i64.wrap ((n : Int) - (d : Int)) = (m : Int) := by rw [IntWalk.i64_in _ ⟨by omega, by omega⟩]; omega
  have hsub2 : wrap64 ((n : Int) - (d : Int)) = (m : Int) := by rw [IntWalk.wrap64_in _ ⟨by omega, by omega⟩]; omega
  have hs : 2 ^ n = 2 ^ d * 2 ^ m := by rw [← Nat.pow_add]; congr 1; omega
  have hlo : endsLo (n : Int) (x : Int) = ((x : Int) - 2 ^ d) * 2 ^ m := by
    unfold endsLo depN
    rw [hd, Int.toNat_natCast, Int.toNat_natCast, em, Int.sub_mul]
    have : (2 : Int) ^ n = 2 ^ d * 2 ^ m := by exact_mod_cast hs
    rw [this]
  have hhi : endsHi (n : Int) (x : Int) = ((x : Int) - 2 ^ d) * 2 ^ m + 2 ^ m - 1 := by
    unfold endsHi depN
    rw [hd, Int.toNat_natCast, Int.toNat_natCast, em, Int.sub_mul, Int.add_mul]
    have : (2 : Int) ^ n = 2 ^ d * 2 ^ m := by exact_mod_cast hs
    rw [this]; omega
  have hb : 0 ≤ ((x : Int) - 2 ^ d) * 2 ^ m ∧ ((x : Int) - 2 ^ d) * 2 ^ m < 281474976710656 := by
    have c1 : (2 : Int) ^ d = ((2 ^ d : Nat) : Int) := by simp
    have c2 : (2 : Int) ^ m = ((2 ^ m : Nat) : Int) := by simp
    have h1 : ((x : Int) - 2 ^ d) = ((x - 2 ^ d : Nat) : Int) := by rw [c1]; omega
    rw [h1, c2, ← Int.natCast_mul]
    have h2 : (x - 2 ^ d) * 2 ^ m < 2 ^ n := by
      rw [hs]; exact Nat.mul_lt_mul_of_pos_right (by rw [Nat.pow_succ] at hx2; omega) (Nat.pow_pos (by omega))
    have h3 : 2 ^ n ≤ 2 ^ 48 := Nat.pow_le_pow_right (by omega) hn
    have h4 : (2 : Nat) ^ 48 = 281474976710656 := rfl
    omega
  have hm48 : m ≤ 48 := by omega
  have hd48 : d ≤ 48 := by omega
  have HLO := hid hlo
  have HHI := hid hhi
  have hx0 : (0 : Int) ≤ (x : Int) := Int.natCast_nonneg _
  have hx3 : (2 : Int) ^ d ≤ (x : Int) := by
    have c1 : (2 : Int) ^ d = ((2 ^ d : Nat) : Int) := by simp
    rw [c1]; omega
  clear h hd hok hlo hhi hs em hx1 hx2 Rt0
  generalize (x : Int) = X at *
  obtain ⟨b1, b2⟩ := hb
  have hw1 : IntKind.i64.wrap (X - 2 ^ d) = X - 2 ^ d := IntWalk.i64_in _ ⟨by omega, by omega⟩
  have hw2 : IntKind.i64.wrap ((X - 2 ^ d) * 2 ^ m) = (X - 2 ^ d) * 2 ^ m := IntWalk.i64_in _ ⟨by omega, by omega⟩
  have hw3 : IntKind.i64.wrap ((X - 2 ^ d) * 2 ^ m + 2 ^ m) = (X - 2 ^ d) * 2 ^ m + 2 ^ m := IntWalk.i64_in _ ⟨by omega, by omega⟩
  have hw4 : IntKind.i64.wrap ((X - 2 ^ d) * 2 ^ m + 2 ^ m - 1) = (X - 2 ^ d) * 2 ^ m + 2 ^ m - 1 := IntWalk.i64_in _ ⟨by omega, by omega⟩
  go_enter Tryz.func74, Tryz.ntmps74
  go_wp2_with fail
  refine Rt.out.mono ?_
  rintro e w' ⟨rfl, rfl⟩
  go_wp2_with fail
  refine Dp.out.mono ?_
  rintro e w' ⟨rfl, rfl⟩
  go_wp2_with fail
  go_region
  go_wp2_with fail
  go_ret3
  exact ⟨by rw [HLO.out, HHI.out]; rfl, below_drewN (Below.refl _ _) 1⟩
end Go.Proofs.YtdnlejboijkcfaaGreatDoor
