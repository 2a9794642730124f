/- The walk of DenseApart. -/
import Derived.Test.YtpkccicofgbfbaaDense6
namespace Go.Proofs.Ytpkccicofgbfbaa
open Go.RowKit Nl

/-- Only the blocks of M may have changed. -/
structure Chg (M : List Nat) (w w' : World) : Prop where
  os : w'.os = w.os
  tape : w'.tape = w.tape
  output : w'.output = w.output
  size : w.heap.size ≤ w'.heap.size
  block : ∀ k, k < w.heap.size → k ∉ M → w'.heap[k]? = w.heap[k]?
theorem Chg.refl (M : List Nat) (w : World) : Chg M w w := ⟨rfl, rfl, rfl, Nat.le_refl _, fun _ _ _ => rfl⟩
theorem Chg.trans {M : List Nat} {a b c : World} (h1 : Chg M a b) (h2 : Chg M b c) : Chg M a c :=
  ⟨h2.os.trans h1.os, h2.tape.trans h1.tape, h2.output.trans h1.output, Nat.le_trans h1.size h2.size, fun k hk e => (h2.block k (Nat.lt_of_lt_of_le hk h1.size) e).trans (h1.block k hk e)⟩
theorem Chg.of_tch {M : List Nat} {g h : Nat} {w w' : World} (t : Tch g h w w') (hg : g ∈ M) (hh : h ∈ M) : Chg M w w' :=
  ⟨t.os, t.tape, t.output, t.size, fun k hk e => t.block k hk (fun q => e (q ▸ hg)) (fun q => e (q ▸ hh))⟩
theorem Chg.of_below {M : List Nat} {w w' : World} (b : Below w.heap.size w w') : Chg M w w' := ⟨b.os, b.tape, b.output, b.size, fun k hk _ => b.block k hk⟩
theorem Chg.below {M : List Nat} {B : Nat} {w w' : World} (t : Chg M w w') (hM : ∀ x ∈ M, B ≤ x) (hB : B ≤ w.heap.size) : Below B w w' :=
  ⟨t.os, t.tape, t.output, t.size, fun k hk => t.block k (by omega) (fun q => by have := hM k q; omega)⟩

/-- A dense store at (g, h), and the document's at b, with the same nodes; the latter's list lies in no block of L. -/
def TripAt (L : List Nat) (w : World) (g h b : Nat) (l : Int) (cs : List Int) : Prop :=
  ∃ v, DnV w g h l cs ∧ Blk w b #[.int .i64 l, v] 30 ∧ RdN w v (snapF 0 cs) ∧ ∀ k, v.ownBlock = some k → k ∉ L
theorem TripAt.keep {L M : List Nat} {w w' : World} {g h b : Nat} {l : Int} {cs : List Int} (t : TripAt L w g h b l cs) (c : Chg M w w') (hM : ∀ x ∈ M, x ∈ L) (hg : g ∉ M) (hh : h ∉ M) (hb : b ∉ M) : TripAt L w' g h b l cs := by
  obtain ⟨v, ⟨u, t, d, vv⟩, x, r, a⟩ := t
  exact ⟨v, ⟨u, t, ⟨d.1.keep (c.block g d.1.lt hg), d.2.1.keep (c.block h d.2.1.lt hh), d.2.2⟩, vv⟩, x.keep (c.block b x.lt hb), r.keep (fun k hk => c.block k (r.lt k hk) (fun q => a k hk (hM k q))) c.size, a⟩
theorem TripAt.lt {L : List Nat} {w : World} {g h b : Nat} {l : Int} {cs : List Int} (t : TripAt L w g h b l cs) : g < w.heap.size ∧ h < w.heap.size ∧ b < w.heap.size := by
  obtain ⟨v, ⟨u, t, d, vv⟩, x, r, a⟩ := t
  exact ⟨d.1.lt, d.2.1.lt, x.lt⟩

def ApartRel1 (w : World) (g h b : Nat) (l : Int) (n : Nat) (i : Value) (wr : World) : Prop :=
  ∃ (k : Nat) (cs : List Int), i = .int .i64 k ∧ k ≤ n ∧ TripAt [g, h, b] wr g h b l cs ∧ Below w.heap.size w wr
def ApartRel2 (w : World) (g h b g2 h2 b2 : Nat) (l : Int) (n : Nat) (i : Value) (wr : World) : Prop :=
  ∃ (k : Nat) (cs cs2 : List Int), i = .int .i64 k ∧ k ≤ n ∧ TripAt [g, h, b, g2, h2, b2] wr g h b l cs ∧ TripAt [g, h, b, g2, h2, b2] wr g2 h2 b2 l cs2 ∧ Below w.heap.size w wr

/-- A call's cells. -/
def OpsAt (w : World) (p : Option Addr) (os : List Op3) : Prop := ∀ k, k < os.length → ∃ g off, p = some ⟨g, off, none⟩ ∧ g < w.heap.size ∧
    w.cell? ⟨g, off + k * 3, none⟩ = some (.int .i64 (os.getD k (0, 0, 0)).1) ∧ w.cell? ⟨g, off + k * 3 + 1, none⟩ = some (.int .i64 (os.getD k (0, 0, 0)).2.1) ∧ w.cell? ⟨g, off + k * 3 + 2, none⟩ = some (.int .i64 (os.getD k (0, 0, 0)).2.2) ∧
    (-9223372036854775808 ≤ (os.getD k (0, 0, 0)).1 ∧ (os.getD k (0, 0, 0)).1 ≤ 9223372036854775807) ∧ (-9223372036854775808 ≤ (os.getD k (0, 0, 0)).2.1 ∧ (os.getD k (0, 0, 0)).2.1 ≤ 9223372036854775807) ∧ (-9223372036854775808 ≤ (os.getD k (0, 0, 0)).2.2 ∧ (os.getD k (0, 0, 0)).2.2 ≤ 9223372036854775807)
theorem OpsAt.at {w wr : World} {p : Option Addr} {os : List Op3} (h : OpsAt w p os) (hb : Below w.heap.size w wr) {k : Nat} (hk : k < os.length) :
    ∃ g off kind id c, p = some ⟨g, off, none⟩ ∧ wr.cell? ⟨g, off + k * 3, none⟩ = some (.int .i64 kind) ∧ wr.cell? ⟨g, off + k * 3 + 1, none⟩ = some (.int .i64 id) ∧ wr.cell? ⟨g, off + k * 3 + 2, none⟩ = some (.int .i64 c) ∧
      (-9223372036854775808 ≤ id ∧ id ≤ 9223372036854775807) ∧ (-9223372036854775808 ≤ c ∧ c ≤ 9223372036854775807) := by
  obtain ⟨g, off, hp, hg, c1, c2, c3, _, k2, k3⟩ := h k hk
  have eb := hb.block g hg
  exact ⟨g, off, _, _, _, hp, (World.cell?_of_block (w := w) (w' := wr) (a := ⟨g, off + k * 3, none⟩) eb).trans c1, (World.cell?_of_block (w := w) (w' := wr) (a := ⟨g, off + k * 3 + 1, none⟩) eb).trans c2, (World.cell?_of_block (w := w) (w' := wr) (a := ⟨g, off + k * 3 + 2, none⟩) eb).trans c3, k2, k3⟩

set_option maxRecDepth 100000 in
set_option maxHeartbeats 8000000 in
theorem DenseApart_walk (l : Int) (v1 : Value) (os1 : List Op3) (v2 : Value) (os2 : List Op3) (v3 : Value) (os3 : List Op3) (w : World) (hl : -9223372036854775808 ≤ l) (hl1 : l ≤ 9223372036854775807) (ho1 : RdO w v1 os1) (ho2 : RdO w v2 os2) (ho3 : RdO w v3 os3) :
    Calls Try.prog 5 #[.int .i64 l, v1, v2, v3] w fun e w' => e = .returned (.bool true) ∧ Below w.heap.size w w' := by
  obtain ⟨p1, cap1, rfl, hlen1, hcells1⟩ := ho1
  obtain ⟨p2, cap2, rfl, hlen2, hcells2⟩ := ho2
  obtain ⟨p3, cap3, rfl, hlen3, hcells3⟩ := ho3
  have O1 : OpsAt w p1 os1 := hcells1
  have O2 : OpsAt w p2 os2 := hcells2
  have O3 : OpsAt w p3 os3 := hcells3
  clear hcells1 hcells2 hcells3
  have A := hid (law_alive w)
  by_cases g1 : l < 1
  · go_enter Try.func5, Try.ntmps5
    go_wp2_with fail
    refine A.out.mono ?_
    rintro e w' ⟨rfl, hb⟩
    go_wp2_with fail
    go_ret
    exact ⟨rfl, hb⟩
  by_cases g2 : 10 < l
  · go_enter Try.func5, Try.ntmps5
    go_wp2_with fail
    refine A.out.mono ?_
    rintro e w' ⟨rfl, hb⟩
    go_wp2_with fail
    go_ret
    exact ⟨rfl, hb⟩
  by_cases g3 : 60 < os1.length
  · go_enter Try.func5, Try.ntmps5
    go_wp2_with fail
    refine A.out.mono ?_
    rintro e w' ⟨rfl, hb⟩
    go_wp2_with fail
    go_ret
    exact ⟨rfl, hb⟩
  by_cases g4 : 60 < os2.length
  · go_enter Try.func5, Try.ntmps5
    go_wp2_with fail
    refine A.out.mono ?_
    rintro e w' ⟨rfl, hb⟩
    go_wp2_with fail
    go_ret
    exact ⟨rfl, hb⟩
  by_cases g5 : 60 < os3.length
  · go_enter Try.func5, Try.ntmps5
    go_wp2_with fail
    refine A.out.mono ?_
    rintro e w' ⟨rfl, hb⟩
    go_wp2_with fail
    go_ret
    exact ⟨rfl, hb⟩
  have h4 : 1 ≤ l := by omega
  have N := hid (d_new l w h4 (by omega))
  obtain ⟨z0, ez⟩ : ∃ z, List.replicate (2 * 2 ^ l.toNat) (0 : Int) = z := ⟨_, rfl⟩
  have es : snapF 0 z0 = [] := by
    subst ez
    generalize 2 * 2 ^ l.toNat = m
    generalize 0 = k
    induction m generalizing k with
    | zero => rfl
    | succ m ih => simp [List.replicate_succ, snapF, ih]
  have Es := hid es
  rw [ez] at N
  clear es ez
  go_enter Try.func5, Try.ntmps5
  go_wp2_with fail
  refine N.out.mono ?_
  rintro e w1 ⟨g, h, rfl, dv1, hg, hh, hb1⟩
  go_wp2_with fail
  have hs1 := hb1.size
  have hb2 : Below w.heap.size w (w1.alloc (.cells #[.int .i64 l, .slice none 0 0] 30)) := hb1.trans (((Below.refl _ _).alloc (Nat.le_refl _) _).mono hs1)
  have X := Blk.new w1 #[.int .i64 l, .slice none 0 0] 30
  have dv2 := dv1.below ((Below.refl _ _).alloc (Nat.le_refl _) (.cells #[.int .i64 l, .slice none 0 0] 30)) (Nat.le_refl _)
  obtain ⟨hg1, hh1, hgh⟩ := dv1.lt
  have T0 : TripAt [g, h, w1.heap.size] (w1.alloc (.cells #[.int .i64 l, .slice none 0 0] 30)) g h w1.heap.size l z0 := ⟨_, dv2, X, by rw [Es.out]; exact RdN.nil _, fun k hk => by simp [Value.ownBlock] at hk⟩
  generalize (w1.alloc (.cells #[.int .i64 l, .slice none 0 0] 30)) = wa at *
  generalize hb : w1.heap.size = b at *
  have hgb : g ≠ b := by omega
  have hhb : h ≠ b := by omega
  have hbw : w.heap.size ≤ b := by omega
  clear X dv2 dv1 hb1 hb N Es
  go_loopw [57] (fun i wr => ApartRel1 w g h b l os1.length i wr) (fun i _ => os1.length - (intOf i).toNat)
  case atStart => exact ⟨0, z0, rfl, by omega, T0, hb2⟩
  case round =>
    obtain ⟨k, cs, rfl, hk, Tr, hbl⟩ := hrel
    by_cases h6 : k < os1.length
    · obtain ⟨gq, off, kind, id, c, rfl, c1, c2, c3, k2, k3⟩ := O1.at hbl h6
      obtain ⟨hLg, hLh, hLb⟩ := Tr.lt
      obtain ⟨v0, dv, X, R, Ap⟩ := Tr
      obtain ⟨p0, cap0, rfl⟩ := R.val
      have hxl : (snapF 0 cs).length < 1000000 := by
        obtain ⟨u, t, d, vv⟩ := dv
        have := snapF_length 0 cs
        have := vv.bound
        omega
      have hxt : 0 ≤ totV (snapF 0 cs) ∧ totV (snapF 0 cs) ≤ 72057594037927935 := by
        obtain ⟨u, t, d, vv⟩ := dv
        rw [tot_snap vv]; exact ⟨vv.bound.1, vv.most⟩
      have hdo : stDo l (snapF 0 cs) kind id c = (snapF 0 (dDo l cs kind id c).1, (dDo l cs kind id c).2) := by
        obtain ⟨u, t, d, vv⟩ := dv
        exact do_snap vv kind id c
      have Do := fun W (q : RdN W (.slice p0 (snapF 0 cs).length cap0) (snapF 0 cs)) => r_stdo (B := 0) l kind id c W ⟨q, fun _ _ => Nat.zero_le _⟩ (Nat.zero_le _) hxl ⟨hl, hl1⟩ k2 k3 hxt
      rw [hdo] at Do
      have Do' := hid Do
      have hba : Below wr.heap.size wr (wr.alloc (.cells #[.int .i64 kind, .int .i64 id, .int .i64 c] 32)) := (Below.refl _ _).alloc (Nat.le_refl _) _
      have Law := hid (law_do kind id c (dv.below hba (Nat.le_refl _)) k2 k3)
      obtain ⟨⟨cs', code⟩, ed⟩ : ∃ r, dDo l cs kind id c = r := ⟨_, rfl⟩
      rw [ed] at Do' Law
      have X1 := X.below hba (Nat.le_refl _)
      have R1 := R.below hba (Nat.le_refl _)
      have O1' := Blk.new wr #[.int .i64 kind, .int .i64 id, .int .i64 c] 32
      have hsa : (wr.alloc (.cells #[.int .i64 kind, .int .i64 id, .int .i64 c] 32)).heap.size = wr.heap.size + 1 := by simp
      clear Do ed hdo hxt
      have Hxl := hid hxl
      clear hxl
      go_wp2_with fail
      generalize (wr.alloc (.cells #[.int .i64 kind, .int .i64 id, .int .i64 c] 32)) = wb at *
      refine Law.out.mono ?_
      rintro e w2 ⟨rfl, D2, T2⟩
      dsimp only at D2 ⊢
      have hs2 := T2.size
      have X2 := X1.tch T2 (by omega) (by omega)
      have O2' := O1'.tch T2 (by omega) (by omega)
      have R2 := R1.tch T2 (fun q => Ap _ q (by simp)) (fun q => Ap _ q (by simp))
      have x0 : w2.cell? ⟨b, 0, none⟩ = some (.int .i64 l) := X2.cell 0
      have x1 : w2.cell? ⟨b, 1, none⟩ = some (.slice p0 (snapF 0 cs).length cap0) := X2.cell 1
      have o0 : w2.cell? ⟨wr.heap.size, 0, none⟩ = some (.int .i64 kind) := O2'.cell 0
      have o1 : w2.cell? ⟨wr.heap.size, 1, none⟩ = some (.int .i64 id) := O2'.cell 1
      have o2 : w2.cell? ⟨wr.heap.size, 2, none⟩ = some (.int .i64 c) := O2'.cell 2
      go_wp2_with fail
      refine (Do'.out w2 R2).mono ?_
      rintro e w3 ⟨v3, rfl, hr3, hv3, hb3⟩
      dsimp only at hr3 hv3 ⊢
      have hs3 := hb3.size
      obtain ⟨pz, capz, rfl⟩ : ∃ p cap, v3 = .slice p (snapF 0 cs').length cap := hr3.1.val
      have X3 := X2.below hb3 (Nat.le_refl _)
      have D3 := D2.below hb3 (Nat.le_refl _)
      have Ap3 : ∀ k, (Value.slice pz (snapF 0 cs').length capz).ownBlock = some k → k ∉ [g, h, b] := by
        intro k hk q
        rcases hv3 with hv3 | hv3
        · rw [hv3] at hk; exact Ap k hk q
        · have := hv3 k hk
          simp at q
          omega
      clear x0 x1 o0 o1 o2 c1 c2 c3
      have y0 : w3.cell? ⟨b, 0, none⟩ = some (.int .i64 l) := X3.cell 0
      have y1 : w3.cell? ⟨b, 1, none⟩ = some (.slice p0 (snapF 0 cs).length cap0) := X3.cell 1
      have f0 := X3.free 0
      have f1 := X3.free 1
      have Hv3 := hid hv3
      have HAp3 := hid Ap3
      have HAp := hid Ap
      clear hv3 Ap3 Ap
      go_wp2_with fail
      go_roundw
      case rel =>
        have X4 := (X3.set 0 (.int .i64 l)).set 1 (.slice pz (snapF 0 cs').length capz)
        have T4 := (Tch.set1 (g := b) (h := b) w3 0 (.int .i64 l)).trans (Tch.set1 _ 1 (.slice pz (snapF 0 cs').length capz))
        have D4 := D3.tch T4 (by omega) (by omega) (by omega) (by omega)
        have R4 := hr3.1.tch T4 (fun q => HAp3.out _ q (by simp)) (fun q => HAp3.out _ q (by simp))
        have C4 : Chg [g, h, b] wr _ := (((Chg.of_below hba).trans (Chg.of_tch T2 (by simp) (by simp))).trans (Chg.of_below hb3)).trans (Chg.of_tch T4 (by simp) (by simp))
        have B4 := hbl.trans (C4.below (B := w.heap.size) (by simp; omega) hbl.size)
        refine ⟨k + 1, cs', by go_num, by omega, ?_, B4⟩
        exact ⟨_, D4, X4, R4, HAp3.out⟩
      case measure => simp [intOf]; omega
    · obtain ⟨hLg, hLh, hLb⟩ := Tr.lt
      obtain ⟨v0, dv, X, R, Ap⟩ := Tr
      obtain ⟨p0, cap0, rfl⟩ := R.val
      obtain ⟨u, t, d, vv⟩ := dv
      go_wp2_with fail
      refine (d_clone d vv).mono ?_
      rintro e wc ⟨g2, h2, rfl, dc, hg2, hh2, hbc⟩
      have hsc := hbc.size
      have dv : DnV wr g h l cs := ⟨u, t, d, vv⟩
      have Xc := X.below hbc (Nat.le_refl _)
      have Rc := R.below hbc (Nat.le_refl _)
      have dvc := dv.below hbc (Nat.le_refl _)
      obtain ⟨hcg, hch, hcgh⟩ := dc.lt
      have x0 : wc.cell? ⟨b, 0, none⟩ = some (.int .i64 l) := Xc.cell 0
      have x1 : wc.cell? ⟨b, 1, none⟩ = some (.slice p0 (snapF 0 cs).length cap0) := Xc.cell 1
      go_wp2_with fail
      refine (law_like dc Rc).mono ?_
      rintro e wd ⟨rfl, hbd⟩
      have hsd := hbd.size
      have Xd := Xc.below hbd (Nat.le_refl _)
      have Rd := Rc.below hbd (Nat.le_refl _)
      have dvd := dvc.below hbd (Nat.le_refl _)
      have dcd := dc.below hbd (Nat.le_refl _)
      clear x0 x1
      have x0 : wd.cell? ⟨b, 0, none⟩ = some (.int .i64 l) := Xd.cell 0
      have x1 : wd.cell? ⟨b, 1, none⟩ = some (.slice p0 (snapF 0 cs).length cap0) := Xd.cell 1
      go_wp2_with fail
      have hbe : Below wd.heap.size wd (wd.alloc (.cells #[.int .i64 l, .slice p0 (snapF 0 cs).length cap0] 30)) := (Below.refl _ _).alloc (Nat.le_refl _) _
      have hRl : ∀ k, (Value.slice p0 (snapF 0 cs).length cap0).ownBlock = some k → k ∉ [g, h, b, g2, h2, wd.heap.size] := by
        intro k hk q
        have h1 := Ap k hk
        have h2 := R.lt k hk
        simp at h1 q
        omega
      have TA : TripAt [g, h, b, g2, h2, wd.heap.size] (wd.alloc (.cells #[.int .i64 l, .slice p0 (snapF 0 cs).length cap0] 30)) g h b l cs :=
        ⟨_, dvd.below hbe (Nat.le_refl _), Xd.below hbe (Nat.le_refl _), Rd.below hbe (Nat.le_refl _), hRl⟩
      have TB : TripAt [g, h, b, g2, h2, wd.heap.size] (wd.alloc (.cells #[.int .i64 l, .slice p0 (snapF 0 cs).length cap0] 30)) g2 h2 wd.heap.size l cs :=
        ⟨_, dcd.below hbe (Nat.le_refl _), Blk.new _ _ _, Rd.below hbe (Nat.le_refl _), hRl⟩
      have Be := hbl.trans (((hbc.trans (hbd.mono hsc)).trans (hbe.mono (by omega))).mono hbl.size)
      generalize (wd.alloc (.cells #[.int .i64 l, .slice p0 (snapF 0 cs).length cap0] 30)) = we at *
      generalize eb2 : wd.heap.size = b2 at *
      have e1 : g2 ≠ b2 := by omega
      have e2 : h2 ≠ b2 := by omega
      have e3 : w.heap.size ≤ g2 := by have := hbl.size; omega
      have e4 : w.heap.size ≤ h2 := by have := hbl.size; omega
      have e5 : w.heap.size ≤ b2 := by have := hbl.size; omega
      have e6 : b < g2 ∧ b < h2 ∧ g < g2 ∧ g < h2 ∧ h < g2 ∧ h < h2 := by omega
      have e7 : g2 < b2 ∧ h2 < b2 := by omega
      clear hRl hbe x0 x1 dcd dvd Rd Xd hsd hbd hcg hch dvc Rc Xc dv hsc hbc hg2 hh2 dc d vv R X Ap hLg hLh hLb hbl eb2
      obtain ⟨wo, ewo⟩ : ∃ wo : World, wo = wr := ⟨_, rfl⟩
      clear ewo h6
      go_loopw [84] (fun i wr => ApartRel2 w g h b g2 h2 b2 l os2.length i wr) (fun i _ => os2.length - (intOf i).toNat)
      case atStart => exact ⟨0, cs, cs, rfl, by omega, TA, TB, Be⟩
      case round =>
        obtain ⟨k, cs, cs2, rfl, hk, Tr, To, hbl⟩ := hrel
        by_cases h6 : k < os2.length
        · obtain ⟨gq, off, kind, id, c, rfl, c1, c2, c3, k2, k3⟩ := O2.at hbl h6
          obtain ⟨hLg, hLh, hLb⟩ := Tr.lt
          obtain ⟨hMg, hMh, hMb⟩ := To.lt
          obtain ⟨v0, dv, X, R, Ap⟩ := Tr
          obtain ⟨p0, cap0, rfl⟩ := R.val
          have hxl : (snapF 0 cs).length < 1000000 := by
            obtain ⟨u, t, d, vv⟩ := dv
            have := snapF_length 0 cs
            have := vv.bound
            omega
          have hxt : 0 ≤ totV (snapF 0 cs) ∧ totV (snapF 0 cs) ≤ 72057594037927935 := by
            obtain ⟨u, t, d, vv⟩ := dv
            rw [tot_snap vv]; exact ⟨vv.bound.1, vv.most⟩
          have hdo : stDo l (snapF 0 cs) kind id c = (snapF 0 (dDo l cs kind id c).1, (dDo l cs kind id c).2) := by
            obtain ⟨u, t, d, vv⟩ := dv
            exact do_snap vv kind id c
          have Do := fun W (q : RdN W (.slice p0 (snapF 0 cs).length cap0) (snapF 0 cs)) => r_stdo (B := 0) l kind id c W ⟨q, fun _ _ => Nat.zero_le _⟩ (Nat.zero_le _) hxl ⟨hl, hl1⟩ k2 k3 hxt
          rw [hdo] at Do
          have Do' := hid Do
          have hba : Below wr.heap.size wr (wr.alloc (.cells #[.int .i64 kind, .int .i64 id, .int .i64 c] 32)) := (Below.refl _ _).alloc (Nat.le_refl _) _
          have Law := hid (law_do kind id c (dv.below hba (Nat.le_refl _)) k2 k3)
          obtain ⟨⟨cs', code⟩, ed⟩ : ∃ r, dDo l cs kind id c = r := ⟨_, rfl⟩
          rw [ed] at Do' Law
          have X1 := X.below hba (Nat.le_refl _)
          have R1 := R.below hba (Nat.le_refl _)
          have O1' := Blk.new wr #[.int .i64 kind, .int .i64 id, .int .i64 c] 32
          have hsa : (wr.alloc (.cells #[.int .i64 kind, .int .i64 id, .int .i64 c] 32)).heap.size = wr.heap.size + 1 := by simp
          clear Do ed hdo hxt
          have Hxl := hid hxl
          clear hxl
          go_wp2_with fail
          generalize (wr.alloc (.cells #[.int .i64 kind, .int .i64 id, .int .i64 c] 32)) = wb at *
          refine Law.out.mono ?_
          rintro e w2 ⟨rfl, D2, T2⟩
          dsimp only at D2 ⊢
          have hs2 := T2.size
          have X2 := X1.tch T2 (by omega) (by omega)
          have O2' := O1'.tch T2 (by omega) (by omega)
          have R2 := R1.tch T2 (fun q => Ap _ q (by simp)) (fun q => Ap _ q (by simp))
          have x0 : w2.cell? ⟨b, 0, none⟩ = some (.int .i64 l) := X2.cell 0
          have x1 : w2.cell? ⟨b, 1, none⟩ = some (.slice p0 (snapF 0 cs).length cap0) := X2.cell 1
          have o0 : w2.cell? ⟨wr.heap.size, 0, none⟩ = some (.int .i64 kind) := O2'.cell 0
          have o1 : w2.cell? ⟨wr.heap.size, 1, none⟩ = some (.int .i64 id) := O2'.cell 1
          have o2 : w2.cell? ⟨wr.heap.size, 2, none⟩ = some (.int .i64 c) := O2'.cell 2
          go_wp2_with fail
          refine (Do'.out w2 R2).mono ?_
          rintro e w3 ⟨v3, rfl, hr3, hv3, hb3⟩
          dsimp only at hr3 hv3 ⊢
          have hs3 := hb3.size
          obtain ⟨pz, capz, rfl⟩ : ∃ p cap, v3 = .slice p (snapF 0 cs').length cap := hr3.1.val
          have X3 := X2.below hb3 (Nat.le_refl _)
          have D3 := D2.below hb3 (Nat.le_refl _)
          have Ap3 : ∀ k, (Value.slice pz (snapF 0 cs').length capz).ownBlock = some k → k ∉ [g, h, b, g2, h2, b2] := by
            intro k hk q
            rcases hv3 with hv3 | hv3
            · rw [hv3] at hk; exact Ap k hk q
            · have := hv3 k hk
              simp at q
              omega
          clear x0 x1 o0 o1 o2 c1 c2 c3
          have y0 : w3.cell? ⟨b, 0, none⟩ = some (.int .i64 l) := X3.cell 0
          have y1 : w3.cell? ⟨b, 1, none⟩ = some (.slice p0 (snapF 0 cs).length cap0) := X3.cell 1
          have f0 := X3.free 0
          have f1 := X3.free 1
          have Hv3 := hid hv3
          have HAp3 := hid Ap3
          have HAp := hid Ap
          clear hv3 Ap3 Ap
          go_wp2_with fail
          go_roundw
          case rel =>
            have X4 := (X3.set 0 (.int .i64 l)).set 1 (.slice pz (snapF 0 cs').length capz)
            have T4 := (Tch.set1 (g := b) (h := b) w3 0 (.int .i64 l)).trans (Tch.set1 _ 1 (.slice pz (snapF 0 cs').length capz))
            have D4 := D3.tch T4 (by omega) (by omega) (by omega) (by omega)
            have R4 := hr3.1.tch T4 (fun q => HAp3.out _ q (by simp)) (fun q => HAp3.out _ q (by simp))
            have C4 : Chg [g, h, b] wr _ := (((Chg.of_below hba).trans (Chg.of_tch T2 (by simp) (by simp))).trans (Chg.of_below hb3)).trans (Chg.of_tch T4 (by simp) (by simp))
            have B4 := hbl.trans (C4.below (B := w.heap.size) (by simp; omega) hbl.size)
            refine ⟨k + 1, cs', cs2, by go_num, by omega, ?_, To.keep C4 (by simp) (by simp; omega) (by simp; omega) (by simp; omega), B4⟩
            exact ⟨_, D4, X4, R4, HAp3.out⟩
          case measure => simp [intOf]; omega
        · go_wp2_with fail
          clear TA TB Be
          have TA := Tr
          have TB := To
          have Be := hbl
          clear Tr To hbl h6
          go_loopw [100] (fun i wr => ApartRel2 w g h b g2 h2 b2 l os3.length i wr) (fun i _ => os3.length - (intOf i).toNat)
          case atStart => exact ⟨0, _, _, rfl, by omega, TA, TB, Be⟩
          case round =>
            obtain ⟨k, cs, cs2, rfl, hk, To, Tr, hbl⟩ := hrel
            by_cases h6 : k < os3.length
            · obtain ⟨gq, off, kind, id, c, rfl, c1, c2, c3, k2, k3⟩ := O3.at hbl h6
              obtain ⟨hLg, hLh, hLb⟩ := Tr.lt
              obtain ⟨hMg, hMh, hMb⟩ := To.lt
              obtain ⟨v0, dv, X, R, Ap⟩ := Tr
              obtain ⟨p0, cap0, rfl⟩ := R.val
              have hxl : (snapF 0 cs2).length < 1000000 := by
                obtain ⟨u, t, d, vv⟩ := dv
                have := snapF_length 0 cs2
                have := vv.bound
                omega
              have hxt : 0 ≤ totV (snapF 0 cs2) ∧ totV (snapF 0 cs2) ≤ 72057594037927935 := by
                obtain ⟨u, t, d, vv⟩ := dv
                rw [tot_snap vv]; exact ⟨vv.bound.1, vv.most⟩
              have hdo : stDo l (snapF 0 cs2) kind id c = (snapF 0 (dDo l cs2 kind id c).1, (dDo l cs2 kind id c).2) := by
                obtain ⟨u, t, d, vv⟩ := dv
                exact do_snap vv kind id c
              have Do := fun W (q : RdN W (.slice p0 (snapF 0 cs2).length cap0) (snapF 0 cs2)) => r_stdo (B := 0) l kind id c W ⟨q, fun _ _ => Nat.zero_le _⟩ (Nat.zero_le _) hxl ⟨hl, hl1⟩ k2 k3 hxt
              rw [hdo] at Do
              have Do' := hid Do
              have hba : Below wr.heap.size wr (wr.alloc (.cells #[.int .i64 kind, .int .i64 id, .int .i64 c] 32)) := (Below.refl _ _).alloc (Nat.le_refl _) _
              have Law := hid (law_do kind id c (dv.below hba (Nat.le_refl _)) k2 k3)
              obtain ⟨⟨cs', code⟩, ed⟩ : ∃ r, dDo l cs2 kind id c = r := ⟨_, rfl⟩
              rw [ed] at Do' Law
              have X1 := X.below hba (Nat.le_refl _)
              have R1 := R.below hba (Nat.le_refl _)
              have O1' := Blk.new wr #[.int .i64 kind, .int .i64 id, .int .i64 c] 32
              have hsa : (wr.alloc (.cells #[.int .i64 kind, .int .i64 id, .int .i64 c] 32)).heap.size = wr.heap.size + 1 := by simp
              clear Do ed hdo hxt
              have Hxl := hid hxl
              clear hxl
              go_wp2_with fail
              generalize (wr.alloc (.cells #[.int .i64 kind, .int .i64 id, .int .i64 c] 32)) = wb at *
              refine Law.out.mono ?_
              rintro e w2 ⟨rfl, D2, T2⟩
              dsimp only at D2 ⊢
              have hs2 := T2.size
              have X2 := X1.tch T2 (by omega) (by omega)
              have O2' := O1'.tch T2 (by omega) (by omega)
              have R2 := R1.tch T2 (fun q => Ap _ q (by simp)) (fun q => Ap _ q (by simp))
              have x0 : w2.cell? ⟨b2, 0, none⟩ = some (.int .i64 l) := X2.cell 0
              have x1 : w2.cell? ⟨b2, 1, none⟩ = some (.slice p0 (snapF 0 cs2).length cap0) := X2.cell 1
              have o0 : w2.cell? ⟨wr.heap.size, 0, none⟩ = some (.int .i64 kind) := O2'.cell 0
              have o1 : w2.cell? ⟨wr.heap.size, 1, none⟩ = some (.int .i64 id) := O2'.cell 1
              have o2 : w2.cell? ⟨wr.heap.size, 2, none⟩ = some (.int .i64 c) := O2'.cell 2
              go_wp2_with fail
              refine (Do'.out w2 R2).mono ?_
              rintro e w3 ⟨v3, rfl, hr3, hv3, hb3⟩
              dsimp only at hr3 hv3 ⊢
              have hs3 := hb3.size
              obtain ⟨pz, capz, rfl⟩ : ∃ p cap, v3 = .slice p (snapF 0 cs').length cap := hr3.1.val
              have X3 := X2.below hb3 (Nat.le_refl _)
              have D3 := D2.below hb3 (Nat.le_refl _)
              have Ap3 : ∀ k, (Value.slice pz (snapF 0 cs').length capz).ownBlock = some k → k ∉ [g, h, b, g2, h2, b2] := by
                intro k hk q
                rcases hv3 with hv3 | hv3
                · rw [hv3] at hk; exact Ap k hk q
                · have := hv3 k hk
                  simp at q
                  omega
              clear x0 x1 o0 o1 o2 c1 c2 c3
              have y0 : w3.cell? ⟨b2, 0, none⟩ = some (.int .i64 l) := X3.cell 0
              have y1 : w3.cell? ⟨b2, 1, none⟩ = some (.slice p0 (snapF 0 cs2).length cap0) := X3.cell 1
              have f0 := X3.free 0
              have f1 := X3.free 1
              have Hv3 := hid hv3
              have HAp3 := hid Ap3
              have HAp := hid Ap
              clear hv3 Ap3 Ap
              go_wp2_with fail
              go_roundw
              case rel =>
                have X4 := (X3.set 0 (.int .i64 l)).set 1 (.slice pz (snapF 0 cs').length capz)
                have T4 := (Tch.set1 (g := b2) (h := b2) w3 0 (.int .i64 l)).trans (Tch.set1 _ 1 (.slice pz (snapF 0 cs').length capz))
                have D4 := D3.tch T4 (by omega) (by omega) (by omega) (by omega)
                have R4 := hr3.1.tch T4 (fun q => HAp3.out _ q (by simp)) (fun q => HAp3.out _ q (by simp))
                have C4 : Chg [g2, h2, b2] wr _ := (((Chg.of_below hba).trans (Chg.of_tch T2 (by simp) (by simp))).trans (Chg.of_below hb3)).trans (Chg.of_tch T4 (by simp) (by simp))
                have B4 := hbl.trans (C4.below (B := w.heap.size) (by simp; omega) hbl.size)
                refine ⟨k + 1, cs, cs', by go_num, by omega, To.keep C4 (by simp) (by simp; omega) (by simp; omega) (by simp; omega), ?_, B4⟩
                exact ⟨_, D4, X4, R4, HAp3.out⟩
              case measure => simp [intOf]; omega
            · obtain ⟨va, da, xa, ra, aa⟩ := To
              obtain ⟨vb, db, xb, rb, ab⟩ := Tr
              obtain ⟨pa, capa, rfl⟩ := ra.val
              obtain ⟨pb, capb, rfl⟩ := rb.val
              have x0 : wr.cell? ⟨b, 0, none⟩ = some (.int .i64 l) := xa.cell 0
              have x1 : wr.cell? ⟨b, 1, none⟩ = some (.slice pa (snapF 0 cs).length capa) := xa.cell 1
              go_wp2_with fail
              refine (law_like da ra).mono ?_
              rintro e wf ⟨rfl, hbf⟩
              have xf := xb.below hbf (Nat.le_refl _)
              have x2 : wf.cell? ⟨b2, 0, none⟩ = some (.int .i64 l) := xf.cell 0
              have x3 : wf.cell? ⟨b2, 1, none⟩ = some (.slice pb (snapF 0 cs2).length capb) := xf.cell 1
              go_wp2_with fail
              refine (law_like (db.below hbf (Nat.le_refl _)) (rb.below hbf (Nat.le_refl _))).mono ?_
              rintro e wg ⟨rfl, hbg⟩
              go_wp2_with fail
              refine (law_alive wg).mono ?_
              rintro e wh ⟨rfl, hbh⟩
              go_wp2_with fail
              go_ret
              have h1 := hbl.size
              have h2 := hbf.size
              have h3 := hbg.size
              exact ⟨rfl, hbl.trans (((hbf.trans (hbg.mono h2)).trans (hbh.mono (by omega))).mono h1)⟩
end Go.Proofs.Ytpkccicofgbfbaa
