/- Texts laid together. -/
import Derived.Test.YtlciofheonbkiaaGreatP45
import Derived.Test.YtlciofheonbkiaaGreatP46
import Derived.Test.YtlciofheonbkiaaGreatP32
import Derived.Test.YtlciofheonbkiaaGreatP38
import Derived.Test.YtlciofheonbkiaaGreatP13
import Derived.Test.YtlciofheonbkiaaGreatP44
import Derived.Test.YtlciofheonbkiaaGreatP16
import Derived.Test.YtlciofheonbkiaaGreatP34
import Derived.Test.YtlciofheonbkiaaGreatP12
import Derived.Shelf.SlSortCmp.WholeK
import Derived.Test.YtlciofheonbkiaaGreatP01
namespace Go.Proofs.YtlciofheonbkiaaGreat
open Go.RowKit Nl
theorem so_rank {w : World} {dg q g h m : Nat} {kind k : Int} (d : DgV w dg q g h kind 3 k m [(13, 2)]) : Calls Tryz.prog 121 #[.pointer (some ⟨dg, 0, none⟩), .int .i64 1, .int .i64 2] w fun e w' => e = .returned (.tuple #[.int .i64 1, .int .i64 0]) ∧ Below w.heap.size w w' := by
  have WR := hid (so_wrong d)
  have DN := hid (dg_n d)
  have es : sumL ([(13, 2)] : List Nd) = 2 := rfl
  rw [es] at DN
  have PU := hid (partup_any 2 1 2 w (by decide) (by decide) (by decide) (by decide) (by decide) (by decide))
  rw [show Rk.partUpV 2 1 2 = 1 by decide, show Rk.partUpOk 2 1 2 = true by decide] at PU
  clear es d
  go_enter Tryz.func121, Tryz.ntmps121
  go_wp2_with fail
  refine WR.out.mono ?_
  rintro e w2 ⟨rfl, rfl⟩
  go_wp2_with fail
  refine DN.out.mono ?_
  rintro e w2 ⟨rfl, rfl⟩
  go_wp2_with fail
  refine PU.out.mono ?_
  rintro e w2 ⟨rfl, hd⟩
  have hb : Below w.heap.size w w2 := by obtain ⟨n, rfl⟩ := hd; exact below_drewN (Below.refl _ _) n
  go_wp2_with fail
  go_ret2
  exact ⟨rfl, hb⟩
theorem so_of {w : World} {dg q g h m : Nat} {kind k : Int} (d : DgV w dg q g h kind 3 k m [(13, 2)]) (hm : m ≤ 100000) : Calls Tryz.prog 69 #[.pointer (some ⟨dg, 0, none⟩), .int .i64 1, .int .i64 2] w fun e w' => e = .returned (.tuple #[.int .i64 5, .int .i64 0]) ∧ Below w.heap.size w w' := by
  have RN := hid (so_rank d)
  have AT := hid (fun W (y : DgV W dg q g h kind 3 k m [(13, 2)]) => so_at y hm)
  go_enter Tryz.func69, Tryz.ntmps69
  go_wp2_with fail
  refine RN.out.mono ?_
  rintro e w2 ⟨rfl, hb⟩
  have AT2 := AT.out w2 (d.below hb nlr)
  clear RN AT d
  go_wp2_with fail
  refine AT2.mono ?_
  rintro e w3 ⟨rfl, hb3⟩
  go_wp2_with fail
  go_ret2
  exact ⟨rfl, hb.trans (hb3.mono hb.size)⟩
theorem so_median {w : World} {dg q g h m : Nat} {kind k : Int} (d : DgV w dg q g h kind 3 k m [(13, 2)]) (hm : m ≤ 100000) : Calls Tryz.prog 24 #[.pointer (some ⟨dg, 0, none⟩)] w fun e w' => e = .returned (.tuple #[.int .i64 5, .int .i64 0]) ∧ Below w.heap.size w w' := by
  have OF := hid (so_of d hm)
  clear d
  go_enter Tryz.func24, Tryz.ntmps24
  go_wp2_with fail
  refine OF.out.mono ?_
  rintro e w2 ⟨rfl, hb⟩
  go_wp2_with fail
  go_ret2
  exact ⟨rfl, hb⟩
end Go.Proofs.YtlciofheonbkiaaGreat

namespace Go.Proofs.YtlciofheonbkiaaGreat
set_option maxHeartbeats 8000000
set_option maxRecDepth 100000
open Go.RowKit Nl Vy Sh
theorem tp_ins : dgIns 3 2 [] 5 2 = ([(13, 2)], 0) := by decide
theorem tp_text : textL 3 2 [(13, 2)] = [100, 105, 103, 101, 115, 116, 32, 51, 32, 50, 32, 50, 10, 53, 46, 46, 53, 32, 50, 10] := by
  have e1 : endsLo 3 13 = 5 := by decide
  have e2 : endsHi 3 13 = 5 := by decide
  have e5 : sumL ([(13, 2)] : List Nd) = 2 := by decide
  have d (n : Nat) (h : n < 10) : digL (n : Int) = [UInt8.ofNat (48 + n)] := by
    unfold digL; rw [if_neg (by omega), Int.toNat_natCast, decL_low h]
  have d2 : digL 2 = [50] := d 2 (by decide)
  have d3 : digL 3 = [51] := d 3 (by decide)
  have d5 : digL 5 = [53] := d 5 (by decide)
  unfold textL headL bodyL
  rw [e5]
  simp only [List.map_cons, List.map_nil, lineL, e1, e2, d2, d3, d5]
  rfl
theorem tp_enc : 4 < (encL 3 2 2 [13] [2]).length := by
  unfold encL
  rw [seal_len]
  unfold headB
  simp only [List.length_append, List.length_cons, List.length_nil]
  omega
theorem t_alive (w : World) : Calls Tryz.prog 6 #[] w fun e w' => e = .returned (.bool true) ∧ Below w.heap.size w w' := by
  have NW := hid (dg_new 2 3 2 w (by decide) (by decide))
  have IN := hid (fun W dg q g h (d : DgV W dg q g h 2 3 2 20000 []) => dg_insert d 5 2 (by decide) (by decide) (by decide) ⟨by decide, by decide⟩ ⟨by decide, by decide⟩)
  rw [tp_ins] at IN
  have TX := hid (fun (W : World) dg q g h (d : DgV W dg q g h 2 3 2 20000 [(13, 2)]) => s_text d (by decide) ⟨by decide, by decide⟩ ⟨by decide, by decide⟩ ⟨by decide, by decide⟩ (by intro x hx; simp at hx; rcases hx with rfl; exact ⟨by decide, by decide⟩))
  rw [tp_text] at TX
  have EN := hid (fun (W : World) dg q g h (d : DgV W dg q g h 2 3 2 20000 [(13, 2)]) => w_encode d (by decide) (by decide))
  have ME := hid (fun (W : World) dg q g h (d : DgV W dg q g h 2 3 2 20000 [(13, 2)]) => so_median d (by decide))
  obtain ⟨E, eE⟩ : ∃ E : List UInt8, E = encL 3 2 (sumL [(13, 2)]) (([(13, 2)] : List Nd).map (fun x => x.1)) (([(13, 2)] : List Nd).map (fun x => x.2)) := ⟨_, rfl⟩
  have hE : 4 < E.length := by rw [eE]; exact tp_enc
  rw [← eE] at EN
  obtain ⟨B, eB⟩ : ∃ B : ByteArray, B = ⟨E.toArray⟩ := ⟨_, rfl⟩
  have z : decide (4 < (B.size : Int)) = true := decide_eq_true (by rw [eB]; show 4 < ((E.toArray.size : Nat) : Int); simp; omega)
  rw [← eB] at EN
  clear eB eE hE
  go_enter Tryz.func6, Tryz.ntmps6
  go_wp2_with fail
  refine NW.out.mono ?_
  rintro e w1 ⟨dg, q, g, h, rfl, d1, p1, p2, p3, p4, hb1⟩
  have IN1 := IN.out _ _ _ _ _ d1
  clear NW IN d1
  go_wp2_with fail
  refine IN1.mono ?_
  rintro e w2 ⟨rfl, h', d2, hh, hc⟩
  have hb2 : Below w.heap.size w w2 := ChB.of_new hb1 hc (fun j hj => by rcases hj with e | e | e | e <;> omega)
  have EN2 := EN.out _ _ _ _ _ d2
  clear IN1 hc hb1 EN
  go_wp2_with fail
  refine EN2.mono ?_
  rintro e w3 ⟨rfl, hb3⟩
  have d3 := d2.below hb3 nlr
  have TX3 := TX.out _ _ _ _ _ d3
  have hbA := hb2.trans (hb3.mono hb2.size)
  clear EN2 d2 TX
  go_wp2_with fail
  refine TX3.mono ?_
  rintro e w4 ⟨rfl, hb4⟩
  have d4 := d3.below hb4 nlr
  have ME4 := ME.out _ _ _ _ _ d4
  have hbB := hbA.trans (hb4.mono hbA.size)
  clear TX3 d3 ME
  go_wp2_with fail
  refine ME4.mono ?_
  rintro e w5 ⟨rfl, hb5⟩
  have hbC := hbB.trans (hb5.mono hbB.size)
  clear ME4 d4
  go_wp2_with fail
  go_ret
  exact ⟨rfl, hbC⟩
end Go.Proofs.YtlciofheonbkiaaGreat

namespace Go.Proofs.YtlciofheonbkiaaGreat
open Go.RowKit Nl
def TrRel (l : Int) (B0 c : Nat) (vd vb : Value) (n M : Nat) (w : World) (gn : Nat) (i : Value) (wr : World) : Prop :=
  ∃ (j : Nat) (rs : List Rec) (X : List Int), i = .int .i64 j ∧ j ≤ M ∧ M ≤ gn + j ∧ rs.length = n ∧ X.length ≤ j ∧ CrowdT l rs X ∧ Crowd wr B0 l c vd vb rs ∧ Below B0 w wr
theorem few_yes {l : Int} {k h most : Nat} (e : fewB l k h most = true) : 1 ≤ l ∧ l ≤ 48 ∧ 1 ≤ k ∧ k ≤ 5 ∧ h ≤ most := by
  unfold fewB at e
  simp only [Bool.and_eq_true, decide_eq_true_eq] at e
  omega
end Go.Proofs.YtlciofheonbkiaaGreat

namespace Go.Proofs.YtlciofheonbkiaaGreat
set_option maxHeartbeats 8000000
set_option maxRecDepth 100000
open Go.RowKit Nl
def Nl.endV (f : Bool) (l : Int) (z : Int × Int) : Int × Int := (bif f then endsLo l z.1 else endsHi l z.1, z.2)
def Nl.endL (f : Bool) (l : Int) (zs : List (Int × Int)) : List (Int × Int) := zs.map (endV f l)
theorem Nl.endL_len (f : Bool) (l : Int) (zs : List (Int × Int)) : (endL f l zs).length = zs.length := by unfold endL; simp
theorem Nl.endL_take (f : Bool) (l : Int) (zs : List (Int × Int)) (j : Nat) (h : j < zs.length) (a c : Int) (e : zs.getD j (0, 0) = (a, c)) :
    (endL f l zs).take (j + 1) = (endL f l zs).take j ++ [(bif f then endsLo l a else endsHi l a, c)] := by
  have h' : j < (endL f l zs).length := by rw [endL_len]; exact h
  have e2 : zs[j] = (a, c) := by rw [← e]; simp [List.getD, h]
  have e3 : (endL f l zs)[j] = (bif f then endsLo l a else endsHi l a, c) := by
    show (zs.map (endV f l))[j]'(by simpa using h) = _
    rw [List.getElem_map, e2]; rfl
  rw [List.take_succ_eq_append_getElem h', e3]
def OwnE (w : World) (B : Nat) (v : Value) (xs : List Nd) : Prop := w.ownsRow B 151 2 v xs.length (ncells xs)
def EndsP (f : Bool) (l : Int) (zs : List Nd) (w : World) (e : Ending) (w' : World) : Prop :=
  ∃ v, e = .returned v ∧ OwnE w' w.heap.size v (endL f l zs) ∧ Below w.heap.size w w'
def QeRel (f : Bool) (l : Int) (zs : List Nd) (n : Nat) (w : World) (gn : Nat) (b i : Value) (wr : World) : Prop :=
  ∃ (j : Nat), i = .int .i64 j ∧ j ≤ n ∧ n ≤ gn + j ∧ wr.ownsRow w.heap.size 151 2 b j (ncells ((endL f l zs).take j)) ∧ Below w.heap.size w wr
theorem q_ends {w : World} {dg q g h m : Nat} {kind l k : Int} {zs : List Nd} (f : Bool) (d : DgV w dg q g h kind l k m zs) (hm : m ≤ 100000) (hz : zs.length ≤ 90000) :
    Calls Tryz.prog 42 #[.pointer (some ⟨dg, 0, none⟩), .bool f] w (EndsP f l zs w) := by
  have CF := hid (dg_conf d)
  have ND := hid (fun W (y : DgV W dg q g h kind l k m zs) => dg_nodes y hm)
  have hroll := d.inv.roll
  have IDS := hid (fun z (hz : z ∈ zs) => hroll.ids z hz)
  have EN := hid (fun id (hr : rightB l id = true) W => t_ends (l := l) (id := id) W hr)
  have hl2 := hroll.l2
  clear hroll
  cases f
  · go_enter Tryz.func42, Tryz.ntmps42
    go_wp2_with fail
    refine CF.out.mono ?_
    rintro e w1 ⟨rfl, hb1⟩
    have d1 := d.below hb1 nlr
    have ND1 := ND.out w1 d1
    go_wp2_with (rename_i K hK; show K (Act.put _ (some 14) (.int .i64 l)) w1; refine hK _ _ ?_)
    refine ND1.mono ?_
    rintro e w2 ⟨v, rfl, ho, hb2⟩
    obtain ⟨p, cap, rfl⟩ := ho.val
    have hbw := hb1.trans (hb2.mono hb1.size)
    have hs := hbw.size
    have hrd := hid ho.rd
    obtain ⟨n, en⟩ : ∃ n, zs.length = n := ⟨_, rfl⟩
    rw [en] at hz hrd ⊢
    have EL := hid en
    clear ho d1 ND1 ND CF d hb1 hb2 en
    go_wp2_with fail
    go_loopg [5, 18] n (fun gn b i wr => QeRel false l zs n w2 gn b i wr)
    case atStart => exact ⟨0, rfl, Nat.zero_le _, nlr, by simpa [ncells] using World.ownsRow_nil w2 w2.heap.size _ _, Below.refl _ _⟩
    case round =>
      obtain ⟨j, rfl, hj, hgn, hown, hbl⟩ := hrel
      by_cases hlt : j < n
      · have hlt' : j < zs.length := by rw [EL.out]; exact hlt
        obtain ⟨gs, off, a, c, rfl, hac, hgs, q0, q1⟩ := (hrd.out.below hbl nlr).at (k := j) hlt'
        have hmem : (a, c) ∈ zs := by rw [← hac]; simp [List.getD, hlt']
        have EN1 := EN.out a (IDS.out _ hmem)
        have z0 : decide ((j : Int) < (n : Int)) = true := decide_eq_true (by omega)
        have ET := hid (endL_take false l zs j hlt' a c hac)
        obtain ⟨lo, elo⟩ : ∃ x, endsLo l a = x := ⟨_, rfl⟩
        obtain ⟨hi, ehi⟩ : ∃ x, endsHi l a = x := ⟨_, rfl⟩
        rw [elo, ehi] at EN1
        have EE := hid (And.intro elo ehi)
        have N8 := Blk.new wr #[.int .i64 a, .int .i64 c] 107
        have EN2 := hid (EN1 (wr.alloc (.cells #[.int .i64 a, .int .i64 c] 107)))
        have HW := hid hown
        clear hac hmem elo ehi EN1 hown
        go_wp2_with fail
        refine EN2.out.mono ?_
        rintro e w5 ⟨rfl, hb5⟩
        have N9 := N8.below hb5 nlr
        have n1 : w5.cell? ⟨wr.heap.size, 1, none⟩ = some (.int .i64 c) := N9.cell 1
        have hb15 : Below wr.heap.size wr w5 := ((Below.refl _ _).alloc nlr _).trans (hb5.mono (by simp))
        have hbx : Below w2.heap.size w2 w5 := hbl.trans (hb15.mono hbl.size)
        have hown5 := ownsRow_keep HW.out (fun k hk => hb15.block k (World.ownsRow.lt HW.out k hk).2)
        clear EN2 N8 hb5 HW
        go_upto_region 9 with fail
        go_wp2_with (at_builtin; refine appendE (wr := w5) _ _ hown5 (by omega) hbx.size rfl rfl rfl rfl rfl ?_; intro g9 c9 w6 hown6 hgr hat hlt6)
        have hb6 := hbx.grown hgr hbx.size (fun k hk => (World.ownsRow.lt hown5 k hk).1)
        obtain ⟨elo, ehi⟩ := EE.out
        have et := ET.out
        simp only [cond_false, ehi] at et
        have R9 : Hid (∀ i, i = Value.int .i64 ((j : Nat) + 1 : Int) → QeRel false l zs n w2 (n - (j + 1)) (.slice (some ⟨g9, 0, none⟩) (j + 1) c9) i w6) := by
          intro i hi
          refine ⟨j + 1, by rw [hi]; simp, by omega, by omega, ?_, hb6⟩
          rw [et, ncells_append]
          exact hown6
        clear et elo ehi hown5 hown6 hgr hat
        go_roundg (n - (j + 1))
        case rel => exact R9.out _ (by go_num)
        case measure => omega
      · obtain rfl : j = n := by omega
        have z0 : decide ((j : Int) < (j : Int)) = false := decide_eq_false (by omega)
        have hown2 := hown
        rw [List.take_of_length_le (by rw [endL_len, EL.out]; exact nlr)] at hown2
        have P : Hid (EndsP false l zs w (.returned u5) wr) := ⟨_, rfl, by unfold OwnE; rw [endL_len, EL.out]; exact ownsRow_mono hown2 hs, hbw.trans (hbl.mono hs)⟩
        clear hown hown2
        go_wp2_with fail
        go_ret
        exact P.out
  · go_enter Tryz.func42, Tryz.ntmps42
    go_wp2_with fail
    refine CF.out.mono ?_
    rintro e w1 ⟨rfl, hb1⟩
    have d1 := d.below hb1 nlr
    have ND1 := ND.out w1 d1
    go_wp2_with (rename_i K hK; show K (Act.put _ (some 14) (.int .i64 l)) w1; refine hK _ _ ?_)
    refine ND1.mono ?_
    rintro e w2 ⟨v, rfl, ho, hb2⟩
    obtain ⟨p, cap, rfl⟩ := ho.val
    have hbw := hb1.trans (hb2.mono hb1.size)
    have hs := hbw.size
    have hrd := hid ho.rd
    obtain ⟨n, en⟩ : ∃ n, zs.length = n := ⟨_, rfl⟩
    rw [en] at hz hrd ⊢
    have EL := hid en
    clear ho d1 ND1 ND CF d hb1 hb2 en
    go_wp2_with fail
    go_loopg [5, 18] n (fun gn b i wr => QeRel true l zs n w2 gn b i wr)
    case atStart => exact ⟨0, rfl, Nat.zero_le _, nlr, by simpa [ncells] using World.ownsRow_nil w2 w2.heap.size _ _, Below.refl _ _⟩
    case round =>
      obtain ⟨j, rfl, hj, hgn, hown, hbl⟩ := hrel
      by_cases hlt : j < n
      · have hlt' : j < zs.length := by rw [EL.out]; exact hlt
        obtain ⟨gs, off, a, c, rfl, hac, hgs, q0, q1⟩ := (hrd.out.below hbl nlr).at (k := j) hlt'
        have hmem : (a, c) ∈ zs := by rw [← hac]; simp [List.getD, hlt']
        have EN1 := EN.out a (IDS.out _ hmem)
        have z0 : decide ((j : Int) < (n : Int)) = true := decide_eq_true (by omega)
        have ET := hid (endL_take true l zs j hlt' a c hac)
        obtain ⟨lo, elo⟩ : ∃ x, endsLo l a = x := ⟨_, rfl⟩
        obtain ⟨hi, ehi⟩ : ∃ x, endsHi l a = x := ⟨_, rfl⟩
        rw [elo, ehi] at EN1
        have EE := hid (And.intro elo ehi)
        have N8 := Blk.new wr #[.int .i64 a, .int .i64 c] 107
        have EN2 := hid (EN1 (wr.alloc (.cells #[.int .i64 a, .int .i64 c] 107)))
        have HW := hid hown
        clear hac hmem elo ehi EN1 hown
        go_wp2_with fail
        refine EN2.out.mono ?_
        rintro e w5 ⟨rfl, hb5⟩
        have N9 := N8.below hb5 nlr
        have n1 : w5.cell? ⟨wr.heap.size, 1, none⟩ = some (.int .i64 c) := N9.cell 1
        have hb15 : Below wr.heap.size wr w5 := ((Below.refl _ _).alloc nlr _).trans (hb5.mono (by simp))
        have hbx : Below w2.heap.size w2 w5 := hbl.trans (hb15.mono hbl.size)
        have hown5 := ownsRow_keep HW.out (fun k hk => hb15.block k (World.ownsRow.lt HW.out k hk).2)
        clear EN2 N8 hb5 HW
        go_upto_region 9 with fail
        go_wp2_with (at_builtin; refine appendE (wr := w5) _ _ hown5 (by omega) hbx.size rfl rfl rfl rfl rfl ?_; intro g9 c9 w6 hown6 hgr hat hlt6)
        have hb6 := hbx.grown hgr hbx.size (fun k hk => (World.ownsRow.lt hown5 k hk).1)
        obtain ⟨elo, ehi⟩ := EE.out
        have et := ET.out
        simp only [cond_true, elo] at et
        have R9 : Hid (∀ i, i = Value.int .i64 ((j : Nat) + 1 : Int) → QeRel true l zs n w2 (n - (j + 1)) (.slice (some ⟨g9, 0, none⟩) (j + 1) c9) i w6) := by
          intro i hi
          refine ⟨j + 1, by rw [hi]; simp, by omega, by omega, ?_, hb6⟩
          rw [et, ncells_append]
          exact hown6
        clear et elo ehi hown5 hown6 hgr hat
        go_roundg (n - (j + 1))
        case rel => exact R9.out _ (by go_num)
        case measure => omega
      · obtain rfl : j = n := by omega
        have z0 : decide ((j : Int) < (j : Int)) = false := decide_eq_false (by omega)
        have hown2 := hown
        rw [List.take_of_length_le (by rw [endL_len, EL.out]; exact nlr)] at hown2
        have P : Hid (EndsP true l zs w (.returned u5) wr) := ⟨_, rfl, by unfold OwnE; rw [endL_len, EL.out]; exact ownsRow_mono hown2 hs, hbw.trans (hbl.mono hs)⟩
        clear hown hown2
        go_wp2_with fail
        go_ret
        exact P.out
end Go.Proofs.YtlciofheonbkiaaGreat

namespace Go.Proofs.YtlciofheonbkiaaGreat
open Go.RowKit Go.Shelf
def soRen : Ren := ⟨fun | 6 => 93 | 15 => 156 | 14 => 155 | 28 => 209 | 29 => 210 | 20 => 201 | 21 => 202 | 22 => 203 | 23 => 204 | 24 => 205 | 25 => 206 | 26 => 207 | 27 => 208 | 46 => 225 | 47 => 226 | 48 => 227 | 49 => 228 | 50 => 229 | 57 => 233 | n => n, fun | 22 => 83 | 24 => 151 | 25 => 152 | 3 => 3 | 39 => 209 | 0 => 0 | 53 => 254 | 55 => 138 | 4 => 4 | 46 => 248 | 45 => 247 | 50 => 91 | 5 => 5 | 9 => 9 | 66 => 272 | 70 => 276 | 76 => 281 | 77 => 56 | n => n, fun n => n⟩
theorem soLay : Go.Proofs.SlLaysF0.n6 Tryz.prog soRen where
  mixed := by kernel_rfl
  f6 := ⟨Tryz.f93.name, by decide, Tryz.func93.trans (congrArg some (by kernel_rfl))⟩
  f14 := ⟨Tryz.f155.name, by decide, Tryz.func155.trans (congrArg some (by kernel_rfl))⟩
  f15 := Tryz.func156.trans (congrArg some (by kernel_rfl))
  f20 := ⟨Tryz.f201.name, by decide, Tryz.func201.trans (congrArg some (by kernel_rfl))⟩
  f21 := ⟨Tryz.f202.name, by decide, Tryz.func202.trans (congrArg some (by kernel_rfl))⟩
  f22 := ⟨Tryz.f203.name, by decide, Tryz.func203.trans (congrArg some (by kernel_rfl))⟩
  f23 := ⟨Tryz.f204.name, by decide, Tryz.func204.trans (congrArg some (by kernel_rfl))⟩
  f24 := ⟨Tryz.f205.name, by decide, Tryz.func205.trans (congrArg some (by kernel_rfl))⟩
  f25 := ⟨Tryz.f206.name, by decide, Tryz.func206.trans (congrArg some (by kernel_rfl))⟩
  f26 := ⟨Tryz.f207.name, by decide, Tryz.func207.trans (congrArg some (by kernel_rfl))⟩
  f27 := ⟨Tryz.f208.name, by decide, Tryz.func208.trans (congrArg some (by kernel_rfl))⟩
  f28 := Tryz.func209.trans (congrArg some (by kernel_rfl))
  f29 := Tryz.func210.trans (congrArg some (by kernel_rfl))
  f46 := ⟨Tryz.f225.name, by decide, Tryz.func225.trans (congrArg some (by kernel_rfl))⟩
  f47 := Tryz.func226.trans (congrArg some (by kernel_rfl))
  f48 := Tryz.func227.trans (congrArg some (by kernel_rfl))
  f49 := ⟨Tryz.f228.name, by decide, Tryz.func228.trans (congrArg some (by kernel_rfl))⟩
  f50 := ⟨Tryz.f229.name, by decide, Tryz.func229.trans (congrArg some (by kernel_rfl))⟩
  f57 := ⟨Tryz.f233.name, by decide, Tryz.func233.trans (congrArg some (by kernel_rfl))⟩
  t0 := Tryz.underlying0
  a0 := Tryz.isAgg0
  z0 := Tryz.sizeOf0
  v0 := Tryz.zeroValue0
  t3 := Tryz.underlying3
  a3 := Tryz.isAgg3
  z3 := Tryz.sizeOf3
  v3 := Tryz.zeroValue3
  t4 := Tryz.underlying4
  a4 := Tryz.isAgg4
  z4 := Tryz.sizeOf4
  v4 := Tryz.zeroValue4
  t5 := Tryz.underlying5
  a5 := Tryz.isAgg5
  z5 := Tryz.sizeOf5
  v5 := Tryz.zeroValue5
  t9 := Tryz.underlying9
  a9 := Tryz.isAgg9
  z9 := Tryz.sizeOf9
  v9 := Tryz.zeroValue9
  t22 := Tryz.underlying83
  a22 := Tryz.isAgg83
  z22 := Tryz.sizeOf83
  v22 := Tryz.zeroValue83
  t25 := Tryz.underlying152
  a25 := Tryz.isAgg152
  z25 := Tryz.sizeOf152
  v25 := Tryz.zeroValue152
  t39 := Tryz.underlying209
  a39 := Tryz.isAgg209
  z39 := Tryz.sizeOf209
  v39 := Tryz.zeroValue209
  t45 := Tryz.underlying247
  a45 := Tryz.isAgg247
  z45 := Tryz.sizeOf247
  v45 := Tryz.zeroValue247
  t46 := Tryz.underlying248
  a46 := Tryz.isAgg248
  z46 := Tryz.sizeOf248
  v46 := Tryz.zeroValue248
  t50 := Tryz.underlying91
  a50 := Tryz.isAgg91
  z50 := Tryz.sizeOf91
  v50 := Tryz.zeroValue91
  t53 := Tryz.underlying254
  a53 := Tryz.isAgg254
  z53 := Tryz.sizeOf254
  v53 := Tryz.zeroValue254
  t55 := Tryz.underlying138
  a55 := Tryz.isAgg138
  z55 := Tryz.sizeOf138
  v55 := Tryz.zeroValue138
  t66 := Tryz.underlying272
  a66 := Tryz.isAgg272
  z66 := Tryz.sizeOf272
  v66 := Tryz.zeroValue272
  t70 := Tryz.underlying276
  a70 := Tryz.isAgg276
  z70 := Tryz.sizeOf276
  v70 := Tryz.zeroValue276
  t76 := Tryz.underlying281
  a76 := Tryz.isAgg281
  z76 := Tryz.sizeOf281
  v76 := Tryz.zeroValue281
  t77 := Tryz.underlying56
  a77 := Tryz.isAgg56
  z77 := Tryz.sizeOf56
  v77 := Tryz.zeroValue56
end Go.Proofs.YtlciofheonbkiaaGreat
