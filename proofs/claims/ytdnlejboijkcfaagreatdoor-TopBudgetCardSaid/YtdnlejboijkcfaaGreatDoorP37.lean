/- Texts laid together. -/
import Derived.Test.YtdnlejboijkcfaaGreatDoorP36
import Derived.StillTailTactics
/- A run: who is ready sends. -/
namespace Go.Proofs.YtdnlejboijkcfaaGreatDoor
set_option maxHeartbeats 8000000
set_option maxRecDepth 100000
open Go.RowKit Nl Tb
namespace Tb
structure CxOk (c : Cx) (r : Nat) : Prop where
  R : Right c.ps r
  O : OrdP c.ps 0 r c.os
  n12 : c.ps.length ≤ 12
  ep : c.ep ≤ 1099511627776
  k1 : 1 ≤ c.k
  k2 : c.k ≤ 50
def itL (c : Cx) (fl : List Lt) : List It := fl.map fun x => ((x.dst : Int), txt c.ep c.l c.k x.frm x.cover x.zs)
theorem itL_len (c : Cx) (fl : List Lt) : (itL c fl).length = fl.length := List.length_map ..
end Tb
structure RunP (c : Cx) (r : Nat) (X : List Int) (al : List Nd) (W : World) (lab : Nat → Nat) (R : Nat) (sns : List Sn) (fl : List Lt) : Prop where
  e : ∃ en, RunE c W lab R true en sns (itL c fl) ∧ ∀ h : r < sns.length, en = sns[r].sent
  p : Pro c.l c.k X c.ps al sns fl
  l4 : ∀ x ∈ fl, (x.zs.length : Int) ≤ 4 * c.k - 1
  few : fl.length ≤ 24
theorem RunP.below {c : Cx} {r : Nat} {X : List Int} {al : List Nd} {W W' : World} {lab : Nat → Nat} {R : Nat} {sns : List Sn} {fl : List Lt} (h : RunP c r X al W lab R sns fl) (b : Below W.heap.size W W') : RunP c r X al W' lab R sns fl := by
  obtain ⟨en, h1, h2⟩ := h.e
  exact ⟨⟨en, h1.below b, h2⟩, h.p, h.l4, h.few⟩
namespace Tb
theorem Pro.zs8 {l k : Int} {X ps : List Int} {al : List Nd} {sns : List Sn} {fl : List Lt} (P : Pro l k X ps al sns fl) (hk : k ≤ 50) (i : Nat) (hi : i < sns.length) : sns[i].zs.length ≤ 400 := by
  have := (P.ti i hi).dg.room
  omega
theorem Pro.bits {l k : Int} {X ps : List Int} {al : List Nd} {sns : List Sn} {fl : List Lt} (P : Pro l k X ps al sns fl) (hn : ps.length ≤ 12) (i : Nat) (hi : i < sns.length) : sns[i].cover < 281474976710656 ∨ ¬ sns[i].live := by
  by_cases hl : sns[i].live
  · left
    have h12 : sns[i].cover < 2 ^ 12 := by
      apply Nat.lt_pow_two_of_testBit
      intro j hj
      cases h : sns[i].cover.testBit j
      · rfl
      · exfalso
        have hc := P.cov j
        rw [if_neg (by have := P.len; omega)] at hc
        have hb : ∀ (c : Nat) (its : List Nd), 0 ≤ bitF j c its := fun c its => by unfold bitF; split <;> decide
        have a1 := (sumS_le (f := bitF j) sns (fun s _ => hb _ _) i hi).1
        have a2 := sumT_nn (f := bitF j) fl (fun s _ => hb _ _)
        have hv : sns[i].val (bitF j) = 1 := by unfold Sn.val; rw [if_pos hl]; unfold bitF; rw [if_pos h]
        omega
    have : (2 : Nat) ^ 12 = 4096 := by decide
    omega
  · exact .inr hl
end Tb
theorem left_sent {sns : List Sn} {fl gl : List Lt} {i : Nat} (hi : i < sns.length) (s' : Sn) (h0 : sns[i].sent = false) (h1 : s'.sent = true) (hg : gl.length ≤ fl.length + 1) : left (sns.set i s') gl ≤ left sns fl := by
  have := uns_set sns i hi s'
  rw [h0, h1] at this
  simp only [Bool.false_eq_true, if_false, if_true] at this
  unfold left; omega
def StepP (c : Cx) (r : Nat) (X : List Int) (al : List Nd) (lab : Nat → Nat) (R : Nat) (sns : List Sn) (fl : List Lt) (i : Nat) (W W' : World) : Prop :=
  ∃ lab' sns' fl', RunP c r X al W' lab' R sns' fl' ∧ RFr lab lab' W W' ∧ (∀ h : i < sns'.length, ¬ sns'[i].ready) ∧ (∀ j (h : j < sns.length) (h' : j < sns'.length), j ≠ i → sns'[j] = sns[j]) ∧ sCells sns' = sCells sns ∧ left sns' fl' ≤ left sns fl
theorem g_one {c : Cx} {r : Nat} {X : List Int} {al : List Nd} {W : World} {lab : Nat → Nat} {R rb : Nat} {sns : List Sn} {fl : List Lt} (ok : CxOk c r) (P : RunP c r X al W lab R sns fl) (BR : Blk W rb #[.pointer (some ⟨R, 0, none⟩)] 35) (hrb : lab rb = 0) (i : Nat) (hi : i < sns.length) (hl : left sns fl ≤ 24) :
    Calls Tryz.prog 84 #[.int .i64 i, .pointer (some ⟨sns[i].b, 0, none⟩), .pointer (some ⟨rb, 0, none⟩)] W fun e W' => e = .returned (.tuple #[]) ∧ StepP c r X al lab R sns fl i W W' := by
  obtain ⟨en, ⟨V, pv, ov, sv, iv, M⟩, hen⟩ := P.e
  have hS := M.sn i hi
  have RD := sn_ready hS
  obtain ⟨b, eb⟩ : ∃ b, sns[i].b = b := ⟨_, rfl⟩
  cases hr : sns[i].rdy
  · rw [hr, eb] at RD
    have RD := hid RD
    have Q : Hid (∀ n, StepP c r X al lab R sns fl i W (W.drewN n)) := fun n =>
      have hb := below_drewN (Below.refl W.heap.size W) n
      ⟨lab, sns, fl, P.below hb, RFr.of_below hb, (fun h q => by rw [(sns[i].rdy_iff).2 q] at hr; cases hr), fun _ _ _ _ => rfl, rfl, nlr⟩
    rw [eb]
    clear M hS hr P hen eb
    go_enter Tryz.func84, Tryz.ntmps84
    go_wp2_with fail
    refine RD.out.mono ?_
    rintro e w1 ⟨rfl, n, rfl⟩
    go_wp2_with fail
    refine bodyPost_ret (results_none rfl _ _ _) rfl ?_
    exact ⟨rfl, Q.out n⟩
  · have hrd := (sns[i].rdy_iff).1 hr
    have hps : i < c.ps.length := by rw [← P.p.len]; exact hi
    have hlive : sns[i].live := .inl hrd.1
    have hcov : sns[i].cover < 281474976710656 := by
      rcases P.p.bits ok.n12 i hi with q | q
      · exact q
      · exact absurd hlive q
    have hz := P.p.zs8 ok.k2 i hi
    have hcom := (P.p.ti i hi).dg.com
    have hk2 := ok.k2
    have hn12 := ok.n12
    have SE := hid (fun W' (q : Below W.heap.size W W') => sn_send (hS.below q) hr (by omega) ok.ep hcov (P.p.own i hi) (by omega) (by omega))
    rw [hr, eb] at RD
    rw [eb] at SE ⊢
    have RD := hid RD
    obtain ⟨p, hp⟩ : ∃ p, c.ps.getD i 0 = p := ⟨_, rfl⟩
    obtain ⟨Z, eZ⟩ : ∃ Z, (comL c.l c.k sns[i].zs).1 = Z := ⟨_, rfl⟩
    rw [eZ] at SE
    obtain ⟨TX, eTX⟩ : ∃ t, txt c.ep c.l c.k i sns[i].cover Z = t := ⟨_, rfl⟩
    rw [eTX] at SE
    have HP := hid P
    have HM := hid M
    have HC := hid (And.intro hcom (And.intro hrd hen))
    have HB := hid eb
    have HPP := hid hp
    have HZ := hid eZ
    have HTX := hid eTX
    have HPS := hid hps
    have hps0 := ok.R.neg i hps
    rw [hp] at hps0
    have ROOT : Hid (p < 0 ↔ i = r) := by rw [← hp]; exact hid (ok.R.root i hps)
    clear P M hS hr hen eb hp eZ eTX hcom hrd hlive hcov hps
    go_enter Tryz.func84, Tryz.ntmps84
    go_wp2_with fail
    refine RD.out.mono ?_
    rintro e w1 ⟨rfl, n, rfl⟩
    have hb1 := below_drewN (Below.refl W.heap.size W) n
    have S1 := hid (SE.out _ hb1)
    have B1 := BR.below hb1 nlr
    have M1 := hid (HM.out.below hb1)
    have P1 := hid (HP.out.below hb1)
    have HF := hid (RFr.of_below (lab := lab) hb1)
    clear SE RD BR HM HP hb1
    generalize W.drewN n = w1 at *
    go_wp2_with fail
    refine S1.out.mono ?_
    rintro e w2 ⟨rfl, h', hS', hh, ch⟩
    obtain ⟨lab2, M2, F2⟩ := M1.out.sens i hi { sns[i] with h := h', zs := Z, its := sns[i].its, sent := true } ch (hS' _) rfl (fun b hb => by
      rcases hb with q | q | q | q | q
      · exact .inl (.inl q)
      · exact .inl (.inr (.inl q))
      · exact .inl (.inr (.inr (.inl q)))
      · exact .inl (.inr (.inr (.inr (.inl q))))
      · rcases hh with e | e
        · exact .inl (.inr (.inr (.inr (.inr (by rw [← e]; exact q)))))
        · have q : b = h' := q
          exact .inr (by omega))
    have hrl := B1.lt
    have hl2 : lab2 rb = 0 := by rw [F2.eq rb hrl]; exact hrb
    have B2 := B1.keep (F2.ch.block rb hrl (fun q => q hrb))
    have HF2 := hid (HF.out.trans F2)
    have HM2 := hid M2
    have r0 : w2.cell? ⟨rb, 0, none⟩ = some (.pointer (some ⟨R, 0, none⟩)) := B2.cell 0
    have c1 : w2.cell? ⟨R, 1, none⟩ = some pv := M2.blk.cell 1
    obtain ⟨pp, cpp, rfl⟩ := M2.pr.val
    obtain ⟨gp, off, p', rfl, ep', hgp, q0⟩ := M2.pr.at HPS.out
    rw [HPP.out] at ep'
    subst ep'
    have RR := M2.blk
    have c0 : w2.cell? ⟨R, 0, none⟩ = some (.pointer (some ⟨V, 0, none⟩)) := RR.cell 0
    have c5 : w2.cell? ⟨R, 5, none⟩ = some (.bool en) := RR.cell 5
    have f5 := RR.free 5
    have l5 := RR.lt
    have hpl : i < c.ps.length := HPS.out
    clear S1 hS' hh ch B1 M1 M2 F2 HF RR
    obtain ⟨NN, eNN⟩ : ∃ NN, c.ps.length = NN := ⟨_, rfl⟩
    have HNN := hid eNN
    rw [eNN] at hps0 c1 hpl HM2 hn12
    clear eNN
    by_cases hneg : p < 0
    · have z0 : decide (p < 0) = true := decide_eq_true hneg
      have HIR := hid (ROOT.out.1 hneg)
      have HNG := hid hneg
      clear hneg
      obtain ⟨M3, F3⟩ := HM2.out.box 5 (.bool true) (st' := true) (en' := true) rfl
      have Q : Hid (StepP c r X al lab R sns fl i W (w2.setCell ⟨R, 5, none⟩ (.bool true))) := by
        obtain ⟨hcom, hrd, hen⟩ := HC.out
        refine ⟨lab2, sns.set i { sns[i] with h := h', zs := Z, its := sns[i].its, sent := true }, fl, ⟨⟨true, ⟨V, _, _, _, _, M3⟩, fun h => ?_⟩, P1.out.p.done i hi hrd (by rw [HPP.out]; exact HNG.out) _ rfl rfl rfl rfl rfl HZ.out.symm rfl, P1.out.l4, P1.out.few⟩, HF2.out.trans F3, fun h q => ?_, fun j h h' hne => List.getElem_set_ne (Ne.symm hne) _, sCells_set sns i hi _ rfl, left_sent hi _ hrd.1 rfl (by omega)⟩
        · have hir := HIR.out
          subst hir
          simp only [List.getElem_set_self]
        · have q1 := q.1
          simp only [List.getElem_set_self] at q1
          cases q1
      clear HM2 M3 F3 HF2 HC P1
      go_wp2_with fail
      go_end0
      exact ⟨rfl, Q.out⟩
    · have z0 : decide (p < 0) = false := decide_eq_false hneg
      have hp0 : 0 ≤ p := by omega
      have HNE := hid hneg
      clear c5 f5 hneg
      go_upto_region 2 with fail
      go_still_tail 13, (by kernel_rfl)
      change wpList _ _ _ _ _ w2.drew
      have hb3 : Below w2.heap.size w2 w2.drew := below_drewN (Below.refl _ _) 1
      have M3 := hid (HM2.out.below hb3)
      have P3 := hid P1
      generalize w2.drew = w3 at *
      have hfl : (itL c fl).length ≤ 200 := by rw [itL_len]; unfold left at hl; omega
      have SD := hid (wv_send M3.out.wv hfl p TX)
      go_wp2_with fail
      refine SD.out.mono ?_
      rintro e w4 ⟨rfl, T4⟩
      have Q : Hid (StepP c r X al lab R sns fl i W w4) := by
        obtain ⟨lab4, iv4, M4, F4⟩ := M3.out.wave T4
        obtain ⟨hcom, hrd, hen⟩ := HC.out
        obtain ⟨q, rfl⟩ := Int.eq_ofNat_of_zero_le hp0
        have hpq := HPP.out
        have hn : NN = sns.length := HNN.out.symm.trans P3.out.out.p.len.symm
        have e1 : itL c (fl ++ [⟨i, q, sns[i].cover, Z, sns[i].its⟩]) = itL c fl ++ [((q : Int), TX)] := by
          unfold itL
          rw [List.map_append, ← HTX.out]; rfl
        have P4 := P3.out.out.p.send i hi hrd (by rw [hpq]; exact hp0) (by rw [hpq]; omega) { sns[i] with h := h', zs := Z, its := sns[i].its, sent := true } rfl rfl rfl rfl rfl HZ.out.symm rfl
        rw [hpq] at P4
        have hL := left_sent hi { sns[i] with h := h', zs := Z, its := sns[i].its, sent := true } (fl := fl) (gl := fl ++ [⟨i, q, sns[i].cover, Z, sns[i].its⟩]) hrd.1 rfl (by rw [List.length_append]; exact nlr)
        refine ⟨lab4, sns.set i { sns[i] with h := h', zs := Z, its := sns[i].its, sent := true }, fl ++ [⟨i, q, sns[i].cover, Z, sns[i].its⟩], ⟨⟨en, ⟨V, _, _, _, _, by rw [e1]; exact M4⟩, fun h => ?_⟩, P4, fun x hx => ?_, ?_⟩, (HF2.out.trans (RFr.of_below hb3)).trans F4, fun h q => ?_, fun j h h' hne => List.getElem_set_ne (Ne.symm hne) _, sCells_set sns i hi _ rfl, hL⟩
        · have hir : i ≠ r := fun e => by have := ROOT.out.2 e; omega
          rw [List.getElem_set_ne hir]
          exact hen _
        · rcases List.mem_append.1 hx with hx | hx
          · exact P3.out.out.l4 x hx
          · rw [List.mem_singleton.1 hx]
            have h4 := hcom.2.2.2.1
            rw [HZ.out] at h4
            exact h4
        · unfold left at hL hl; omega
        · have q1 := q.1
          simp only [List.getElem_set_self] at q1
          cases q1
      clear HM2 M3 HF2 HC P1 P3 T4
      go_wp2_with fail
      go_end0
      exact ⟨rfl, Q.out⟩
def GoRel (c : Cx) (r : Nat) (X : List Int) (al : List Nd) (lab : Nat → Nat) (R : Nat) (sns0 : List Sn) (fl0 : List Lt) (W : World) (gn : Nat) (i : Value) (wr : World) : Prop :=
  ∃ (j : Nat) (lab' : Nat → Nat) (sns : List Sn) (fl : List Lt), i = .int .i64 j ∧ j + gn = c.os.length ∧ RunP c r X al wr lab' R sns fl ∧ RFr lab lab' W wr ∧ (∀ x, x ∈ c.os.take j → ∀ h : x < sns.length, ¬ sns[x].ready) ∧ sCells sns = sCells sns0 ∧ left sns fl ≤ left sns0 fl0
theorem sCells_len {sns sns' : List Sn} (h : sCells sns = sCells sns') : sns.length = sns'.length := by
  have := congrArg List.length h
  unfold sCells at this
  simpa using this
theorem toI_get (os : List Nat) (j : Nat) (h : j < os.length) : (toI os).getD j 0 = (os[j] : Nat) := by
  unfold toI
  simp [List.getD, List.getElem?_eq_getElem h]
theorem g_each {c : Cx} {r : Nat} {X : List Int} {al : List Nd} {W : World} {lab : Nat → Nat} {R rb : Nat} {sns : List Sn} {fl : List Lt} (ok : CxOk c r) (P : RunP c r X al W lab R sns fl) (BR : Blk W rb #[.pointer (some ⟨R, 0, none⟩)] 35) (hrb : lab rb = 0) (hl : left sns fl ≤ 24) :
    Calls Tryz.prog 83 #[.pointer (some ⟨R, 0, none⟩), .func (.func 84) #[] #[.pointer (some ⟨rb, 0, none⟩)]] W fun e W' => e = .returned (.tuple #[]) ∧ ∃ lab' sns' fl', RunP c r X al W' lab' R sns' fl' ∧ RFr lab lab' W W' ∧ (∀ x (h : x < sns'.length), ¬ sns'[x].ready) ∧ sCells sns' = sCells sns ∧ left sns' fl' ≤ left sns fl := by
  have hall := ok.O.all ok.R
  have hnd := ok.O.nd
  have hlen := ok.O.len
  have hn12 := ok.n12
  have R0 : Hid (GoRel c r X al lab R sns fl W c.os.length (.int .i64 (0 : Nat)) W) := ⟨0, lab, sns, fl, rfl, by omega, P, RFr.refl _ _, fun x hx => by simp at hx, rfl, nlr⟩
  have HP := hid P
  obtain ⟨en, ⟨V, pv, ov, sv, iv, M⟩, hen⟩ := P.e
  have EO := hid M.eo
  obtain ⟨po, co, rfl⟩ := M.ord.val
  rw [toI_len] at M EO
  have c2 : W.cell? ⟨R, 2, none⟩ = some (.slice po c.os.length co) := M.blk.cell 2
  have hR1 := M.lR
  have hRl := M.blk.lt
  have HALL := hid hall
  have HND := hid hnd
  have hrl := BR.lt
  obtain ⟨N, eN⟩ : ∃ N, c.os.length = N := ⟨_, rfl⟩
  have EN := hid eN
  rw [eN] at hlen c2 R0 EO
  have HBR := hid BR
  clear eN hall hnd M P hen BR
  go_enter Tryz.func83, Tryz.ntmps83
  go_wp2_with fail
  go_loopg [11] N (fun gn i wr => GoRel c r X al lab R sns fl W gn i wr)
  case atStart => exact R0.out
  case round =>
    obtain ⟨j, lab1, sns1, fl1, rfl, hj, P1, F1, hnr, hsc, hlf⟩ := hrel
    rw [EN.out] at hj
    clear R0
    obtain ⟨en1, E1, hen1⟩ := P1.e
    have hn1 := sCells_len hsc
    have hrb1 : lab1 rb = 0 := by rw [F1.eq rb hrl]; exact hrb
    have B1 := HBR.out.keep (F1.ch.block rb hrl (fun q => q hrb))
    obtain ⟨V1, pv1, ov1, sv1, iv1, M1⟩ := E1
    have e2 : wr.cell? ⟨R, 2, none⟩ = some (.slice po N co) := by
      have := M1.blk.cell 2
      rw [M1.eo, ← EO.out] at this
      exact this
    have HO1 : RdI wr (.slice po N co) (toI c.os) := by
      have := M1.ord
      rw [M1.eo, ← EO.out] at this
      exact this
    have HF := hid F1
    have HE := hid hsc
    have HL := hid hlf
    have HNR := hid hnr
    have HP1 := hid P1
    cases gk with
    | zero =>
      have z0 : decide ((j : Int) < (N : Int)) = false := decide_eq_false (by omega)
      have Q : Hid (∃ lab' sns' fl', RunP c r X al wr lab' R sns' fl' ∧ RFr lab lab' W wr ∧ (∀ x (h : x < sns'.length), ¬ sns'[x].ready) ∧ sCells sns' = sCells sns ∧ left sns' fl' ≤ left sns fl) := by
        refine ⟨lab1, sns1, fl1, HP1.out, HF.out, fun x h => HNR.out x ?_ h, HE.out, HL.out⟩
        rw [List.take_of_length_le (by rw [EN.out]; omega)]
        exact (HALL.out x).2 (by have := HP1.out.p.len; omega)
      clear P1 M1 hen1 F1 hnr hsc hlf HO1 B1
      go_wp2_with fail
      go_end0
      exact ⟨rfl, Q.out⟩
    | succ gn =>
      have hjN : j < N := by omega
      have hjo : j < c.os.length := by rw [EN.out]; exact hjN
      have z0 : decide ((j : Int) < (N : Int)) = true := decide_eq_true (by omega)
      obtain ⟨go, off, a, rfl, ea, hgo, q0⟩ := HO1.at (k := j) (by rw [toI_len]; exact hjo)
      rw [toI_get c.os j hjo] at ea
      subst ea
      obtain ⟨x, ex⟩ : ∃ x, c.os[j] = x := ⟨_, rfl⟩
      have hxn : x < c.ps.length := (HALL.out x).1 (by rw [← ex]; exact List.getElem_mem hjo)
      have hx1 : x < sns1.length := by have := HP1.out.p.len; omega
      rw [ex] at q0
      obtain ⟨gs, caps, rfl, q1, hgs, hns⟩ := M1.at x hx1
      have c3 : wr.cell? ⟨R, 3, none⟩ = some (.slice (some ⟨gs, 0, none⟩) sns1.length caps) := M1.blk.cell 3
      have ONE := hid (g_one ok HP1.out B1 hrb1 x hx1 (by have := HL.out; omega))
      have EX := hid ex
      obtain ⟨b, eb⟩ : ∃ b, sns1[x].b = b := ⟨_, rfl⟩
      rw [eb] at ONE q1
      obtain ⟨n1, en1'⟩ : ∃ n, sns1.length = n := ⟨_, rfl⟩
      rw [en1'] at c3 hns
      have hxn1 : x < n1 := by omega
      clear P1 M1 hen1 F1 hnr hsc hlf HO1 B1 ex eb en1' c2
      go_wp2_with fail
      refine ONE.out.mono ?_
      rintro e w2 ⟨rfl, lab2, sns2, fl2, P2, F2, hn2, hs2, hc2, hl2⟩
      have R1 : Hid (GoRel c r X al lab R sns fl W gn (.int .i64 ((j : Int) + 1)) w2) := by
        refine ⟨j + 1, lab2, sns2, fl2, by simp, by rw [EN.out]; omega, P2, HF.out.trans F2, fun y hy h => ?_, hc2.trans HE.out, by have := HL.out; omega⟩
        rw [List.take_succ_eq_append_getElem hjo, List.mem_append] at hy
        by_cases hyx : y = x
        · subst hyx; exact hn2 h
        · rcases hy with hy | hy
          · have h1 : y < sns1.length := by rw [← sCells_len hc2]; exact h
            rw [hs2 y h1 h hyx]
            exact HNR.out y hy h1
          · rw [List.mem_singleton.1 hy, EX.out] at hyx
            exact absurd rfl hyx
      clear P2 F2 hn2 hs2 hc2 ONE
      go_wp2_with fail
      go_roundg gn
      case rel => exact R1.out
      case measure => omega
def OnP (c : Cx) (r : Nat) (X : List Int) (al : List Nd) (lab : Nat → Nat) (R : Nat) (sns : List Sn) (fl : List Lt) (W W' : World) : Prop :=
  ∃ lab' sns' fl', RunP c r X al W' lab' R sns' fl' ∧ RFr lab lab' W W' ∧ (∀ x (h : x < sns'.length), ¬ sns'[x].ready) ∧ sCells sns' = sCells sns ∧ left sns' fl' ≤ left sns fl
theorem g_on {c : Cx} {r : Nat} {X : List Int} {al : List Nd} {W : World} {lab : Nat → Nat} {R : Nat} {sns : List Sn} {fl : List Lt} (ok : CxOk c r) (P : RunP c r X al W lab R sns fl) (hl : left sns fl ≤ 24) :
    Calls Tryz.prog 37 #[.pointer (some ⟨R, 0, none⟩)] W fun e W' => e = .returned (.tuple #[]) ∧ OnP c r X al lab R sns fl W W' := by
  have B1 := Blk.new W #[.pointer (some ⟨R, 0, none⟩)] 35
  have hb1 : Below W.heap.size W (W.alloc (.cells #[.pointer (some ⟨R, 0, none⟩)] 35)) := (Below.refl _ _).alloc nlr _
  have hnew : lab W.heap.size = 0 := by
    obtain ⟨en, ⟨V, pv, ov, sv, iv, M⟩, hen⟩ := P.e
    exact M.new _ nlr
  have EA := hid (g_each ok (P.below hb1) B1 hnew hl)
  clear P
  go_enter Tryz.func37, Tryz.ntmps37
  go_wp2_with fail
  refine EA.out.mono ?_
  rintro e w2 ⟨rfl, lab', sns', fl', P2, F2, h3, h4, h5⟩
  have Q : Hid (OnP c r X al lab R sns fl W w2) := ⟨lab', sns', fl', P2, (RFr.of_below hb1).trans F2, h3, h4, h5⟩
  clear P2 F2 h3 h4 h5 EA
  go_wp2_with fail
  go_end0
  exact ⟨rfl, Q.out⟩
theorem re_start {c : Cx} {r : Nat} {X : List Int} {al : List Nd} {W : World} {lab : Nat → Nat} {R : Nat} {sns : List Sn} (ok : CxOk c r) (E : RunE c W lab R false false sns []) (P : Pro c.l c.k X c.ps al sns []) (hu : ∀ j (hj : j < sns.length), sns[j].sent = false) :
    Calls Tryz.prog 10 #[.pointer (some ⟨R, 0, none⟩)] W fun e W' => e = .returned (.int .i64 0) ∧ OnP c r X al lab R sns [] W W' := by
  obtain ⟨V, pv, ov, sv, iv, M⟩ := E
  have c4 : W.cell? ⟨R, 4, none⟩ = some (.bool false) := M.blk.cell 4
  have f4 := M.blk.free 4
  have l4 := M.blk.lt
  obtain ⟨M2, F2⟩ := M.box 4 (.bool true) (st' := true) (en' := false) rfl
  have hL : left sns [] ≤ 24 := by
    have := uns_le sns
    have := P.len
    have := ok.n12
    unfold left
    simp only [List.length_nil]
    omega
  have P2 : RunP c r X al (W.setCell ⟨R, 4, none⟩ (.bool true)) lab R sns [] := ⟨⟨false, ⟨V, pv, ov, sv, iv, M2⟩, fun h => (hu r h).symm⟩, P, (fun x hx => by cases hx), by simp⟩
  have GO := hid (g_on ok P2 hL)
  have HF := hid F2
  clear M M2 F2 P P2 hu
  go_enter Tryz.func10, Tryz.ntmps10
  go_wp2_with fail
  refine GO.out.mono ?_
  rintro e w2 ⟨rfl, lab', sns', fl', P2, F2, h3, h4, h5⟩
  have Q : Hid (OnP c r X al lab R sns [] W w2) := ⟨lab', sns', fl', P2, HF.out.trans F2, h3, h4, h5⟩
  clear P2 F2 h3 h4 h5 GO
  go_wp2_with fail
  go_ret
  exact ⟨rfl, Q.out⟩
end Go.Proofs.YtdnlejboijkcfaaGreatDoor
