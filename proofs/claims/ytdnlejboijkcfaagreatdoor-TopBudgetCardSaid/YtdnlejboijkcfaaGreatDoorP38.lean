/- Texts laid together. -/
import Derived.Test.YtdnlejboijkcfaaGreatDoorP37
import Derived.Test.YtdnlejboijkcfaaGreatDoorP12
import Derived.StillTailTactics
/- A run: a letter arrives; the result. -/
namespace Go.Proofs.YtdnlejboijkcfaaGreatDoor
set_option maxHeartbeats 8000000
set_option maxRecDepth 100000
open Go.RowKit Nl Tb
namespace Tb
theorem lt12 {s : Nat} {n : Nat} (hn : n ≤ 12) (h : ∀ j, s.testBit j = true → j < n) : s < 281474976710656 := by
  have h12 : s < 2 ^ 12 := by
    apply Nat.lt_pow_two_of_testBit
    intro j hj
    cases q : s.testBit j
    · rfl
    · have := h j q; omega
  have : (2 : Nat) ^ 12 = 4096 := by decide
  omega
theorem Pro.kids12 {l k : Int} {X ps : List Int} {al : List Nd} {sns : List Sn} {fl : List Lt} (P : Pro l k X ps al sns fl) (hn : ps.length ≤ 12) (i : Nat) (hi : i < sns.length) : sns[i].kids < 281474976710656 ∧ sns[i].heard < 281474976710656 :=
  ⟨lt12 hn fun j hj => ((P.kids i hi j).1 hj).1, lt12 hn fun j hj => ((P.kids i hi j).1 (P.hs i hi j hj).1).1⟩
theorem Pro.let12 {l k : Int} {X ps : List Int} {al : List Nd} {sns : List Sn} {fl : List Lt} {x : Lt} (P : Pro l k X ps al sns (fl ++ [x])) (hn : ps.length ≤ 12) (h0 : 0 < sns.length) : x.cover < 281474976710656 := lt12 hn fun j hj => by
  rcases Nat.lt_or_ge j ps.length with q | q
  · exact q
  · exfalso
    have hc := P.cov j
    rw [if_neg (by have := P.len; omega), sumT_app] at hc
    have hb : ∀ (c : Nat) (its : List Nd), 0 ≤ bitF j c its := fun c its => by unfold bitF; split <;> decide
    have a1 := (sumS_le (f := bitF j) sns (fun s _ => hb _ _) 0 h0).2
    have a2 := sumT_nn (f := bitF j) fl (fun s _ => hb _ _)
    have b2 : bitF j x.cover x.its = 1 := by unfold bitF; rw [if_pos hj]
    simp only [sumT] at hc
    omega
end Tb
def DelP (c : Cx) (r : Nat) (X : List Int) (al : List Nd) (lab : Nat → Nat) (R : Nat) (sns : List Sn) (n : Nat) (W W' : World) : Prop :=
  ∃ lab' sns' fl', RunP c r X al W' lab' R sns' fl' ∧ RFr lab lab' W W' ∧ (∀ x (h : x < sns'.length), ¬ sns'[x].ready) ∧ sCells sns' = sCells sns ∧ left sns' fl' < n
theorem re_deliver {c : Cx} {r : Nat} {X : List Int} {al : List Nd} {W : World} {lab : Nat → Nat} {R : Nat} {sns : List Sn} {fl : List Lt} {x : Lt} (ok : CxOk c r) (P : RunP c r X al W lab R sns (fl ++ [x])) (hl : left sns (fl ++ [x]) ≤ 24) :
    Calls Tryz.prog 13 #[.pointer (some ⟨R, 0, none⟩), .int .i64 fl.length] W fun e W' => e = .returned (.int .i64 0) ∧ DelP c r X al lab R sns (left sns (fl ++ [x])) W W' := by
  obtain ⟨en, ⟨V, pv, ov, sv, iv, M⟩, hen⟩ := P.e
  have EY := hid (re_early (c := c) (W := W) (lab := lab) (R := R) ⟨V, pv, ov, sv, iv, M⟩)
  have eI : itL c (fl ++ [x]) = itL c fl ++ [((x.dst : Int), txt c.ep c.l c.k x.frm x.cover x.zs)] := by unfold itL; rw [List.map_append]; rfl
  rw [eI] at M
  have hfl : fl.length ≤ 24 := by unfold left at hl; rw [List.length_append] at hl; simp at hl; omega
  have TK := wv_take M.wv (by rw [itL_len]; omega)
  rw [itL_len] at TK
  obtain ⟨hto, hfrm, hst, hkd, hhd, hap, hsum⟩ := P.p.come
  have hxm : x ∈ fl ++ [x] := List.mem_append_right _ (List.mem_singleton.2 rfl)
  have tx := P.p.tif x hxm
  have ts := P.p.ti x.dst hto
  have h4 := P.l4 x hxm
  have hk1 := ok.k1
  have hk2 := ok.k2
  have hn12 := ok.n12
  have hlen := P.p.len
  have hz := P.p.zs8 ok.k2 x.dst hto
  have hlv : sns[x.dst].live := .inl hst
  have hcv : sns[x.dst].cover < 281474976710656 := by
    rcases P.p.bits ok.n12 x.dst hto with q | q
    · exact q
    · exact absurd hlv q
  have hkd12 := P.p.kids12 ok.n12 x.dst hto
  have hx12 := P.p.let12 ok.n12 (by omega)
  have HR := hid (fun W' (y : SnV W' c.kind c.l c.k c.wait c.ep x.dst sns[x.dst]) => sn_hear y x.frm x.cover tx.dg ok.ep hst hkd hhd (apart_and hap) (P.p.fown x hxm) (by omega) hkd12.1 hkd12.2 hcv hx12 (by omega) (by omega) (by rw [← ts.sum, ← tx.sum]; exact hsum))
  obtain ⟨TX, eTX⟩ : ∃ t, txt c.ep c.l c.k x.frm x.cover x.zs = t := ⟨_, rfl⟩
  rw [eTX] at TK HR M
  have HTK := hid TK
  obtain ⟨b, eb⟩ : ∃ b, sns[x.dst].b = b := ⟨_, rfl⟩
  rw [eb] at HR
  have EB := hid eb
  have HP := hid P
  have HM := hid M
  have HEN := hid hen
  have c0 : W.cell? ⟨R, 0, none⟩ = some (.pointer (some ⟨V, 0, none⟩)) := M.blk.cell 0
  clear TK M P eI hen tx ts h4 hkd hhd hap hsum hst hlv hcv hkd12 hx12 eTX eb hz
  go_enter Tryz.func13, Tryz.ntmps13
  go_wp2_with fail
  refine EY.out.mono ?_
  rintro e w1 ⟨rfl, rfl⟩
  go_wp2_with fail
  refine HTK.out.mono ?_
  rintro e w2 ⟨rfl, T2⟩
  obtain ⟨lab2, iv2, M2, F2⟩ := HM.out.wave T2
  obtain ⟨gs, caps, rfl, q1, hgs, hns⟩ := M2.at x.dst hto
  have c3 : w2.cell? ⟨R, 3, none⟩ = some (.slice (some ⟨gs, 0, none⟩) sns.length caps) := M2.blk.cell 3
  rw [EB.out] at q1
  have H2 := hid (HR.out w2 (M2.sn x.dst hto))
  have HM2 := hid M2
  have HF2 := hid F2
  obtain ⟨d, ed⟩ : ∃ d, x.dst = d := ⟨_, rfl⟩
  have ED := hid ed
  rw [ed] at q1 ⊢
  have hdn : d < sns.length := by rw [← ed]; exact hto
  obtain ⟨n, en'⟩ : ∃ n, sns.length = n := ⟨_, rfl⟩
  rw [en'] at c3 hdn hns
  clear T2 M2 F2 HTK EY c0 ed en'
  go_wp2_with fail
  refine H2.out.mono ?_
  rintro e w3 ⟨rfl, dg, q, g, h, hS, hfr, ch⟩
  obtain ⟨lab3, M3, F3⟩ := HM2.out.sens x.dst hto (sns[x.dst].hrd dg q g h x.frm x.cover (mergeL c.l c.k sns[x.dst].zs x.zs) (pourR sns[x.dst].its x.its)) ch (hS _) rfl (fun b hb => by
    rcases hb with e1 | e1 | e1 | e1 | e1
    · exact .inl (.inl e1)
    · have e1 : b = dg := e1
      exact .inr (by omega)
    · have e1 : b = q := e1
      exact .inr (by omega)
    · have e1 : b = g := e1
      exact .inr (by omega)
    · have e1 : b = h := e1
      exact .inr (by omega))
  have P3 : RunP c r X al w3 lab3 R (sns.set x.dst (sns[x.dst].hrd dg q g h x.frm x.cover (mergeL c.l c.k sns[x.dst].zs x.zs) (pourR sns[x.dst].its x.its))) fl := by
    refine ⟨⟨en, ⟨V, _, _, _, _, M3⟩, fun hh => ?_⟩, HP.out.p.hear ok.k1 hto _ rfl rfl rfl rfl rfl rfl rfl, fun y hy => HP.out.l4 y (List.mem_append_left _ hy), hfl⟩
    by_cases e : x.dst = r
    · subst e
      simp only [List.getElem_set_self]
      exact HEN.out hto
    · rw [List.getElem_set_ne e]
      exact HEN.out _
  have hL : left (sns.set x.dst (sns[x.dst].hrd dg q g h x.frm x.cover (mergeL c.l c.k sns[x.dst].zs x.zs) (pourR sns[x.dst].its x.its))) fl < left sns (fl ++ [x]) := by
    have := uns_set sns x.dst hto (sns[x.dst].hrd dg q g h x.frm x.cover (mergeL c.l c.k sns[x.dst].zs x.zs) (pourR sns[x.dst].its x.its))
    have e : (sns[x.dst].hrd dg q g h x.frm x.cover (mergeL c.l c.k sns[x.dst].zs x.zs) (pourR sns[x.dst].its x.its)).sent = sns[x.dst].sent := rfl
    rw [e] at this
    unfold left
    rw [List.length_append]
    simp only [List.length_cons, List.length_nil]
    omega
  have GO := hid (g_on ok P3 (by omega))
  have HC3 : Hid (sCells (sns.set x.dst (sns[x.dst].hrd dg q g h x.frm x.cover (mergeL c.l c.k sns[x.dst].zs x.zs) (pourR sns[x.dst].its x.its))) = sCells sns) := hid (sCells_set sns x.dst hto _ rfl)
  have HF3 := hid (HF2.out.trans F3)
  generalize sns.set x.dst (sns[x.dst].hrd dg q g h x.frm x.cover (mergeL c.l c.k sns[x.dst].zs x.zs) (pourR sns[x.dst].its x.its)) = S3 at *
  clear P3 M3 F3 hS hfr ch H2 HM2 HF2 HP HM q1 c3
  go_wp2_with fail
  refine GO.out.mono ?_
  rintro e w4 ⟨rfl, lab4, sns4, fl4, P4, F4, h3, h4, h5⟩
  have Q : Hid (DelP c r X al lab R sns (left sns (fl ++ [x])) W w4) := ⟨lab4, sns4, fl4, P4, HF3.out.trans F4, h3, h4.trans HC3.out, by omega⟩
  clear P4 F4 h3 h4 h5 GO
  go_wp2_with fail
  go_ret
  exact ⟨rfl, Q.out⟩
theorem re_result {c : Cx} {r : Nat} {X : List Int} {al : List Nd} {W : World} {lab : Nat → Nat} {R : Nat} {sns : List Sn} {fl : List Lt} (ok : CxOk c r) (P : RunP c r X al W lab R sns fl) (hr : r < sns.length) (hs : sns[r].sent = true) :
    Calls Tryz.prog 14 #[.pointer (some ⟨R, 0, none⟩)] W fun e W' => ∃ dg q g h, e = .returned (.tuple #[.pointer (some ⟨dg, 0, none⟩), .int .u64 sns[r].cover, .int .i64 0]) ∧ DgV W' dg q g h c.kind c.l c.k 20000 sns[r].zs ∧ (W.heap.size ≤ dg ∧ W.heap.size ≤ q ∧ W.heap.size ≤ g ∧ W.heap.size ≤ h) ∧ Below W.heap.size W W' := by
  obtain ⟨en, ⟨V, pv, ov, sv, iv, M⟩, hen⟩ := P.e
  have hen2 := hen hr
  clear hen
  rw [hs] at hen2
  subst hen2
  obtain ⟨zs0, ez⟩ := ok.O.last
  have hol : c.os.length = zs0.length + 1 := by rw [ez]; simp
  have hog : (toI c.os).getD zs0.length 0 = r := by rw [toI_get c.os _ (by omega)]; simp [ez]
  obtain ⟨po, co, rfl⟩ := M.ord.val
  obtain ⟨go, off, a, rfl, ea, hgo, q0⟩ := M.ord.at (k := zs0.length) (by rw [toI_len]; omega)
  rw [hog] at ea
  subst ea
  have hlt : c.os.length ≤ 12 := by have := ok.O.len; have := ok.n12; omega
  have c2 : W.cell? ⟨R, 2, none⟩ = some (.slice (some ⟨go, off, none⟩) (toI c.os).length co) := M.blk.cell 2
  rw [toI_len, hol] at c2
  obtain ⟨gs, caps, rfl, q1, hgs, hns⟩ := M.at r hr
  have c3 : W.cell? ⟨R, 3, none⟩ = some (.slice (some ⟨gs, 0, none⟩) sns.length caps) := M.blk.cell 3
  have c5 : W.cell? ⟨R, 5, none⟩ = some (.bool true) := M.blk.cell 5
  have DG := hid (fun W' (y : Below W.heap.size W W') => sn_digest ((M.sn r hr).below y))
  have CV := hid (fun W' (y : Below W.heap.size W W') => sn_cover ((M.sn r hr).below y))
  generalize zs0.length = m at *
  obtain ⟨b, eb⟩ : ∃ b, sns[r].b = b := ⟨_, rfl⟩
  rw [eb] at DG CV q1
  obtain ⟨cv, ecv⟩ : ∃ b, sns[r].cover = b := ⟨_, rfl⟩
  rw [ecv] at CV ⊢
  obtain ⟨n, en'⟩ : ∃ n, sns.length = n := ⟨_, rfl⟩
  have hrn : r < n := by omega
  rw [en'] at c3 hns
  have hw : IntKind.i64.wrap (((m + 1 : Nat) : Int) - 1) = (m : Int) := by rw [IntWalk.i64_in _ ⟨by omega, by omega⟩]; omega
  have hw2 : IntKind.i64.wrap (((m : Int) + 1) - 1) = (m : Int) := by rw [IntWalk.i64_in _ ⟨by omega, by omega⟩]; omega
  have hm0 : m < m + 1 := by omega
  have hw3 : IntKind.i64.wrap (m : Int) = (m : Int) := IntWalk.i64_in _ ⟨by omega, by omega⟩
  clear M P ok hs eb ecv en' hog hol ez hlt
  go_enter Tryz.func14, Tryz.ntmps14
  go_upto_region 5 with fail
  go_quiet (fail)
  have hb1 := below_drewN (Below.refl W.heap.size W) nq
  have D1 := hid (DG.out _ hb1)
  clear q0 q1 c2 c3 c5 hw hw2 hw3 DG
  generalize W.drewN nq = w1 at *
  go_wp2_with fail
  refine D1.out.mono ?_
  rintro e w2 ⟨dg, q, g, h, rfl, d2, e1, e2, e3, e4, hb2⟩
  have hs1 := hb1.size
  have hb3 := hb1.trans (hb2.mono hb1.size)
  have C1 := hid (CV.out _ hb3)
  have HD := hid d2
  have hfr : W.heap.size ≤ dg ∧ W.heap.size ≤ q ∧ W.heap.size ≤ g ∧ W.heap.size ≤ h := by omega
  clear d2 D1 CV
  go_wp2_with fail
  refine C1.out.mono ?_
  rintro e w3 ⟨rfl, rfl⟩
  go_wp2_with fail
  exact bodyPost_ret (v := .tuple #[.pointer (some ⟨dg, 0, none⟩), .int .u64 cv, .int .i64 0]) (by simp [results, Tryz.results14, go_sem]) rfl ⟨dg, q, g, h, rfl, HD.out, hfr, hb3⟩
end Go.Proofs.YtdnlejboijkcfaaGreatDoor

/- A sensor is made. -/
namespace Go.Proofs.YtdnlejboijkcfaaGreatDoor
set_option maxHeartbeats 8000000
set_option maxRecDepth 100000
open Go.RowKit Nl Tb
theorem i_clone {v : Value} {xs : List Int} (w : World) (hr : RdI w v xs) (hn : xs.length < 1048576) :
    Calls Tryz.prog 30 #[v] w fun e w' => ∃ v', e = .returned v' ∧ OwnI w' w.heap.size v' xs ∧ Below w.heap.size w w' := by
  rcases hr with ⟨rfl, rfl⟩ | ⟨a, cap, rfl, rfl⟩ | ⟨g, off, cap, rfl, hg, hc, hcells⟩
  · have e1 := fun w0 : World => Lib.run_eql_slice_nil (P := Tryz.prog) w0 22 3 none 0 0 0 0 Tryz.underlying22
    go_enter Tryz.func30, Tryz.ntmps30
    go_wp2_with fail
    go_ret
    exact ⟨_, rfl, OwnI.nil _ _, Below.refl _ _⟩
  · have e1 := fun w0 : World => Lib.run_eql_slice_nil (P := Tryz.prog) w0 22 3 (some a) 0 cap 0 0 Tryz.underlying22
    go_enter Tryz.func30, Tryz.ntmps30
    have hb0 : Below w.heap.size w (w.alloc (.cells #[] 3)) := (Below.refl _ _).alloc nlr _
    have ho : OwnI (w.alloc (.cells #[] 3)) w.heap.size (.slice (some ⟨w.heap.size, 0, none⟩) 0 0) [] := World.ownsRow_made w #[] 0 nlr (by decide) rfl
    go_wp2_with fail
    go_ret
    exact ⟨_, rfl, ho, hb0⟩
  · have hA : RdI w (.slice (some ⟨g, off, none⟩) xs.length cap) xs := .inr (.inr ⟨g, off, cap, rfl, hg, hc, hcells⟩)
    clear hcells
    have e1 := fun w0 : World => Lib.run_eql_slice_nil (P := Tryz.prog) w0 22 3 (some ⟨g, off, none⟩) xs.length cap 0 0 Tryz.underlying22
    go_enter Tryz.func30, Tryz.ntmps30
    have hb0 : Below w.heap.size w (w.alloc (.cells #[] 3)) := (Below.refl _ _).alloc nlr _
    have ho : OwnI (w.alloc (.cells #[] 3)) w.heap.size (.slice (some ⟨w.heap.size, 0, none⟩) 0 0) [] := World.ownsRow_made w #[] 0 nlr (by decide) rfl
    go_wp2_with (at_builtin; refine appendsI _ _ ho (hA.alloc _) (by simp; omega) (by simp) rfl rfl rfl rfl ?_; intro v1 w1 ho1 hg1)
    go_ret
    rw [List.nil_append] at ho1
    exact ⟨_, rfl, ho1, hb0.trans (below_grown hg1 (by simp) ho.lt)⟩
def Tb.waitB (wait : Int) : Bool := decide (1 ≤ wait ∧ wait ≤ 1048576)
theorem sn_right {w : World} (i kd : Nat) (wait : Int) (hi : i < 48) (hk : kd < 281474976710656) (hn : kd.testBit i = false) :
    Calls Tryz.prog 81 #[.agg #[.int .i64 i, .int .u64 kd, .int .i64 wait]] w fun e w' => e = .returned (.bool (waitB wait)) ∧ Below w.heap.size w w' := by
  have X1 := Blk.new w #[.int .i64 i, .int .u64 kd, .int .i64 wait] 85
  have hb1 : Below w.heap.size w (w.alloc (.cells #[.int .i64 i, .int .u64 kd, .int .i64 wait] 85)) := (Below.refl _ _).alloc nlr _
  have CO := hid (fun W B T (X : Blk W B #[.int .i64 i] T) => cw_of hi X)
  have CR := hid (fun W => cw_right kd W (by rw [two48]; exact hk))
  have CH := hid (fun W => cw_has kd i W (by rw [two48]; exact hk) hi)
  rw [hn] at CH
  have HI := hid hi
  have HK := hid hk
  obtain ⟨W1, eW⟩ : ∃ W1, (w.alloc (.cells #[.int .i64 i, .int .u64 kd, .int .i64 wait] 85)) = W1 := ⟨_, rfl⟩
  rw [eW] at X1 hb1
  have X2 := X1.alloc (.cells #[.int .i64 i] 3)
  have hb2 := hb1.alloc hb1.size (.cells #[.int .i64 i] 3)
  have x0 : W1.cell? ⟨w.heap.size, 0, none⟩ = some (.int .i64 i) := X1.cell 0
  obtain ⟨W2, eW2⟩ : ∃ W2, (W1.alloc (.cells #[.int .i64 i] 3)) = W2 := ⟨_, rfl⟩
  have CO2 := hid (CO.out _ _ _ (Blk.new W1 #[.int .i64 i] 3))
  rw [eW2] at X2 hb2 CO2
  have y0 : W2.cell? ⟨w.heap.size, 0, none⟩ = some (.int .i64 i) := X2.cell 0
  have y1 : W2.cell? ⟨w.heap.size, 1, none⟩ = some (.int .u64 kd) := X2.cell 1
  have y2 : W2.cell? ⟨w.heap.size, 2, none⟩ = some (.int .i64 wait) := X2.cell 2
  have eB : waitB wait = (decide (1 ≤ wait) && decide (wait ≤ 1048576)) := by
    unfold waitB
    by_cases h1 : 1 ≤ wait <;> by_cases h2 : wait ≤ 1048576 <;> simp [h1, h2]
  rw [eB]
  clear hi hk hn CO eB X1 X2
  by_cases h1 : 1 ≤ wait
  · have z1 : decide (1 ≤ wait) = true := decide_eq_true h1
    rw [z1]
    clear h1
    go_enter Tryz.func81, Tryz.ntmps81
    go_wp2_with fail
    refine CO2.out.mono ?_
    rintro e w3 ⟨rfl, rfl⟩
    go_wp2_with fail
    refine (CR.out _).mono ?_
    rintro e w3 ⟨rfl, rfl⟩
    go_wp2_with fail
    refine (CH.out _).mono ?_
    rintro e w3 ⟨rfl, rfl⟩
    go_wp2_with fail
    go_ret
    exact ⟨rfl, hb2⟩
  · have z1 : decide (1 ≤ wait) = false := decide_eq_false h1
    rw [z1]
    clear h1
    go_enter Tryz.func81, Tryz.ntmps81
    go_wp2_with fail
    refine CO2.out.mono ?_
    rintro e w3 ⟨rfl, rfl⟩
    go_wp2_with fail
    refine (CR.out _).mono ?_
    rintro e w3 ⟨rfl, rfl⟩
    go_wp2_with fail
    refine (CH.out _).mono ?_
    rintro e w3 ⟨rfl, rfl⟩
    go_wp2_with fail
    go_ret
    exact ⟨rfl, hb2⟩
def Tb.Sn.made (b dg q g h : Nat) (par : Int) (kd i : Nat) : Sn := ⟨b, dg, q, g, h, par, kd, 0, 2 ^ i, false, [], []⟩
def SnMade (kind l k wait ep : Int) (i kd : Nat) (par : Int) (w : World) (e : Ending) (w' : World) : Prop :=
  Below w.heap.size w w' ∧ (e = .returned (.tuple #[.pointer none, .int .i64 2]) ∨
    (poolIs kind l = true ∧ isK k = true ∧ waitB wait = true ∧ 0 ≤ ep ∧ ep ≤ 1099511627776 ∧ ∃ b dg q g h, e = .returned (.tuple #[.pointer (some ⟨b, 0, none⟩), .int .i64 0]) ∧ SnV w' kind l k wait ep.toNat i (Sn.made b dg q g h par kd i) ∧ ∀ j, (Sn.made b dg q g h par kd i).B j → w.heap.size ≤ j))
theorem sn_new {w : World} (kind l k wait ep : Int) (i kd : Nat) (par : Int) (bk : In64 k) (hi : i < 48) (hk : kd < 281474976710656) (hn : kd.testBit i = false) :
    Calls Tryz.prog 32 #[.agg #[.int .i64 l, .int .i64 k, .int .i64 kind], .agg #[.int .i64 i, .int .u64 kd, .int .i64 wait], .int .i64 ep] w (SnMade kind l k wait ep i kd par w) := by
  have X1 := (Blk.new w #[.int .i64 l, .int .i64 k, .int .i64 kind] 24).alloc (.cells #[.int .i64 i, .int .u64 kd, .int .i64 wait] 85)
  have Y1 := Blk.new (w.alloc (.cells #[.int .i64 l, .int .i64 k, .int .i64 kind] 24)) #[.int .i64 i, .int .u64 kd, .int .i64 wait] 85
  rw [World.size_alloc] at Y1
  have hb1 : Below w.heap.size w ((w.alloc (.cells #[.int .i64 l, .int .i64 k, .int .i64 kind] 24)).alloc (.cells #[.int .i64 i, .int .u64 kd, .int .i64 wait] 85)) := ((Below.refl _ _).alloc nlr _).alloc (by simp) _
  have RG := hid (fun W => sn_right (w := W) i kd wait hi hk hn)
  have WT := hid (fun W => cw_with 0 i W (by decide) hi)
  rw [Nat.zero_or] at WT
  obtain ⟨W1, eW⟩ : ∃ W1, ((w.alloc (.cells #[.int .i64 l, .int .i64 k, .int .i64 kind] 24)).alloc (.cells #[.int .i64 i, .int .u64 kd, .int .i64 wait] 85)) = W1 := ⟨_, rfl⟩
  rw [eW] at X1 Y1 hb1
  have x0 : W1.cell? ⟨w.heap.size, 0, none⟩ = some (.int .i64 l) := X1.cell 0
  have x1 : W1.cell? ⟨w.heap.size, 1, none⟩ = some (.int .i64 k) := X1.cell 1
  have x2 : W1.cell? ⟨w.heap.size, 2, none⟩ = some (.int .i64 kind) := X1.cell 2
  have HI := hid hi
  have HK := hid hk
  clear hi hk hn
  by_cases hD : (poolIs kind l && isK k) = false
  · have DN := hid (dg_new_no kind l k W1 bk hD)
    clear hD X1 Y1 WT RG
    go_enter Tryz.func32, Tryz.ntmps32
    go_wp2_with fail
    refine DN.out.mono ?_
    rintro e w2 ⟨rfl, hb2⟩
    have hb3 := hb1.trans (hb2.mono hb1.size)
    go_wp2_with fail
    go_ret2
    exact ⟨hb3, .inl rfl⟩
  · have hp : poolIs kind l = true ∧ isK k = true := by
      cases h1 : poolIs kind l <;> cases h2 : isK k <;> simp_all
    have DN := hid (dg_new kind l k W1 hp.1 hp.2)
    have HPI := hid hp
    clear hD hp
    go_enter Tryz.func32, Tryz.ntmps32
    go_wp2_with fail
    refine DN.out.mono ?_
    rintro e w2 ⟨dg, q, g, h, rfl, d2, e1, e2, e3, e4, hb2⟩
    have hb3 := hb1.trans (hb2.mono hb1.size)
    have hs1 : W1.heap.size = w.heap.size + 2 := by rw [← eW]; simp
    have X2 := X1.below hb2 nlr
    have Y2 := Y1.below hb2 nlr
    have HD := hid d2
    have hfr : w.heap.size ≤ dg ∧ w.heap.size ≤ q ∧ w.heap.size ≤ g ∧ w.heap.size ≤ h := by omega
    have y0 : w2.cell? ⟨w.heap.size + 1, 0, none⟩ = some (.int .i64 i) := Y2.cell 0
    have y1 : w2.cell? ⟨w.heap.size + 1, 1, none⟩ = some (.int .u64 kd) := Y2.cell 1
    have y2 : w2.cell? ⟨w.heap.size + 1, 2, none⟩ = some (.int .i64 wait) := Y2.cell 2
    have R2 := hid (RG.out w2)
    obtain ⟨wb, ewb⟩ : ∃ b, waitB wait = b := ⟨_, rfl⟩
    rw [ewb] at R2
    have EWB := hid ewb
    clear d2 x0 x1 x2 X1 Y1 ewb hb1 DN RG e1 e2 e3 e4
    go_wp2_with fail
    refine R2.out.mono ?_
    rintro e w3 ⟨rfl, hb4⟩
    have hb5 := hb3.trans (hb4.mono hb3.size)
    have X3 := X2.below hb4 nlr
    have Y3 := Y2.below hb4 nlr
    have D3 := hid (HD.out.below hb4 nlr)
    clear X2 Y2 y0 y1 y2 HD hb2 hb3 R2
    cases wb with
    | false =>
      go_wp2_with fail
      go_ret2
      exact ⟨hb5, .inl rfl⟩
    | true =>
      by_cases h0 : ep < 0
      · have z0 : decide (ep < 0) = true := decide_eq_true h0
        clear h0
        go_wp2_with fail
        go_ret2
        exact ⟨hb5, .inl rfl⟩
      · have z0 : decide (ep < 0) = false := decide_eq_false h0
        by_cases h1 : 1099511627776 < ep
        · have z1 : decide (1099511627776 < ep) = true := decide_eq_true h1
          clear h0 h1
          go_wp2_with fail
          go_ret2
          exact ⟨hb5, .inl rfl⟩
        · have z1 : decide (1099511627776 < ep) = false := decide_eq_false h1
          have HE := hid (And.intro h0 h1)
          have x0 : w3.cell? ⟨w.heap.size, 0, none⟩ = some (.int .i64 l) := X3.cell 0
          have x1 : w3.cell? ⟨w.heap.size, 1, none⟩ = some (.int .i64 k) := X3.cell 1
          have x2 : w3.cell? ⟨w.heap.size, 2, none⟩ = some (.int .i64 kind) := X3.cell 2
          have y0 : w3.cell? ⟨w.heap.size + 1, 0, none⟩ = some (.int .i64 i) := Y3.cell 0
          have y1 : w3.cell? ⟨w.heap.size + 1, 1, none⟩ = some (.int .u64 kd) := Y3.cell 1
          have y2 : w3.cell? ⟨w.heap.size + 1, 2, none⟩ = some (.int .i64 wait) := Y3.cell 2
          have W3 := hid (calls_flip (WT.out w3.drew))
          obtain ⟨cv, ecv⟩ : ∃ c, 2 ^ i = c := ⟨_, rfl⟩
          have ECV := hid ecv
          rw [ecv] at W3
          clear h0 h1 X3 Y3 ecv
          go_upto_region 4 with fail
          refine wp_region_still_tail 8 (by kernel_rfl) (by kernel_rfl) ?_
          simp only [List.take_succ_cons, List.take_zero, List.drop_succ_cons, List.drop_zero]
          repeat still_step
          still_call W3.out
          repeat still_step
          refine wpStill_nil ?_
          change wpList _ _ _ _ _ w3.drew
          have hb6 := below_drewN hb5 1
          have D4 := D3.out.below (below_drewN (Below.refl w3.heap.size w3) 1) nlr
          rw [show w3.drewN 1 = w3.drew from rfl] at hb6 D4
          generalize w3.drew = w4 at *
          have B5 := Blk.new w4 #[.int .i64 l, .int .i64 k, .int .i64 kind, .int .i64 i, .int .u64 kd, .int .i64 wait, .int .i64 ep, .int .i64 0, .int .u64 0, .int .u64 cv, .bool false, .pointer (some ⟨dg, 0, none⟩)] 148
          have hb7 := hb6.alloc hb6.size (.cells #[.int .i64 l, .int .i64 k, .int .i64 kind, .int .i64 i, .int .u64 kd, .int .i64 wait, .int .i64 ep, .int .i64 0, .int .u64 0, .int .u64 cv, .bool false, .pointer (some ⟨dg, 0, none⟩)] 148)
          have D5 := D4.below (Below.refl _ _ |>.alloc nlr (.cells #[.int .i64 l, .int .i64 k, .int .i64 kind, .int .i64 i, .int .u64 kd, .int .i64 wait, .int .i64 ep, .int .i64 0, .int .u64 0, .int .u64 cv, .bool false, .pointer (some ⟨dg, 0, none⟩)] 148)) nlr
          have hlt4 := D4.ltB
          have hs4 := hb6.size
          have HD5 := hid D5
          clear D4 D5
          go_wp2_with fail
          go_ret2
          obtain ⟨h0, h1⟩ := HE.out
          refine ⟨hb7, .inr ⟨HPI.out.1, HPI.out.2, EWB.out, by omega, by omega, w4.heap.size, dg, q, g, h, rfl, ⟨?_, HD5.out, fun q => ?_, ?_⟩, fun j hj => ?_⟩⟩
          · show Blk _ _ #[.int .i64 l, .int .i64 k, .int .i64 kind, .int .i64 i, .int .u64 kd, .int .i64 wait, .int .i64 ((ep.toNat : Nat) : Int), .int .i64 0, .int .u64 0, .int .u64 ((2 ^ i : Nat) : Int), .bool false, .pointer (some ⟨dg, 0, none⟩)] _
            rw [Int.toNat_of_nonneg (by omega), ECV.out]
            exact B5
          · have := hlt4 _ q
            exact absurd this (Nat.lt_irrefl _)
          · have := EWB.out
            unfold waitB at this
            exact (of_decide_eq_true this).1
          · rcases hj with e | e | e | e | e
            · have e : j = w4.heap.size := e
              omega
            · have e : j = dg := e
              omega
            · have e : j = q := e
              omega
            · have e : j = g := e
              omega
            · have e : j = h := e
              omega
end Go.Proofs.YtdnlejboijkcfaaGreatDoor
