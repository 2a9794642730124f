/- Texts laid together. -/
import Derived.Test.YtdnlejboijkcfaaGreatDoorP19
import Derived.Test.YtdnlejboijkcfaaGreatDoorP23
import Derived.Test.YtdnlejboijkcfaaGreatDoorP24
import Derived.Test.YtdnlejboijkcfaaGreatDoorP21
import Derived.Test.YtdnlejboijkcfaaGreatDoorP22
import Derived.Test.YtdnlejboijkcfaaGreatDoorP13
/- A sensor in memory: Send. -/
namespace Go.Proofs.YtdnlejboijkcfaaGreatDoor
set_option maxHeartbeats 8000000
set_option maxRecDepth 100000
open Go.RowKit Nl Vy Tb
namespace Tb
def bodyB (l k : Int) (zs : List Nd) : ByteArray := ⟨(encL l k (sumL zs) (zs.map (·.1)) (zs.map (·.2))).toArray⟩
def txt (ep : Nat) (l k : Int) (frm cover : Nat) (zs : List Nd) : ByteArray := ⟨(sealL (letG ep frm cover (bodyB l k zs))).toArray⟩
theorem getD_bd {xs : List Int} (h : ∀ x ∈ xs, 0 ≤ x ∧ x ≤ 9223372036854775807) : ∀ j, 0 ≤ xs.getD j 0 ∧ xs.getD j 0 ≤ 9223372036854775807 := fun j => by
  by_cases hj : j < xs.length
  · rw [List.getD, List.getElem?_eq_getElem hj]
    exact h _ (List.getElem_mem hj)
  · rw [List.getD, List.getElem?_eq_none (by omega)]; decide
theorem body_len {l k : Int} {zs : List Nd} (d : Dg l k zs) (hl : zs.length ≤ 8000) : (bodyB l k zs).size ≤ 32 + 18 * zs.length := by
  have nb := fun z hz => roll_nb d.roll z hz
  have k2 := d.k2
  have hm := d.roll.most
  have hids : ∀ x ∈ zs.map (·.1), 0 ≤ x ∧ x ≤ 9223372036854775807 := fun x hx => by
    obtain ⟨z, hz, rfl⟩ := List.mem_map.1 hx
    have h1 := d.roll.strict.2 z hz
    have h2 := (nb z hz).1.2
    exact ⟨by omega, h2⟩
  have hws : ∀ x ∈ zs.map (·.2), 0 ≤ x ∧ x ≤ 9223372036854775807 := fun x hx => by
    obtain ⟨z, hz, rfl⟩ := List.mem_map.1 hx
    have h1 := d.roll.strict.2 z hz
    have h2 := (nb z hz).2.2
    exact ⟨by omega, h2⟩
  have e := enc_len (l := l) (k := k) (n := sumL zs) (ids := zs.map (·.1)) (ws := zs.map (·.2)) k2 (by omega) (fun j => (getD_bd hids j).2) (fun j => (getD_bd hids j).1) (by simp; omega) (fun j => (getD_bd hws j).2) (by simp)
  rw [List.length_map] at e
  show (encL l k (sumL zs) (zs.map (·.1)) (zs.map (·.2))).toArray.size ≤ _
  simpa using e
theorem txt_len {ep : Nat} {l k : Int} {f c : Nat} {zs : List Nd} (d : Dg l k zs) (hl : zs.length ≤ 8000) (he : ep ≤ 1099511627776) (hf : f < 48) (hc : c < 281474976710656) : (txt ep l k f c zs).size ≤ 76 + 18 * zs.length := by
  have h1 := body_len d hl
  have h2 := letG_len (s := bodyB l k zs) he hf hc (by omega)
  show (sealL (letG ep f c (bodyB l k zs))).toArray.size ≤ _
  rw [List.size_toArray, seal_len]
  omega
end Tb
def SnSent (kind l k wait : Int) (ep i : Nat) (s : Sn) (zs : List Nd) (w w' : World) : Prop :=
  ∃ h', (∀ its, SnV w' kind l k wait ep i { s with h := h', zs := zs, its := its, sent := true }) ∧ (h' = s.h ∨ w.heap.size ≤ h') ∧ ChB s.B w w'
theorem sn_send {w : World} {kind l k wait : Int} {ep i : Nat} {s : Sn} (S : SnV w kind l k wait ep i s) (hr : s.rdy = true) (hi : i < 48) (hep : ep ≤ 1099511627776) (hc : s.cover < 281474976710656) (hb : s.cover.testBit i = true) (hz : s.zs.length ≤ 19999) (hz8 : (comL l k s.zs).1.length ≤ 8000) :
    Calls Tryz.prog 86 #[.pointer (some ⟨s.b, 0, none⟩)] w fun e w' => e = .returned (.tuple #[.string (txt ep l k i s.cover (comL l k s.zs).1), .int .i64 0]) ∧ SnSent kind l k wait ep i s (comL l k s.zs).1 w w' := by
  have RD := sn_ready S
  rw [hr] at RD
  have RD := hid RD
  have hst : s.sent = false := ((s.rdy_iff).1 hr).1
  have HS := hid S
  have CM := hid (fun W (y : SnV W kind l k wait ep i s) => dg_compress y.d (by decide) (by omega) (by omega))
  have hdc := S.d.inv.com.1
  have hbl := body_len hdc hz8
  obtain ⟨Z, eZ⟩ : ∃ Z, (comL l k s.zs).1 = Z := ⟨_, rfl⟩
  obtain ⟨n, en⟩ : ∃ n, ((comL l k s.zs).2.length : Int) = n := ⟨_, rfl⟩
  have EN := hid (fun W dg q g h (y : DgV W dg q g h kind l k 20000 Z) => w_encode y (by decide) (by rw [← eZ]; omega))
  rw [eZ] at hbl
  have LE := hid (fun W => lg_encode (e := ep) (f := i) (c := s.cover) (bodyB l k Z) W hep hi hc hb (by rw [← eZ]; rw [← eZ] at hbl; omega))
  rw [eZ, en] at CM
  rw [eZ]
  have hTX : Hid (txt ep l k i s.cover Z = ⟨(sealL (letG ep i s.cover (bodyB l k Z))).toArray⟩) := rfl
  obtain ⟨TX, eTX⟩ : ∃ t, (⟨(sealL (letG ep i s.cover (bodyB l k Z))).toArray⟩ : ByteArray) = t := ⟨_, rfl⟩
  rw [eTX] at LE hTX
  rw [hTX.out]
  have hBD : Hid (bodyB l k Z = ⟨(encL l k (sumL Z) (Z.map (·.1)) (Z.map (·.2))).toArray⟩) := rfl
  obtain ⟨BD, eBD⟩ : ∃ t, (⟨(encL l k (sumL Z) (Z.map (·.1)) (Z.map (·.2))).toArray⟩ : ByteArray) = t := ⟨_, rfl⟩
  rw [eBD] at EN hBD
  rw [hBD.out] at LE
  unfold DgPost at CM
  have c10 : w.cell? ⟨s.b, 10, none⟩ = some (.bool false) := by rw [← hst]; exact S.blk.cell 10
  have FX := hid (fun W (y : SnV W kind l k wait ep i s) => show W.cell? ⟨s.b, 11, none⟩ = some (.pointer (some ⟨s.dg, 0, none⟩)) from y.blk.cell 11)
  obtain ⟨b, eb⟩ : ∃ b, s.b = b := ⟨_, rfl⟩
  obtain ⟨dg, edg⟩ : ∃ b, s.dg = b := ⟨_, rfl⟩
  obtain ⟨cv, ecv⟩ : ∃ b, s.cover = b := ⟨_, rfl⟩
  have EB := hid eb
  have EDG := hid edg
  have ECV := hid ecv
  rw [eb] at c10 RD FX ⊢
  rw [edg] at FX
  rw [ecv] at LE
  have CM : Hid (∀ W, SnV W kind l k wait ep i s → Calls Tryz.prog 63 #[.pointer (some ⟨dg, 0, none⟩)] W (DgPost s.dg s.q s.g s.h kind l k 20000 (Z, n) W)) := by
    intro W y
    have := CM.out W y
    rw [EDG.out] at this ⊢
    exact this
  clear eZ en eTX eBD eb edg ecv hdc hbl hb hr hst S hz8 hBD hTX
  go_enter Tryz.func86, Tryz.ntmps86
  go_wp2_with fail
  refine RD.out.mono ?_
  rintro e w1 ⟨rfl, m1, rfl⟩
  have hb1 : Below w.heap.size w (w.drewN m1) := below_drewN (Below.refl _ _) m1
  have S1 := HS.out.below hb1
  have c11 := FX.out _ S1
  have C1 := hid (CM.out _ S1)
  generalize w.drewN m1 = w1 at *
  go_wp2_with fail
  refine C1.out.mono ?_
  rintro e w2 ⟨rfl, h', d2, hh, ch⟩
  have S2 := S1.turned (its := s.its) ch d2 hh
  have hh2 : h' = s.h ∨ w.heap.size ≤ h' := by have := hb1.size; omega
  have hc2 : ChB s.B w w2 := (ChB.of_below hb1).trans (ch.mono (fun j _ q => (.inr q : s.B j))) (fun j _ q => q)
  have E2 := hid (EN.out w2 _ _ _ _ d2)
  rw [EDG.out] at E2
  have x11 : w2.cell? ⟨b, 11, none⟩ = some (.pointer (some ⟨dg, 0, none⟩)) := by rw [← EB.out, ← EDG.out]; exact S2.blk.cell 11
  have HS2 := hid S2
  have HH := hid hh2
  have HC2 := hid hc2
  clear S1 C1 c11 c10 ch d2 hh hh2 hc2 hb1 S2
  go_wp2_with fail
  refine E2.out.mono ?_
  rintro e w3 ⟨rfl, hb3⟩
  have S3 := hid (HS2.out.below hb3)
  have HC3 := hid (HC2.out.trans (ChB.of_below hb3) (fun j _ q => q))
  have x1 : w3.cell? ⟨b, 6, none⟩ = some (.int .i64 ep) := by rw [← EB.out]; exact S3.out.blk.cell 6
  have x2 : w3.cell? ⟨b, 3, none⟩ = some (.int .i64 i) := by rw [← EB.out]; exact S3.out.blk.cell 3
  have x3 : w3.cell? ⟨b, 9, none⟩ = some (.int .u64 cv) := by rw [← EB.out, ← ECV.out]; exact S3.out.blk.cell 9
  have hbB : b < w3.heap.size := by rw [← EB.out]; exact S3.out.blk.lt
  have FY := hid (fun W (q : Below w3.heap.size w3 W) => show W.cell? ⟨b, 6, none⟩ = some (.int .i64 ep) ∧ W.cell? ⟨b, 3, none⟩ = some (.int .i64 i) ∧ W.cell? ⟨b, 9, none⟩ = some (.int .u64 cv) ∧ Below w3.heap.size w3 W from
    ⟨(q.cell (p := ⟨b, 6, none⟩) hbB).trans x1, (q.cell (p := ⟨b, 3, none⟩) hbB).trans x2, (q.cell (p := ⟨b, 9, none⟩) hbB).trans x3, q⟩)
  have hB1 : Below w3.heap.size w3 (w3.drewN 1) := below_drewN (Below.refl w3.heap.size w3) 1
  clear E2 hb3 x1 x2 x3 x11
  go_upto_region 9 with fail
  go_region_held3 (fun W => W.cell? ⟨b, 6, none⟩ = some (.int .i64 ep) ∧ W.cell? ⟨b, 3, none⟩ = some (.int .i64 i) ∧ W.cell? ⟨b, 9, none⟩ = some (.int .u64 cv) ∧ Below w3.heap.size w3 W)
    (first
      | exact FY.out _ hB1
      | exact FY.out _ hBn)
    ((go_at_call 139; have hBa := (‹_ ∧ _ ∧ _ ∧ Below w3.heap.size w3 _›).2.2.2; refine (LE.out _).mono ?_; rintro e w6 ⟨rfl, hb6⟩
      have hBn := hBa.trans (hb6.mono hBa.size)))
  all_goals
    have S6 := S3.out.below hBn
    have x10 := S6.blk.cell 10
    have f10 := S6.blk.free 10
    have l10 := S6.blk.lt
    rw [EB.out] at x10 f10 l10
    have x10 : w6.cell? ⟨b, 10, none⟩ = some (.bool s.sent) := x10
    have P : Hid (SnSent kind l k wait ep i s Z w (w6.setCell ⟨b, 10, none⟩ (.bool true))) := by
      refine ⟨h', fun its => ?_, HH.out, ?_⟩
      · have hk : ∀ j, j ≠ b → (w6.setCell ⟨b, 10, none⟩ (.bool true)).heap[j]? = w6.heap[j]? := fun j hj => Below.heap_setCell w6 ⟨b, 10, none⟩ _ j hj
        have eb := EB.out
        refine ⟨?_, S6.d.keepB (fun j _ q => hk j (fun e => S6.nb (by show DB _ _ _ _ s.b; rw [eb, ← e]; exact q))), S6.nb, S6.wt⟩
        show Blk _ s.b _ _
        have := S6.blk.set 10 (.bool true)
        rw [eb] at this ⊢
        exact this
      · refine (HC3.out.trans (ChB.of_below hBn) (fun j _ q => q)).trans (S' := s.B) ?_ (fun j _ q => q)
        have eb := EB.out
        exact ⟨rfl, rfl, rfl, by simp, fun j _ q => Below.heap_setCell w6 ⟨b, 10, none⟩ _ j (fun e => q (.inl (by rw [eb]; exact e)))⟩
    clear S6 hBn hb6
    go_wp2_with fail
    go_ret2
    exact ⟨rfl, P.out⟩
end Go.Proofs.YtdnlejboijkcfaaGreatDoor

/- What bytes are a digest's (plain). -/
namespace Go.Proofs.YtdnlejboijkcfaaGreatDoor
open Nl Vy
namespace Vy
def encB (l k : Int) (zs : List Nd) : List UInt8 := encL l k (sumL zs) (zs.map (·.1)) (zs.map (·.2))
def Dead (s : List UInt8) : Prop := ∀ (l k : Int) (zs : List Nd), loadE 2 l k zs = 0 → s ≠ encB l k zs
theorem sumI_map (zs : List Nd) : sumI (zs.map (·.2)) = sumL zs := by
  induction zs with
  | nil => rfl
  | cons x r ih => simp only [List.map_cons, sumI, sumL]; rw [ih]
theorem riseF_of {zs : List Nd} : ∀ last : Int, (∀ x ∈ zs, last < x.1) → zs.Pairwise (fun a b => a.1 < b.1) → (∀ x ∈ zs, x.1 ≤ 9223372036854775807) → riseF last (zs.map (·.1)) := by
  induction zs with
  | nil => intro _ _ _ _; trivial
  | cons x r ih =>
    intro last h1 h2 h3
    obtain ⟨h4, h5⟩ := List.pairwise_cons.1 h2
    exact ⟨h1 x (by simp), h3 x (by simp), ih x.1 h4 h5 (fun y hy => h3 y (by simp [hy]))⟩
theorem rise_pair : ∀ (ids : List Int) (last : Int), riseF last ids → ids.Pairwise (· < ·) ∧ ∀ x ∈ ids, last < x := by
  intro ids
  induction ids with
  | nil => intro _ _; exact ⟨List.Pairwise.nil, fun x hx => by cases hx⟩
  | cons a r ih =>
    rintro last ⟨h1, h2, h3⟩
    obtain ⟨h4, h5⟩ := ih a h3
    refine ⟨List.pairwise_cons.2 ⟨h5, h4⟩, fun x hx => ?_⟩
    rcases List.mem_cons.1 hx with rfl | hx
    · exact h1
    · have := h5 x hx; omega
theorem right_le {l id : Int} (h : rightB l id = true) : id ≤ 9223372036854775807 := by
  simp only [rightB, decide_eq_true_eq] at h
  obtain ⟨n, rfl⟩ := Int.eq_ofNat_of_zero_le (show 0 ≤ l by omega)
  have hp := pow48 (n := n) (by omega)
  rw [Int.toNat_natCast] at h
  omega
theorem good_chain {l k : Int} {zs : List Nd} {s : List UInt8} (h : loadE 2 l k zs = 0) (hs : s = encB l k zs) :
    ∃ t q, s4 s = some t ∧ (vL s : Int) = l ∧ (vK s : Int) = k ∧ idsF (8 * (vK s : Int)) t = some (zs.map (·.1), q) ∧ (zs.map (·.1)).all (rightB (vL s)) = true ∧ wsF (zs.map (·.1)).length (vN s) q = some (zs.map (·.2), 0, []) := by
  have inv := load_inv h
  have hr := inv.roll
  have hk1 := inv.k1
  have hk2 := inv.k2
  have hrm := inv.room
  have hs0 : 0 ≤ sumL zs := by have := hr.sum; omega
  obtain ⟨L, eL⟩ := Int.eq_ofNat_of_zero_le (show 0 ≤ l by have := hr.l1; omega)
  obtain ⟨K, eK⟩ := Int.eq_ofNat_of_zero_le (show 0 ≤ k by omega)
  obtain ⟨M, eM⟩ := Int.eq_ofNat_of_zero_le hs0
  have h1 := hr.l1
  have h2 := hr.l2
  have h3 := hr.most
  have rise := riseF_of (zs := zs) 0 (fun x hx => by have := (hr.strict.2 x hx).1; omega) hr.strict.1 (fun x hx => right_le (hr.ids x hx))
  obtain ⟨t, q, a1, a2, a3, a4, a5, a6⟩ := read_of (l := L) (k := K) (n := M) (ids := zs.map (·.1)) (ws := zs.map (·.2)) (by omega) (by omega) (by omega) (by omega) (by omega) rise (by rw [List.length_map]; omega) (by simp) (fun a ha => by
    obtain ⟨x, hx, rfl⟩ := List.mem_map.1 ha
    exact (hr.strict.2 x hx).2) (by rw [sumI_map, eM])
  have e : s = encL L K M (zs.map (·.1)) (zs.map (·.2)) := by rw [hs]; unfold encB; rw [eL, eK, eM]
  rw [← e] at a1 a2 a3 a4
  refine ⟨t, q, a1, by rw [a2, eL], by rw [a3, eK], by rw [a3]; exact a5, ?_, by rw [a4]; exact a6⟩
  rw [List.all_eq_true]
  intro a ha
  obtain ⟨x, hx, rfl⟩ := List.mem_map.1 ha
  rw [a2, ← eL]
  exact hr.ids x hx
theorem dead4 {s : List UInt8} (h : s4 s = none) : Dead s := fun l k zs hz hs => by
  obtain ⟨t, q, a1, -⟩ := good_chain hz hs
  rw [h] at a1; cases a1
theorem dead_ids {s t : List UInt8} (h : s4 s = some t) (hi : idsS (8 * (vK s : Int)) (vL s) (some t) = none) : Dead s := fun l k zs hz hs => by
  obtain ⟨t', q, a1, a2, a3, a4, a5, a6⟩ := good_chain hz hs
  rw [h] at a1
  obtain rfl := Option.some.inj a1
  simp only [idsS, a4, allS, a5, if_true] at hi
  cases hi
theorem dead_ws {s t q : List UInt8} {ids : List Int} (h : s4 s = some t) (hi : idsF (8 * (vK s : Int)) t = some (ids, q)) (hw : ∀ ws, wsF ids.length (vN s) q ≠ some (ws, 0, [])) : Dead s := fun l k zs hz hs => by
  obtain ⟨t', q', a1, a2, a3, a4, a5, a6⟩ := good_chain hz hs
  rw [h] at a1
  obtain rfl := Option.some.inj a1
  rw [hi] at a4
  obtain ⟨rfl, rfl⟩ : ids = zs.map (·.1) ∧ q = q' := by simpa using a4
  exact hw _ a6
theorem zip_fst {ids ws : List Int} (h : ws.length = ids.length) : (ids.zip ws).map (·.1) = ids := by rw [List.map_fst_zip]; omega
theorem zip_snd {ids ws : List Int} (h : ws.length = ids.length) : (ids.zip ws).map (·.2) = ws := by rw [List.map_snd_zip]; omega
theorem zip_map (zs : List Nd) : (zs.map (·.1)).zip (zs.map (·.2)) = zs := by
  induction zs with
  | nil => rfl
  | cons x r ih => simp only [List.map_cons, List.zip_cons_cons, ih]
theorem read_all {s t q : List UInt8} {ids ws : List Int} (h : s4 s = some t) (hi : idsF (8 * (vK s : Int)) t = some (ids, q)) (hr : ids.all (rightB (vL s)) = true) (hw : wsF ids.length (vN s) q = some (ws, 0, [])) :
    s = encB (vL s) (vK s) (ids.zip ws) ∧ rollB (vL s) (ids.zip ws) = true ∧ poolIs 2 (vL s) = true ∧ isK (vK s) = true ∧ ((ids.zip ws).length : Int) ≤ 8 * (vK s : Int) ∧ sumL (ids.zip ws) = vN s := by
  obtain ⟨a1, a2, a3, a4, a5, a6⟩ := read_sound h hi hw
  obtain ⟨b1, b2, b3, b4, b5, -⟩ := s4_some h
  have e1 := zip_fst a4
  have e2 := zip_snd a4
  have hl : (ids.zip ws).length = ids.length := by rw [List.length_zip]; omega
  have hsum : sumL (ids.zip ws) = vN s := by rw [← sumI_map, e2, a6]
  have pw := rise_pair ids 0 a2
  have roll : Roll (vL s) (ids.zip ws) := {
    l1 := by omega
    l2 := by omega
    strict := ⟨by
      have := pw.1
      rw [← e1] at this
      exact (List.pairwise_map.1 this), fun x hx => ⟨by
        have := pw.2 x.1 (by rw [← e1]; exact List.mem_map_of_mem hx)
        omega, by
        have := a5 x.2 (by rw [← e2]; exact List.mem_map_of_mem hx)
        omega⟩⟩
    most := by omega
    ids := fun x hx => by
      rw [List.all_eq_true] at hr
      exact hr x.1 (by rw [← e1]; exact List.mem_map_of_mem hx) }
  refine ⟨?_, rollB_iff.2 roll, ?_, decide_eq_true ⟨by omega, by omega⟩, by rw [hl]; exact a3, hsum⟩
  · unfold encB
    rw [e1, e2, hsum]
    exact a1
  · unfold poolIs
    simp
    omega
theorem dead_load {s t q : List UInt8} {ids ws : List Int} (h : s4 s = some t) (hi : idsF (8 * (vK s : Int)) t = some (ids, q)) (hw : wsF ids.length (vN s) q = some (ws, 0, [])) (hl : loadE 2 (vL s) (vK s) (ids.zip ws) ≠ 0) : Dead s := fun l k zs hz hs => by
  obtain ⟨t', q', a1, a2, a3, a4, a5, a6⟩ := good_chain hz hs
  rw [h] at a1
  obtain rfl := Option.some.inj a1
  rw [hi] at a4
  obtain ⟨rfl, rfl⟩ : ids = zs.map (·.1) ∧ q = q' := by simpa using a4
  rw [hw] at a6
  obtain rfl : ws = zs.map (·.2) := by simpa using a6
  rw [zip_map, a2, a3] at hl
  exact hl hz
def mapW (ws : List Int) : Option (List Int × Int × List UInt8) → Option (List Int × Int × List UInt8)
  | none => none
  | some (l, x, r) => some (ws ++ l, x, r)
theorem mapW_nil (x : Option (List Int × Int × List UInt8)) : mapW [] x = x := by cases x <;> rfl
theorem ws_step {m : Nat} {left : Int} {q r : List UInt8} (ws : List Int) (h : btS 1 left (some q) = some r) (_hl : left ≤ 9223372036854775807) : mapW ws (wsF (m + 1) left q) = mapW (ws ++ [(numV (some q) : Int)]) (wsF m (left - numV (some q)) r) := by
  obtain ⟨h1, h2, h3⟩ := btS_some h
  have hq : q = vyL (numV (some q)) ++ r := Option.some.inj h3
  have hg := getF_iff.2 ⟨hq, by omega⟩
  rw [wsF, hg]
  simp only
  rw [if_neg (by omega)]
  cases wsF m (left - (numV (some q) : Int)) r with
  | none => rfl
  | some x => obtain ⟨l, x, t⟩ := x; simp [mapW]
theorem ws_none {m : Nat} {left : Int} {q : List UInt8} (h : btS 1 left (some q) = none) (hl : left ≤ 9223372036854775807) : wsF (m + 1) left q = none := by
  rw [wsF]
  cases hg : getF q with
  | none => rfl
  | some x =>
    obtain ⟨n, r⟩ := x
    simp only
    by_cases hb : n < 1 ∨ left < n
    · rw [if_pos hb]
    · obtain ⟨e1, -⟩ := getF_iff.1 hg
      have := btS_of (a := 1) (b := left) (n := n) r (by omega) (by omega) (by omega)
      rw [← e1, h] at this
      cases this.1
theorem zip_snoc {ids ws : List Int} {j : Nat} (h : j < ids.length) (hw : ws.length = j) (n : Int) : (ids.take j).zip ws ++ [(ids.getD j 0, n)] = (ids.take (j + 1)).zip (ws ++ [n]) := by
  have e : ids.getD j 0 = ids[j] := by simp [List.getD, h]
  rw [List.take_succ_eq_append_getElem h, e, List.zip_append (by rw [List.length_take]; omega)]
  rfl
end Vy
end Go.Proofs.YtdnlejboijkcfaaGreatDoor
