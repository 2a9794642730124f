/- Texts laid together. -/
import Derived.Test.YtdnlejboijkcfaaGreatDoorP29
/- A sensor in memory: Hear. -/
namespace Go.Proofs.YtdnlejboijkcfaaGreatDoor
set_option maxHeartbeats 8000000
set_option maxRecDepth 100000
open Go.RowKit Nl Vy Tb
theorem run_idx0 (g1 g2 : Fn) (a1 a2 c1 c2 : Array Value) (W : World) : (Instr.index 166 (.agg #[.func g1 a1 c1, .func g2 a2 c2]) (.int .i64 0)).run Tryz.prog W = .ok (.func g1 a1 c1) W := by
  simp [Instr.index, run_underlying Tryz.underlying166, asIntOf]
  rfl
theorem run_idx1 (g1 g2 : Fn) (a1 a2 c1 c2 : Array Value) (W : World) : (Instr.index 166 (.agg #[.func g1 a1 c1, .func g2 a2 c2]) (.int .i64 1)).run Tryz.prog W = .ok (.func g2 a2 c2) W := by
  simp [Instr.index, run_underlying Tryz.underlying166, asIntOf]
  rfl
attribute [local go_sem] run_idx0 run_idx1
theorem h_one {w : World} {b sb X E : Nat} {ep f : Nat} {c : Nat} {body : ByteArray} {TE : TypeId} (B1 : Blk w sb #[.pointer (some ⟨b, 0, none⟩)] 81) (BX : Blk w X #[.int .i64 ep, .int .i64 f, .int .u64 c, .string body] 161) (BE : Blk w E #[.int .i64 0] TE)
    (RF : Calls Tryz.prog 93 #[.pointer (some ⟨b, 0, none⟩), .agg #[.int .i64 ep, .int .i64 f, .int .u64 c, .string body]] w fun e w' => e = .returned (.int .i64 0) ∧ Below w.heap.size w w') :
    Calls Tryz.prog 92 #[.pointer (some ⟨sb, 0, none⟩), .pointer (some ⟨X, 0, none⟩), .pointer (some ⟨E, 0, none⟩)] w fun e w' => e = .returned (.tuple #[]) ∧ ∃ w1, Below w.heap.size w w1 ∧ w' = w1.setCell ⟨E, 0, none⟩ (.int .i64 0) := by
  have RF := hid RF
  have c1 : w.cell? ⟨sb, 0, none⟩ = some (.pointer (some ⟨b, 0, none⟩)) := B1.cell 0
  have x0 : w.cell? ⟨X, 0, none⟩ = some (.int .i64 ep) := BX.cell 0
  have x1 : w.cell? ⟨X, 1, none⟩ = some (.int .i64 f) := BX.cell 1
  have x2 : w.cell? ⟨X, 2, none⟩ = some (.int .u64 c) := BX.cell 2
  have x3 : w.cell? ⟨X, 3, none⟩ = some (.string body) := BX.cell 3
  clear B1 BX
  go_enter Tryz.func92, Tryz.ntmps92
  go_wp2_with fail
  refine RF.out.mono ?_
  rintro e w1 ⟨rfl, hb1⟩
  have BE1 := BE.below hb1 nlr
  have e0 : w1.cell? ⟨E, 0, none⟩ = some (.int .i64 0) := BE1.cell 0
  have ef := BE1.free 0
  have el := BE1.lt
  go_wp2_with fail
  go_end0
  exact ⟨rfl, w1, hb1, rfl⟩
theorem h_two {w : World} {b sb X D E : Nat} {ep f : Nat} {c : Nat} {body : ByteArray} {kind l k : Int} {zs : List Nd} {TE : TypeId} (B1 : Blk w sb #[.pointer (some ⟨b, 0, none⟩)] 81) (BX : Blk w X #[.int .i64 ep, .int .i64 f, .int .u64 c, .string body] 161) (BE : Blk w E #[.int .i64 0] TE) (BD : Blk w D #[.pointer none] 51) (hDE : E ≠ D)
    (MR : Calls Tryz.prog 95 #[.pointer (some ⟨b, 0, none⟩), .string body] w (DgNew kind l k 20000 zs w)) :
    Calls Tryz.prog 94 #[.pointer (some ⟨sb, 0, none⟩), .pointer (some ⟨X, 0, none⟩), .pointer (some ⟨D, 0, none⟩), .pointer (some ⟨E, 0, none⟩)] w fun e w' => e = .returned (.tuple #[]) ∧ ∃ w1 dg q g h, DgV w1 dg q g h kind l k 20000 zs ∧ (w.heap.size ≤ dg ∧ w.heap.size ≤ q ∧ w.heap.size ≤ g ∧ w.heap.size ≤ h) ∧ Below w.heap.size w w1 ∧ w' = (w1.setCell ⟨D, 0, none⟩ (.pointer (some ⟨dg, 0, none⟩))).setCell ⟨E, 0, none⟩ (.int .i64 0) := by
  have MR := hid MR
  have c1 : w.cell? ⟨sb, 0, none⟩ = some (.pointer (some ⟨b, 0, none⟩)) := B1.cell 0
  have x3 : w.cell? ⟨X, 3, none⟩ = some (.string body) := BX.cell 3
  clear B1 BX
  go_enter Tryz.func94, Tryz.ntmps94
  go_wp2_with fail
  refine MR.out.mono ?_
  rintro e w1 ⟨dg, q, g, h, rfl, d, e1, e2, e3, e4, hb1⟩
  have BE1 := BE.below hb1 nlr
  have BD1 := BD.below hb1 nlr
  have d0 : w1.cell? ⟨D, 0, none⟩ = some (.pointer none) := BD1.cell 0
  have df := BD1.free 0
  have dl := BD1.lt
  have BE2 : Blk (w1.setCell ⟨D, 0, none⟩ (.pointer (some ⟨dg, 0, none⟩))) E #[.int .i64 0] TE := BE1.set_other 0 _ hDE
  have e0 : (w1.setCell ⟨D, 0, none⟩ (.pointer (some ⟨dg, 0, none⟩))).cell? ⟨E, 0, none⟩ = some (.int .i64 0) := BE2.cell 0
  have ef := BE2.free 0
  have el := BE2.lt
  have HD := hid d
  clear d
  go_wp2_with fail
  go_end0
  exact ⟨rfl, w1, dg, q, g, h, HD.out, ⟨e1, e2, e3, e4⟩, hb1, rfl⟩
structure HrSt (w W : World) (sb X E D b ep f c : Nat) (body : ByteArray) (o : Option Addr) : Prop where
  s1 : Blk W sb #[.pointer (some ⟨b, 0, none⟩)] 81
  x : Blk W X #[.int .i64 ep, .int .i64 f, .int .u64 c, .string body] 161
  e : Blk W E #[.int .i64 0] 30
  d : Blk W D #[.pointer o] 51
  bel : Below w.heap.size w W
  ord : w.heap.size ≤ sb ∧ sb < X ∧ X < E ∧ E < D
theorem HrSt.below {w W W' : World} {sb X E D b ep f c : Nat} {body : ByteArray} {o : Option Addr} (h : HrSt w W sb X E D b ep f c body o) (q : Below W.heap.size W W') : HrSt w W' sb X E D b ep f c body o :=
  ⟨h.s1.below q nlr, h.x.below q nlr, h.e.below q nlr, h.d.below q nlr, h.bel.trans (q.mono h.bel.size), h.ord⟩
theorem HrSt.setE {w W : World} {sb X E D b ep f c : Nat} {body : ByteArray} {o : Option Addr} (h : HrSt w W sb X E D b ep f c body o) : HrSt w (W.setCell ⟨E, 0, none⟩ (.int .i64 0)) sb X E D b ep f c body o := by
  obtain ⟨o1, o2, o3, o4⟩ := h.ord
  have k : ∀ j, j ≠ E → (W.setCell ⟨E, 0, none⟩ (.int .i64 0)).heap[j]? = W.heap[j]? := fun j hj => Below.heap_setCell _ ⟨E, 0, none⟩ _ j hj
  exact ⟨h.s1.keep (k _ (by omega)), h.x.keep (k _ (by omega)), h.e.set 0 _, h.d.keep (k _ (by omega)), h.bel.setCell (p := ⟨E, 0, none⟩) (by show _ ≤ E; omega) _, h.ord⟩
theorem HrSt.setD {w W : World} {sb X E D b ep f c : Nat} {body : ByteArray} {o : Option Addr} (h : HrSt w W sb X E D b ep f c body o) (o' : Option Addr) : HrSt w (W.setCell ⟨D, 0, none⟩ (.pointer o')) sb X E D b ep f c body o' := by
  obtain ⟨o1, o2, o3, o4⟩ := h.ord
  have k : ∀ j, j ≠ D → (W.setCell ⟨D, 0, none⟩ (.pointer o')).heap[j]? = W.heap[j]? := fun j hj => Below.heap_setCell _ ⟨D, 0, none⟩ _ j hj
  exact ⟨h.s1.keep (k _ (by omega)), h.x.keep (k _ (by omega)), h.e.keep (k _ (by omega)), h.d.set 0 _, h.bel.setCell (p := ⟨D, 0, none⟩) (by show _ ≤ D; omega) _, h.ord⟩
def HrRel (w : World) (sb X E D b ep f c : Nat) (body : ByteArray) (kind l k : Int) (zs : List Nd) (gn : Nat) (i : Value) (wr : World) : Prop :=
  (gn = 2 ∧ i = .int .i64 0 ∧ HrSt w wr sb X E D b ep f c body none) ∨ (gn = 1 ∧ i = .int .i64 1 ∧ HrSt w wr sb X E D b ep f c body none) ∨
  (i = .int .i64 2 ∧ ∃ dg q g h, HrSt w wr sb X E D b ep f c body (some ⟨dg, 0, none⟩) ∧ DgV wr dg q g h kind l k 20000 zs ∧ (D < dg ∧ D < q ∧ D < g ∧ D < h))
structure HrEnd (w W : World) (sb X b ep f c : Nat) (body : ByteArray) (arr : Array Value) (dg q g h : Nat) (kind l k : Int) (zs : List Nd) : Prop where
  s1 : Blk W sb #[.pointer (some ⟨b, 0, none⟩)] 81
  x : Blk W X #[.int .i64 ep, .int .i64 f, .int .u64 c, .string body] 161
  s : Blk W b arr 148
  d : DgV W dg q g h kind l k 20000 zs
  ch : ChB (fun j => j = b) w W
  ne : sb ≠ b ∧ X ≠ b ∧ ¬ DB dg q g h b
theorem HrEnd.below {w W W' : World} {sb X b ep f c : Nat} {body : ByteArray} {arr : Array Value} {dg q g h : Nat} {kind l k : Int} {zs : List Nd} (H : HrEnd w W sb X b ep f c body arr dg q g h kind l k zs) (p : Below W.heap.size W W') : HrEnd w W' sb X b ep f c body arr dg q g h kind l k zs :=
  ⟨H.s1.below p nlr, H.x.below p nlr, H.s.below p nlr, H.d.below p nlr, H.ch.trans (ChB.of_below p (S := fun j => j = b)) (fun _ _ q => q), H.ne⟩
theorem HrEnd.set {w W : World} {sb X b ep f c : Nat} {body : ByteArray} {arr : Array Value} {dg q g h : Nat} {kind l k : Int} {zs : List Nd} (H : HrEnd w W sb X b ep f c body arr dg q g h kind l k zs) (i : Nat) (v : Value) : HrEnd w (W.setCell ⟨b, i, none⟩ v) sb X b ep f c body (arr.setIfInBounds i v) dg q g h kind l k zs := by
  obtain ⟨n1, n2, n3⟩ := H.ne
  have kp : ∀ j, j ≠ b → (W.setCell ⟨b, i, none⟩ v).heap[j]? = W.heap[j]? := fun j hj => Below.heap_setCell _ ⟨b, i, none⟩ _ j hj
  exact ⟨H.s1.keep (kp _ n1), H.x.keep (kp _ n2), H.s.set i v, H.d.keepB (fun j _ hj => kp j (fun e => n3 (by rw [← e]; exact hj))), H.ch.trans (S' := fun j => j = b) ⟨rfl, rfl, rfl, by simp, fun j _ q => kp j q⟩ (fun _ _ q => q), H.ne⟩
def Tb.Sn.hrd (s : Sn) (dg q g h f c : Nat) (zs its : List Nd) : Sn := { s with dg := dg, q := q, g := g, h := h, heard := s.heard ||| 1 <<< f, cover := s.cover ||| c, zs := zs, its := its }
def SnHeard (kind l k wait : Int) (ep i : Nat) (s : Sn) (f c : Nat) (zs : List Nd) (w w' : World) : Prop :=
  ∃ dg q g h, (∀ its, SnV w' kind l k wait ep i (s.hrd dg q g h f c zs its)) ∧ (w.heap.size ≤ dg ∧ w.heap.size ≤ q ∧ w.heap.size ≤ g ∧ w.heap.size ≤ h) ∧ ChB s.B w w'
theorem sn_hear {w : World} {kind l k wait : Int} {ep i : Nat} {s : Sn} (S : SnV w kind l k wait ep i s) (f c : Nat) {zs : List Nd} (d : Dg l k zs) (hep : ep ≤ 1099511627776) (hst : s.sent = false) (hk : s.kids.testBit f = true) (hh : s.heard.testBit f = false) (ha : s.cover &&& c = 0) (hcf : c.testBit f = true)
    (hf : f < 48) (b1 : s.kids < 281474976710656) (b2 : s.heard < 281474976710656) (b3 : s.cover < 281474976710656) (b4 : c < 281474976710656) (hl : zs.length ≤ 8000) (hz : s.zs.length + zs.length ≤ 19999) (hs : sumL s.zs + sumL zs ≤ 72057594037927935) :
    Calls Tryz.prog 42 #[.pointer (some ⟨s.b, 0, none⟩), .string (txt ep l k f c zs)] w fun e w' => e = .returned (.int .i64 0) ∧ SnHeard kind l k wait ep i s f c (mergeL l k s.zs zs) w w' := by
  have hbl := body_len d hl
  have LD := hid (fun W => lg_decode (e := ep) (f := f) (c := c) (bodyB l k zs) W hep hf b4 hcf (by omega))
  have RF := hid (fun W (y : SnV W kind l k wait ep i s) => sn_refused y f c (bodyB l k zs) hst hk hh ha hf b1 b2 b3 b4)
  have MR := hid (fun W (y : SnV W kind l k wait ep i s) => sn_more y d hl hz hs)
  have UN := hid (fun W B T (X : Blk W B #[.int .u64 s.cover, .int .u64 c] T) => cw_union (by rw [two48]; exact b3) (by rw [two48]; exact b4) X)
  have WI := hid (fun W => cw_with s.heard f W (by rw [two48]; exact b2) hf)
  have eTX : (⟨(sealL (letG ep f c (bodyB l k zs))).toArray⟩ : ByteArray) = txt ep l k f c zs := rfl
  rw [eTX] at LD
  have HS := hid S
  have B1 := Blk.new w #[.pointer (some ⟨s.b, 0, none⟩)] 81
  have hb1 : Below w.heap.size w (w.alloc (.cells #[.pointer (some ⟨s.b, 0, none⟩)] 81)) := (Below.refl _ _).alloc nlr _
  generalize txt ep l k f c zs = TX at *
  generalize bodyB l k zs = BD at *
  obtain ⟨b, eb⟩ : ∃ b, s.b = b := ⟨_, rfl⟩
  have EB := hid eb
  rw [eb] at B1 hb1 RF MR ⊢
  clear hbl eTX hst hk hh ha hcf hl hz hs d S eb
  go_enter Tryz.func42, Tryz.ntmps42
  go_wp2_with fail
  refine (LD.out _).mono ?_
  rintro e w1 ⟨rfl, hb2⟩
  have B1 := B1.below hb2 nlr
  have hb2 := hb1.trans (hb2.mono hb1.size)
  obtain ⟨W5, eW5⟩ : ∃ W, ((((w1.alloc (.cells #[.int .i64 ep, .int .i64 f, .int .u64 c, .string BD] 161)).alloc (.cells #[.int .i64 0] 30)).alloc (.cells #[.pointer none] 51)).alloc
      (.cells #[.func (.func 92) #[] #[.pointer (some ⟨w.heap.size, 0, none⟩), .pointer (some ⟨w1.heap.size, 0, none⟩), .pointer (some ⟨w1.heap.size + 1, 0, none⟩)],
        .func (.func 94) #[] #[.pointer (some ⟨w.heap.size, 0, none⟩), .pointer (some ⟨w1.heap.size, 0, none⟩), .pointer (some ⟨w1.heap.size + 1 + 1, 0, none⟩), .pointer (some ⟨w1.heap.size + 1, 0, none⟩)]] 166)) = W := ⟨_, rfl⟩
  have H5 : HrSt w W5 w.heap.size w1.heap.size (w1.heap.size + 1) (w1.heap.size + 1 + 1) b ep f c BD none := by
    have hs1 := hb2.size
    have hl1 := B1.lt
    have x0 := Blk.new w1 #[.int .i64 ep, .int .i64 f, .int .u64 c, .string BD] 161
    have x1 := Blk.new (w1.alloc (.cells #[.int .i64 ep, .int .i64 f, .int .u64 c, .string BD] 161)) #[.int .i64 0] 30
    have x2 := Blk.new ((w1.alloc (.cells #[.int .i64 ep, .int .i64 f, .int .u64 c, .string BD] 161)).alloc (.cells #[.int .i64 0] 30)) #[.pointer none] 51
    rw [World.size_alloc] at x1
    rw [World.size_alloc, World.size_alloc] at x2
    rw [← eW5]
    exact ⟨(((B1.alloc _).alloc _).alloc _).alloc _, ((x0.alloc _).alloc _).alloc _, (x1.alloc _).alloc _, x2.alloc _, (((hb2.alloc hs1 _).alloc (by simp; omega) _).alloc (by simp; omega) _).alloc (by simp; omega) _, by omega, by omega, by omega, by omega⟩
  have F5 : Blk W5 (w1.heap.size + 1 + 1 + 1) #[.func (.func 92) #[] #[.pointer (some ⟨w.heap.size, 0, none⟩), .pointer (some ⟨w1.heap.size, 0, none⟩), .pointer (some ⟨w1.heap.size + 1, 0, none⟩)],
        .func (.func 94) #[] #[.pointer (some ⟨w.heap.size, 0, none⟩), .pointer (some ⟨w1.heap.size, 0, none⟩), .pointer (some ⟨w1.heap.size + 1 + 1, 0, none⟩), .pointer (some ⟨w1.heap.size + 1, 0, none⟩)]] 166 := by
    rw [← eW5]
    have := Blk.new (((w1.alloc (.cells #[.int .i64 ep, .int .i64 f, .int .u64 c, .string BD] 161)).alloc (.cells #[.int .i64 0] 30)).alloc (.cells #[.pointer none] 51)) #[.func (.func 92) #[] #[.pointer (some ⟨w.heap.size, 0, none⟩), .pointer (some ⟨w1.heap.size, 0, none⟩), .pointer (some ⟨w1.heap.size + 1, 0, none⟩)],
        .func (.func 94) #[] #[.pointer (some ⟨w.heap.size, 0, none⟩), .pointer (some ⟨w1.heap.size, 0, none⟩), .pointer (some ⟨w1.heap.size + 1 + 1, 0, none⟩), .pointer (some ⟨w1.heap.size + 1, 0, none⟩)]] 166
    rw [World.size_alloc, World.size_alloc, World.size_alloc] at this
    exact this
  go_upto_region 6 with fail
  clear eW5 B1 hb1 hb2 LD
  generalize w1.heap.size = X at *
  generalize X + 1 = E at *
  generalize E + 1 = D at *
  generalize D + 1 = F at *
  have g0 : W5.cell? ⟨F, 0, none⟩ = some (.func (.func 92) #[] #[.pointer (some ⟨w.heap.size, 0, none⟩), .pointer (some ⟨X, 0, none⟩), .pointer (some ⟨E, 0, none⟩)]) := F5.cell 0
  have g1 : W5.cell? ⟨F, 1, none⟩ = some (.func (.func 94) #[] #[.pointer (some ⟨w.heap.size, 0, none⟩), .pointer (some ⟨X, 0, none⟩), .pointer (some ⟨D, 0, none⟩), .pointer (some ⟨E, 0, none⟩)]) := F5.cell 1
  have R0 : Hid (HrRel w w.heap.size X E D b ep f c BD kind l k (mergeL l k s.zs zs) 2 (.int .i64 0) W5) := .inl ⟨rfl, rfl, H5⟩
  clear H5 F5
  go_wp2_with fail
  go_loopg [22] 2 (fun gn i wr => HrRel w w.heap.size X E D b ep f c BD kind l k (mergeL l k s.zs zs) gn i wr)
  case atStart => exact R0.out
  case round =>
    clear g0 g1 R0
    obtain ⟨rfl, rfl, H⟩ | ⟨rfl, rfl, H⟩ | ⟨rfl, dg, q, g, h, H, d, hfr⟩ := hrel
    · have SW := HS.out.below H.bel
      have C1 := hid (h_one H.s1 H.x H.e (RF.out wr SW))
      have e0 : wr.cell? ⟨E, 0, none⟩ = some (.int .i64 0) := H.e.cell 0
      have HH := hid H
      clear H SW
      go_wp2_with fail
      refine C1.out.mono ?_
      rintro e w2 ⟨rfl, w3, hb3, rfl⟩
      have R1 : Hid (HrRel w w.heap.size X E D b ep f c BD kind l k (mergeL l k s.zs zs) 1 (.int .i64 1) (w3.setCell ⟨E, 0, none⟩ (.int .i64 0))) := .inr (.inl ⟨rfl, rfl, (HH.out.below hb3).setE⟩)
      clear HH C1 hb3
      go_wp2_with fail
      go_roundg 1
      case rel => exact R1.out
      case measure => omega
    · have SW := HS.out.below H.bel
      have o4 := H.ord
      have C1 := hid (h_two H.s1 H.x H.e H.d (by omega) (MR.out wr SW))
      have e0 : wr.cell? ⟨E, 0, none⟩ = some (.int .i64 0) := H.e.cell 0
      have HH := hid H
      clear H SW
      go_wp2_with fail
      refine C1.out.mono ?_
      rintro e w2 ⟨rfl, w3, dg, q, g, h, d3, hfr, hb3, rfl⟩
      have hDl := HH.out.d.lt
      have R1 : Hid (HrRel w w.heap.size X E D b ep f c BD kind l k (mergeL l k s.zs zs) 0 (.int .i64 2) ((w3.setCell ⟨D, 0, none⟩ (.pointer (some ⟨dg, 0, none⟩))).setCell ⟨E, 0, none⟩ (.int .i64 0))) := by
        refine .inr (.inr ⟨rfl, dg, q, g, h, ((HH.out.below hb3).setD _).setE, d3.keepB (fun j _ hj => ?_), by omega⟩)
        have hj2 : wr.heap.size ≤ j := by
          rcases hj with e | e | e | e
          · omega
          · omega
          · omega
          · have e : j = h := e
            omega
        exact (Below.heap_setCell _ ⟨E, 0, none⟩ _ j (by show j ≠ E; omega)).trans (Below.heap_setCell _ ⟨D, 0, none⟩ _ j (by show j ≠ D; omega))
      clear HH C1 hb3 d3 hfr
      go_wp2_with fail
      go_roundg 0
      case rel => exact R1.out
      case measure => omega
    · have SW := HS.out.below H.bel
      have e0 : wr.cell? ⟨E, 0, none⟩ = some (.int .i64 0) := H.e.cell 0
      have d0 : wr.cell? ⟨D, 0, none⟩ = some (.pointer (some ⟨dg, 0, none⟩)) := H.d.cell 0
      have s0 : wr.cell? ⟨w.heap.size, 0, none⟩ = some (.pointer (some ⟨b, 0, none⟩)) := H.s1.cell 0
      have q11 := SW.blk.cell 11
      have f11 := SW.blk.free 11
      have l11 := SW.blk.lt
      rw [EB.out] at q11 f11 l11
      have q11 : wr.cell? ⟨b, 11, none⟩ = some (.pointer (some ⟨s.dg, 0, none⟩)) := q11
      have hbw : b < w.heap.size := by rw [← EB.out]; exact HS.out.blk.lt
      have o4 := H.ord
      have K0 : HrEnd w wr w.heap.size X b ep f c BD #[.int .i64 l, .int .i64 k, .int .i64 kind, .int .i64 i, .int .u64 s.kids, .int .i64 wait, .int .i64 ep, .int .i64 0, .int .u64 s.heard, .int .u64 s.cover, .bool s.sent, .pointer (some ⟨s.dg, 0, none⟩)] dg q g h kind l k (mergeL l k s.zs zs) := by
        refine ⟨H.s1, H.x, by rw [← EB.out]; exact SW.blk, d, ChB.of_below H.bel, by omega, by omega, fun q => ?_⟩
        rcases q with q | q | q | q
        · omega
        · omega
        · omega
        · have q : b = h := q
          omega
      have K1 := hid (K0.set 11 (.pointer (some ⟨dg, 0, none⟩)))
      have hfr2 : w.heap.size ≤ dg ∧ w.heap.size ≤ q ∧ w.heap.size ≤ g ∧ w.heap.size ≤ h := by omega
      clear K0 H d SW hfr o4
      go_upto_region 15 with fail
      clear e0 d0 s0 q11 f11 l11
      generalize wr.setCell ⟨b, 11, none⟩ (.pointer (some ⟨dg, 0, none⟩)) = w6 at *
      obtain ⟨cv, ecv⟩ : ∃ x, s.cover = x := ⟨_, rfl⟩
      obtain ⟨hd, ehd⟩ : ∃ x, s.heard = x := ⟨_, rfl⟩
      have ECV := hid ecv
      have EHD := hid ehd
      rw [ecv, ehd] at K1
      rw [ecv] at UN
      rw [ehd] at WI
      clear ecv ehd
      have K := K1.out
      have t0 : w6.cell? ⟨w.heap.size, 0, none⟩ = some (.pointer (some ⟨b, 0, none⟩)) := K.s1.cell 0
      have t9 : w6.cell? ⟨b, 9, none⟩ = some (.int .u64 cv) := K.s.cell 9
      have g9 := K.s.free 9
      have x2 : w6.cell? ⟨X, 2, none⟩ = some (.int .u64 c) := K.x.cell 2
      have bl := K.s.lt
      have xl := K.x.lt
      have sl := K.s1.lt
      clear K
      go_cut [4] (fun a wx => a = .int .i64 0 ∧ wx = ((w6.setCell ⟨b, 9, none⟩ (.int .u64 (cv ||| c : Nat))).alloc (.cells #[.int .u64 cv, .int .u64 c] 53)).drew)
      case first =>
        clear K1 WI RF MR HS
        go_region_with ((go_at_call 96; refine (UN.out _ _ 53 (by first | exact Blk.new w6 _ _ | exact (Blk.new w6 _ _).drewN 1)).mono ?_; rintro e w7 ⟨rfl, rfl⟩))
        all_goals
          go_wp2_with fail
          go_meet
          exact ⟨rfl, rfl⟩
      case rest =>
        obtain ⟨rfl, ew⟩ := hcut
        obtain ⟨w8, rfl⟩ : ∃ x, x = wc := ⟨_, rfl⟩
        have K2 := hid ((K1.out.set 9 (.int .u64 (cv ||| c : Nat))).below (below_drewN ((Below.refl _ _).alloc nlr (.cells #[.int .u64 cv, .int .u64 c] 53)) 1))
        rw [show ((w6.setCell ⟨b, 9, none⟩ (.int .u64 (cv ||| c : Nat))).alloc (.cells #[.int .u64 cv, .int .u64 c] 53)).drewN 1 = w8 from ew.symm] at K2
        clear ew K1 t0 t9 g9 x2 bl xl sl UN
        have K := K2.out
        have t0 : w8.cell? ⟨w.heap.size, 0, none⟩ = some (.pointer (some ⟨b, 0, none⟩)) := K.s1.cell 0
        have t8 : w8.cell? ⟨b, 8, none⟩ = some (.int .u64 hd) := K.s.cell 8
        have g8 := K.s.free 8
        have x1 : w8.cell? ⟨X, 1, none⟩ = some (.int .i64 f) := K.x.cell 1
        have bl := K.s.lt
        have xl := K.x.lt
        have sl := K.s1.lt
        clear K
        obtain ⟨nh, enh⟩ : ∃ x, (hd ||| 2 ^ f : Nat) = x := ⟨_, rfl⟩
        have ENH := hid enh
        rw [enh] at WI
        clear enh
        go_upto_region 16 with fail
        go_cut [4] (fun a wx => a = .int .i64 0 ∧ wx = (w8.setCell ⟨b, 8, none⟩ (.int .u64 nh)).drew)
        case first =>
          clear K2 RF MR HS
          go_region_with ((go_at_call 82; refine (WI.out _).mono ?_; rintro e w7 ⟨rfl, rfl⟩))
          all_goals
            go_wp2_with fail
            go_meet
            exact ⟨rfl, rfl⟩
        case rest =>
          obtain ⟨rfl, ew⟩ := hcut
          have K3 := hid ((K2.out.set 8 (.int .u64 nh)).below (below_drewN (Below.refl _ _) 1))
          rw [show (w8.setCell ⟨b, 8, none⟩ (.int .u64 nh)).drewN 1 = wc from ew.symm] at K3
          clear ew K2 t0 t8 g8 x1 bl xl sl WI RF MR
          go_wp2_with fail
          go_ret
          refine ⟨rfl, dg, q, g, h, fun its => ?_, hfr2, ?_⟩
          · have K := K3.out
            have eb := EB.out
            refine ⟨?_, K.d, ?_, HS.out.wt⟩
            · have hs := K.s
              rw [← eb, ← ENH.out, ← ECV.out, ← EHD.out, ← Nat.one_shiftLeft] at hs
              exact hs
            · intro q
              exact K.ne.2.2 (by rw [← eb]; exact q)
          · have eb := EB.out
            exact K3.out.ch.mono (fun j _ q => .inl (by rw [eb]; exact q))
end Go.Proofs.YtdnlejboijkcfaaGreatDoor
