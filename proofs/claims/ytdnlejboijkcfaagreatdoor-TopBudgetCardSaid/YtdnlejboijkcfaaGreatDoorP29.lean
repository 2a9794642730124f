/- Texts laid together. -/
import Derived.Test.YtdnlejboijkcfaaGreatDoorP25
import Derived.Test.YtdnlejboijkcfaaGreatDoorP27
import Derived.Test.YtdnlejboijkcfaaGreatDoorP28
import Derived.Test.YtdnlejboijkcfaaGreatDoorP23
import Derived.Laws.EntriesVeiled
/- A sensor in memory: what a letter is refused for, and what it tells. -/
namespace Go.Proofs.YtdnlejboijkcfaaGreatDoor
set_option maxHeartbeats 8000000
set_option maxRecDepth 100000
open Go.RowKit Nl Vy Tb
theorem sn_refused {w : World} {kind l k wait : Int} {ep i : Nat} {s : Sn} (S : SnV w kind l k wait ep i s) (f c : Nat) (body : ByteArray) (hst : s.sent = false) (hk : s.kids.testBit f = true) (hh : s.heard.testBit f = false) (ha : s.cover &&& c = 0)
    (hf : f < 48) (b1 : s.kids < 281474976710656) (b2 : s.heard < 281474976710656) (b3 : s.cover < 281474976710656) (b4 : c < 281474976710656) :
    Calls Tryz.prog 93 #[.pointer (some ⟨s.b, 0, none⟩), .agg #[.int .i64 ep, .int .i64 f, .int .u64 c, .string body]] w fun e w' => e = .returned (.int .i64 0) ∧ Below w.heap.size w w' := by
  have hb1 : Below w.heap.size w (w.alloc (.cells #[.int .i64 ep, .int .i64 f, .int .u64 c, .string body] 161)) := (Below.refl _ _).alloc nlr _
  have X1 := Blk.new w #[.int .i64 ep, .int .i64 f, .int .u64 c, .string body] 161
  have S1 := S.below hb1
  have HK := hid (fun W => cw_has s.kids f W (by rw [two48]; exact b1) hf)
  have HH := hid (fun W => cw_has s.heard f W (by rw [two48]; exact b2) hf)
  have HA := hid (fun W => cw_apart s.cover c W (by rw [two48]; exact b3) (by rw [two48]; exact b4) ha)
  rw [hk] at HK
  rw [hh] at HH
  have s6 : (w.alloc (.cells #[.int .i64 ep, .int .i64 f, .int .u64 c, .string body] 161)).cell? ⟨s.b, 6, none⟩ = some (.int .i64 ep) := S1.blk.cell 6
  have s4 : (w.alloc (.cells #[.int .i64 ep, .int .i64 f, .int .u64 c, .string body] 161)).cell? ⟨s.b, 4, none⟩ = some (.int .u64 s.kids) := S1.blk.cell 4
  have s8 : (w.alloc (.cells #[.int .i64 ep, .int .i64 f, .int .u64 c, .string body] 161)).cell? ⟨s.b, 8, none⟩ = some (.int .u64 s.heard) := S1.blk.cell 8
  have s9 : (w.alloc (.cells #[.int .i64 ep, .int .i64 f, .int .u64 c, .string body] 161)).cell? ⟨s.b, 9, none⟩ = some (.int .u64 s.cover) := S1.blk.cell 9
  have s10 : (w.alloc (.cells #[.int .i64 ep, .int .i64 f, .int .u64 c, .string body] 161)).cell? ⟨s.b, 10, none⟩ = some (.bool false) := by rw [← hst]; exact S1.blk.cell 10
  have SB := S1.blk.lt
  clear S1 S hst hk hh ha
  generalize s.b = b at *
  generalize s.kids = kd at *
  generalize s.heard = hd at *
  generalize s.cover = cv at *
  go_enter Tryz.func93, Tryz.ntmps93
  go_upto_region 1 with fail
  generalize hW : (w.alloc (.cells #[.int .i64 ep, .int .i64 f, .int .u64 c, .string body] 161)) = w1 at *
  clear hW
  have x0 : w1.cell? ⟨w.heap.size, 0, none⟩ = some (.int .i64 ep) := X1.cell 0
  have x1 : w1.cell? ⟨w.heap.size, 1, none⟩ = some (.int .i64 f) := X1.cell 1
  have x2 : w1.cell? ⟨w.heap.size, 2, none⟩ = some (.int .u64 c) := X1.cell 2
  have ze : ((ep : Int) != (ep : Int)) = false := by simp
  go_quiet (fail)
  have W2 : ∀ j k v, w1.cell? ⟨j, k, none⟩ = some v → (w1.drewN nq).cell? ⟨j, k, none⟩ = some v := fun _ _ _ h => h
  have hb2 : Below w.heap.size w (w1.drewN nq) := below_drewN hb1 nq
  have a1 := W2 _ _ _ x1
  have a2 := W2 _ _ _ x2
  have a4 := W2 _ _ _ s4
  have a8 := W2 _ _ _ s8
  have a9 := W2 _ _ _ s9
  have a10 := W2 _ _ _ s10
  clear W2 x0 x1 x2 s6 s4 s8 s9 s10 hb1 X1 SB
  generalize w1.drewN nq = w2 at *
  clear w1
  go_upto_region 3 with fail
  go_quiet ((go_at_call 137; exact Calls.quiet_of_same (calls_flip (HK.out _))))
  have W2 : ∀ j k v, w2.cell? ⟨j, k, none⟩ = some v → (w2.drewN nq).cell? ⟨j, k, none⟩ = some v := fun _ _ _ h => h
  have hb3 : Below w.heap.size w (w2.drewN nq) := below_drewN hb2 nq
  have b1' := W2 _ _ _ a1
  have b2' := W2 _ _ _ a2
  have b8 := W2 _ _ _ a8
  have b9 := W2 _ _ _ a9
  have b10 := W2 _ _ _ a10
  clear W2 a1 a2 a4 a8 a9 a10 hb2
  generalize w2.drewN nq = w3 at *
  clear w2
  go_upto_region 7 with fail
  go_quiet ((first
    | (go_at_call 137; exact Calls.quiet_of_same (calls_flip (HH.out _)))
    | (go_at_call 148; exact Calls.quiet_of_same (calls_flip (HA.out _)))))
  go_wp2_with fail
  go_ret
  exact ⟨rfl, below_drewN hb3 _⟩
theorem sn_more {w : World} {kind l k wait : Int} {ep i : Nat} {s : Sn} (S : SnV w kind l k wait ep i s) {zs : List Nd} (d : Dg l k zs) (hl : zs.length ≤ 8000) (hz : s.zs.length + zs.length ≤ 19999) (hs : sumL s.zs + sumL zs ≤ 72057594037927935) :
    Calls Tryz.prog 95 #[.pointer (some ⟨s.b, 0, none⟩), .string (bodyB l k zs)] w (DgNew kind l k 20000 (mergeL l k s.zs zs) w) := by
  have hp := S.d.pool.is
  have hld := load_dg d
  have hbs := body_len d hl
  have eB : (bodyB l k zs).data.toList = encB l k zs := by
    show (encL l k (sumL zs) (zs.map (·.1)) (zs.map (·.2))).toArray.toList = _
    rw [List.toList_toArray]; rfl
  have PK := hid (w_peek (bodyB l k zs) w (by omega) hld eB)
  have DC := hid (fun W => w_decode (bodyB l k zs) kind W (by omega) (fun l' k' zs' h1 h2 => by
    obtain ⟨-, -, rfl⟩ := enc_inj hld h1 (eB.symm.trans h2)
    omega))
  have DC : Hid (∀ W, Calls Tryz.prog 150 #[.string (bodyB l k zs), .int .i64 kind] W (DgNew kind l k 20000 zs W)) := fun W => by
    refine (DC.out W).mono ?_
    rintro e w' (⟨er, -, -, -, -, hd⟩ | ⟨l', k', zs', h1, h2, h3⟩)
    · exact absurd eB (hd l k zs hld)
    · obtain ⟨rfl, rfl, rfl⟩ := enc_inj hld h1 (eB.symm.trans h2)
      rcases h3 with ⟨h3, -⟩ | ⟨-, h3⟩
      · rw [hp] at h3; cases h3
      · exact h3
  have MG := hid (fun W dg' q' g' h' (y : SnV W kind l k wait ep i s) (d' : DgV W dg' q' g' h' kind l k 20000 zs) => bl_merge y.d d' (by decide) (by decide) hz hs)
  have HS := hid S
  generalize bodyB l k zs = BD at *
  obtain ⟨b, eb⟩ : ∃ b, s.b = b := ⟨_, rfl⟩
  have EB := hid eb
  obtain ⟨dg, edg⟩ : ∃ b, s.dg = b := ⟨_, rfl⟩
  have EDG := hid edg
  have FX := hid (fun W (y : SnV W kind l k wait ep i s) => show (W.cell? ⟨b, 0, none⟩ = some (.int .i64 l) ∧ W.cell? ⟨b, 1, none⟩ = some (.int .i64 k) ∧ W.cell? ⟨b, 2, none⟩ = some (.int .i64 kind) ∧ W.cell? ⟨b, 11, none⟩ = some (.pointer (some ⟨dg, 0, none⟩))) from by
    rw [← edg, ← eb]
    exact ⟨y.blk.cell 0, y.blk.cell 1, y.blk.cell 2, y.blk.cell 11⟩)
  rw [eb]
  clear eb edg hp hld hbs eB d hl hz hs S
  go_enter Tryz.func95, Tryz.ntmps95
  go_wp2_with fail
  refine PK.out.mono ?_
  rintro e w1 ⟨⟨n, m, rfl⟩, hb1⟩
  have X2 := Blk.new w1 #[.int .i64 l, .int .i64 k, .int .i64 0] 24
  have hb2 : Below w.heap.size w (w1.alloc (.cells #[.int .i64 l, .int .i64 k, .int .i64 0] 24)) := hb1.alloc hb1.size _
  have S2 := HS.out.below hb2
  obtain ⟨s0, s1, s2, s11⟩ := FX.out _ S2
  go_upto_region 4 with fail
  generalize hW : w1.alloc (.cells #[.int .i64 l, .int .i64 k, .int .i64 0] 24) = w2 at *
  clear hW
  have x0 : w2.cell? ⟨w1.heap.size, 0, none⟩ = some (.int .i64 l) := X2.cell 0
  have x1 : w2.cell? ⟨w1.heap.size, 1, none⟩ = some (.int .i64 k) := X2.cell 1
  have zl : (l != l) = false := by simp
  have zk : (k != k) = false := by simp
  go_quiet (fail)
  have hb3 := hb2.trans (below_drewN (Below.refl w.heap.size w2) nq)
  have S3 := HS.out.below hb3
  generalize w2.drewN nq = w3 at *
  obtain ⟨s0', s1', s2', s11'⟩ := FX.out _ S3
  have D3 := hid (DC.out w3)
  clear s0 s1 s2 s11 x0 x1 X2 S2 hb2 hb1 PK
  go_wp2_with fail
  refine D3.out.mono ?_
  rintro e w4 ⟨dg', q', g', h', rfl, d4, e1, e2, e3, e4, hb4⟩
  have S4 := S3.below hb4
  have hb5 := hb3.trans (hb4.mono hb3.size)
  obtain ⟨-, -, -, t11⟩ := FX.out _ S4
  have M4 := hid (MG.out w4 dg' q' g' h' S4 d4)
  rw [EDG.out, show min k k = k by omega] at M4
  clear d4 e1 e2 e3 e4 S4 S3 s0' s1' s2' s11' hb3 hb4 D3
  go_wp2_with fail
  refine M4.out.mono ?_
  rintro e w6 ⟨dg2, q2, g2, h2, rfl, d6, e1, e2, e3, e4, hb6⟩
  have hs5 := hb5.size
  have R : Hid (DgNew kind l k 20000 (mergeL l k s.zs zs) w (.returned (.tuple #[.pointer (some ⟨dg2, 0, none⟩), .int .i64 0])) w6) := ⟨dg2, q2, g2, h2, rfl, d6, by omega, by omega, by omega, by omega, hb5.trans (hb6.mono hs5)⟩
  clear d6 hb6 e1 e2 e3 e4
  go_wp2_with fail
  go_ret2
  exact R.out
end Go.Proofs.YtdnlejboijkcfaaGreatDoor

/- A letter: read. -/
namespace Go.Proofs.YtdnlejboijkcfaaGreatDoor
set_option maxHeartbeats 8000000
set_option maxRecDepth 100000
open Go.RowKit Vy Sh Tb
theorem Vy.open_own (t : List UInt8) : openS (sealL t) = some t := by
  unfold openS
  rw [if_pos (open_seal t)]
  have : (sealL t).length = t.length + 4 := by unfold sealL; simp [sbytes]
  rw [this, Nat.add_sub_cancel]
  unfold sealL
  rw [List.take_left']
  rfl
theorem Vy.get_own (n : Nat) (r : List UInt8) (h : n ≤ 9223372036854775807) : getF (vyL n ++ r) = some (n, r) := getF_iff.2 ⟨rfl, h⟩
theorem Vy.beg_letG (e f c : Nat) (s : ByteArray) : begB (letG e f c s) [68, 87, 76, 1] = true := by
  unfold begB letG
  simp
theorem Vy.cut_letG (e f c : Nat) (s : ByteArray) : cutL (letG e f c s) [68, 87, 76, 1] = headG e f c s.size ++ s.data.toList := by
  unfold cutL
  rw [beg_letG, if_pos rfl]
  rfl
structure LtSt (w W : World) (E F L X : Nat) (s : ByteArray) (a b c : Int) : Prop where
  e : Blk W E #[.int .i64 0] 30
  f : Blk W F #[.func (.func 143) #[] #[.pointer (some ⟨E, 0, none⟩)]] 202
  l : Blk W L #[.string s] 9
  x : Blk W X #[.int .i64 a, .int .i64 b, .int .u64 c, .string ⟨#[]⟩] 161
  r : Blk W w.heap.size #[.int .i64 0, .int .i64 0, .int .u64 0, .string ⟨#[]⟩] 161
  o1 : w.heap.size < E
  o2 : E < F
  o3 : F < L
  o4 : L < X
  bel : Below w.heap.size w W
theorem LtSt.below {w W W' : World} {E F L X : Nat} {s : ByteArray} {a b c : Int} (h : LtSt w W E F L X s a b c) (q : Below W.heap.size W W') : LtSt w W' E F L X s a b c :=
  ⟨h.e.below q nlr, h.f.below q nlr, h.l.below q nlr, h.x.below q nlr, h.r.below q nlr, h.o1, h.o2, h.o3, h.o4, h.bel.trans (q.mono h.bel.size)⟩
theorem LtSt.setL {w W : World} {E F L X : Nat} {s : ByteArray} {a b c : Int} (h : LtSt w W E F L X s a b c) (t : ByteArray) : LtSt w (W.setCell ⟨L, 0, none⟩ (.string t)) E F L X t a b c := by
  have h1 := h.o1; have h2 := h.o2; have h3 := h.o3; have h4 := h.o4
  have k : ∀ j, j ≠ L → (W.setCell ⟨L, 0, none⟩ (.string t)).heap[j]? = W.heap[j]? := fun j hj => Below.heap_setCell _ ⟨L, 0, none⟩ _ j hj
  exact ⟨h.e.keep (k _ (by omega)), h.f.keep (k _ (by omega)), h.l.set 0 _, h.x.keep (k _ (by omega)), h.r.keep (k _ (by omega)), h1, h2, h3, h4, h.bel.setCell (p := ⟨L, 0, none⟩) (by show _ ≤ L; omega) _⟩
theorem LtSt.setX {w W : World} {E F L X : Nat} {s : ByteArray} {a b c a' b' c' : Int} {i : Nat} {v : Value} (h : LtSt w W E F L X s a b c) (e : (#[.int .i64 a, .int .i64 b, .int .u64 c, .string ⟨#[]⟩] : Array Value).setIfInBounds i v = #[.int .i64 a', .int .i64 b', .int .u64 c', .string ⟨#[]⟩]) : LtSt w (W.setCell ⟨X, i, none⟩ v) E F L X s a' b' c' := by
  have h1 := h.o1; have h2 := h.o2; have h3 := h.o3; have h4 := h.o4
  have k : ∀ j, j ≠ X → (W.setCell ⟨X, i, none⟩ v).heap[j]? = W.heap[j]? := fun j hj => Below.heap_setCell _ ⟨X, i, none⟩ _ j hj
  exact ⟨h.e.keep (k _ (by omega)), h.f.keep (k _ (by omega)), h.l.keep (k _ (by omega)), by have := h.x.set i v; rw [e] at this; exact this, h.r.keep (k _ (by omega)), h1, h2, h3, h4, h.bel.setCell (p := ⟨X, i, none⟩) (by show _ ≤ X; omega) _⟩
theorem LtSt.number {w W : World} {E F L X n : Nat} {s : ByteArray} {a b c : Int} {r : List UInt8} (h : LtSt w W E F L X s a b c) (hg : getF s.data.toList = some (n, r)) :
    Calls Tryz.prog 145 #[.pointer (some ⟨E, 0, none⟩), .pointer (some ⟨L, 0, none⟩), .pointer (some ⟨F, 0, none⟩)] W fun e w' => e = .returned (.int .i64 n) ∧ ∃ s' : ByteArray, s'.data.toList = r ∧ LtSt w w' E F L X s' a b c := by
  refine (lg_number h.e h.l h.f hg).mono ?_
  rintro e w' ⟨rfl, s', h1, rfl⟩
  exact ⟨rfl, s', h1, h.setL s'⟩
theorem lg_decode {e f c : Nat} (s : ByteArray) (w : World) (he : e ≤ 1099511627776) (hf : f < 48) (hc : c < 281474976710656) (hb : c.testBit f = true) (hs : s.size ≤ 150000) : Calls Tryz.prog 91 #[.string ⟨(sealL (letG e f c s)).toArray⟩] w fun en w' => en = .returned (.tuple #[.agg #[.int .i64 e, .int .i64 f, .int .u64 c, .string s], .int .i64 0]) ∧ Below w.heap.size w w' := by
  have hll := letG_len he hf hc hs
  have hsl : (sealL (letG e f c s)).length ≤ 150044 := by unfold sealL; simp [sbytes]; omega
  have OP := hid (fun W => s_open ⟨(sealL (letG e f c s)).toArray⟩ W (by show (sealL (letG e f c s)).toArray.size ≤ _; simp; omega))
  have hb0 : Below w.heap.size w (w.alloc (.cells #[.int .i64 0, .int .i64 0, .int .u64 0, .string ⟨#[]⟩] 161)) := (Below.refl _ _).alloc nlr _
  have R0 := Blk.new w #[.int .i64 0, .int .i64 0, .int .u64 0, .string ⟨#[]⟩] 161
  have h48 : c < 2 ^ 48 := by rw [two48]; exact hc
  have CR := hid (fun W => cw_right c W h48)
  have CW := hid (fun W => cw_within (2 ^ f) c W (fun j hj => by
    rw [Nat.testBit_two_pow, decide_eq_true_eq] at hj
    rw [← hj]; exact hb))
  obtain ⟨ow, eow⟩ : ∃ ow, 2 ^ f = ow := ⟨_, rfl⟩
  rw [eow] at CW
  have EOW := hid eow
  clear eow h48 hb
  obtain ⟨S, eS⟩ : ∃ S, (⟨(sealL (letG e f c s)).toArray⟩ : ByteArray) = S := ⟨_, rfl⟩
  have eS2 : S.data.toList = sealL (letG e f c s) := by rw [← eS]
  rw [eS] at OP ⊢
  clear eS
  go_enter Tryz.func91, Tryz.ntmps91
  go_wp2_with fail
  refine (OP.out _).mono ?_
  rintro en w1 ⟨hb1, (⟨er, -, -, -, hn⟩ | ⟨t, rfl, ht, htl⟩)⟩
  · rw [eS2, open_own] at hn; cases hn
  rw [eS2, open_own] at ht
  have ht := (Option.some.inj ht).symm
  have FL := hid (fun W E k => lg_fail E k W)
  have htz : t.size = (letG e f c s).length := by rw [← ht]; simp
  have hl4 : 4 ≤ t.size := by rw [htz]; simp [letG]
  have z : decide ((t.size : Int) < 4) = false := decide_eq_false (by omega)
  have R1 := R0.below hb1 nlr
  have hbw := hb0.trans (hb1.mono hb0.size)
  have CP := hid (fun W => l_cutp t ⟨#[68, 87, 76, 1]⟩ W (by omega) (by decide))
  clear hb0 hb1 R0 OP eS2 htz
  go_wp2_with fail
  refine (FL.out _ w1.heap.size 9).mono ?_
  rintro en w2 ⟨rfl, hw2⟩
  have hE := (Blk.new w1 #[.int .i64 0] 30).alloc (.cells #[.func (.func 143) #[] #[.pointer (some ⟨w1.heap.size, 0, none⟩)]] 202)
  have hF : Blk ((w1.alloc (.cells #[.int .i64 0] 30)).alloc (.cells #[.func (.func 143) #[] #[.pointer (some ⟨w1.heap.size, 0, none⟩)]] 202)) (w1.heap.size + 1) #[.func (.func 143) #[] #[.pointer (some ⟨w1.heap.size, 0, none⟩)]] 202 := by
    have h := Blk.new (w1.alloc (.cells #[.int .i64 0] 30)) #[.func (.func 143) #[] #[.pointer (some ⟨w1.heap.size, 0, none⟩)]] 202
    simpa using h
  have hs1 := hbw.size
  have R2 := (R1.alloc (.cells #[.int .i64 0] 30)).alloc (.cells #[.func (.func 143) #[] #[.pointer (some ⟨w1.heap.size, 0, none⟩)]] 202)
  have hbw2 : Below w.heap.size w ((w1.alloc (.cells #[.int .i64 0] 30)).alloc (.cells #[.func (.func 143) #[] #[.pointer (some ⟨w1.heap.size, 0, none⟩)]] 202)) := (hbw.alloc hs1 _).alloc (by simp; omega) _
  rw [hw2] at hE hF R2 hbw2
  have hRE : w.heap.size < w1.heap.size := R1.lt
  clear hw2 hbw R1 hs1
  generalize w1.heap.size = E at *
  obtain ⟨F, hFe⟩ : ∃ F, E + 1 = F := ⟨_, rfl⟩
  have hEF := hid hFe
  rw [hFe] at hF ⊢
  clear hFe
  have f0 : w2.cell? ⟨F, 0, none⟩ = some (.func (.func 143) #[] #[.pointer (some ⟨E, 0, none⟩)]) := hF.cell 0
  go_wp2_with fail
  refine (CP.out w2).mono ?_
  rintro en w3 ⟨r, rfl, hr, rfl⟩
  have hbg := beg_letG e f c s
  have hcl := cut_letG e f c s
  rw [ht] at hr ⊢
  rw [hcl] at hr
  rw [show begB (letG e f c s) (⟨#[68, 87, 76, 1]⟩ : ByteArray).data.toList = true from hbg]
  clear hbg hcl
  have hE3 := hE.alloc (.cells #[.string r] 9)
  have hF3 := hF.alloc (.cells #[.string r] 9)
  have R3 := R2.alloc (.cells #[.string r] 9)
  have hL3 := Blk.new w2 #[.string r] 9
  have hbw3 := hbw2.alloc hbw2.size (.cells #[.string r] 9)
  have hFl := hF.lt
  have f3 : (w2.alloc (.cells #[.string r] 9)).cell? ⟨F, 0, none⟩ = some (.func (.func 143) #[] #[.pointer (some ⟨E, 0, none⟩)]) := hF3.cell 0
  clear f0 hE hF R2 hbw2
  go_wp2_with fail
  refine (FL.out _ E 10).mono ?_
  rintro en w4 ⟨rfl, rfl⟩
  have h5 : LtSt w ((w2.alloc (.cells #[.string r] 9)).alloc (.cells #[.int .i64 0, .int .i64 0, .int .u64 0, .string ⟨#[]⟩] 161)) E F w2.heap.size (w2.heap.size + 1) r 0 0 0 := by
    have hEF := hEF.out
    have hx := Blk.new (w2.alloc (.cells #[.string r] 9)) #[.int .i64 0, .int .i64 0, .int .u64 0, .string ⟨#[]⟩] 161
    exact ⟨hE3.alloc _, hF3.alloc _, hL3.alloc _, by simpa using hx, R3.alloc _, hRE, by omega, hFl, by omega, hbw3.alloc hbw3.size _⟩
  have hg1 : getF r.data.toList = some (e, vyL f ++ (vyL c ++ (vyL s.size ++ s.data.toList))) := by rw [hr, headG_eq, List.append_assoc, List.append_assoc, List.append_assoc]; exact get_own _ _ (by omega)
  clear hE3 hF3 R3 hL3 hbw3 f3 hEF hRE hFl
  go_wp2_with fail
  refine (h5.number hg1).mono ?_
  rintro en w6 ⟨rfl, s1, hs1, h6⟩
  clear h5 hg1 hr
  generalize w2.heap.size = L at *
  generalize L + 1 = X at *
  have hg2 : getF s1.data.toList = some (f, vyL c ++ (vyL s.size ++ s.data.toList)) := by rw [hs1]; exact get_own _ _ (by omega)
  have x0 := h6.x.free 0
  have c00 := h6.x.cell 0
  have hxl := h6.x.lt
  have h7 := h6.setX (i := 0) (v := .int .i64 e) (a' := e) (b' := 0) (c' := 0) rfl
  have hN2 := hid (h7.number hg2)
  have HS := hid (And.intro hs1 h7)
  clear hs1 hg2 h6
  have c0 : w6.cell? ⟨X, 0, none⟩ = some (.int .i64 0) := c00
  go_wp2_with fail
  refine hN2.out.mono ?_
  rintro en w8 ⟨rfl, s2, hs2, h8⟩
  have hg3 : getF s2.data.toList = some (c, vyL s.size ++ s.data.toList) := by rw [hs2]; exact get_own _ _ (by omega)
  have x1 := h8.x.free 1
  have c1 : w8.cell? ⟨X, 1, none⟩ = some (.int .i64 0) := h8.x.cell 1
  have hxl := h8.x.lt
  have h9 := h8.setX (i := 1) (v := .int .i64 f) (a' := e) (b' := f) (c' := 0) rfl
  have d1 : (w8.setCell ⟨X, 1, none⟩ (.int .i64 f)).cell? ⟨X, 1, none⟩ = some (.int .i64 f) := h9.x.cell 1
  have hCo : Hid (Calls Tryz.prog 135 #[.slice (some ⟨w8.heap.size, 0, none⟩) 1 1] ((w8.setCell ⟨X, 1, none⟩ (.int .i64 f)).alloc (.cells #[.int .i64 f] 3)) (Rt (.tuple #[.int .u64 ow, .bool true]) ((w8.setCell ⟨X, 1, none⟩ (.int .i64 f)).alloc (.cells #[.int .i64 f] 3)))) := by
    have h := cw_of hf (Blk.new (w8.setCell ⟨X, 1, none⟩ (.int .i64 f)) #[.int .i64 f] 3)
    rw [show (w8.setCell ⟨X, 1, none⟩ (.int .i64 f)).heap.size = w8.heap.size by simp, EOW.out] at h
    exact h
  have hFc : (w8.setCell ⟨X, 1, none⟩ (.int .i64 f)).cell? ⟨F, 0, none⟩ = some (.func (.func 143) #[] #[.pointer (some ⟨E, 0, none⟩)]) := h9.f.cell 0
  clear hN2 HS x0 c00 c0 hs2 h8
  go_wp2_with fail
  refine hCo.out.mono ?_
  rintro en w10 ⟨rfl, hw10⟩
  have h10 := h9.below ((Below.refl _ _).alloc nlr (.cells #[.int .i64 f] 3))
  rw [hw10] at h10
  clear h9 hw10 d1 hFc x1 c1 hxl hCo
  have hFc : w10.cell? ⟨F, 0, none⟩ = some (.func (.func 143) #[] #[.pointer (some ⟨E, 0, none⟩)]) := h10.f.cell 0
  have hN3 := hid (h10.number hg3)
  go_wp2_with fail
  refine (FL.out _ E 10).mono ?_
  rintro en w11 ⟨rfl, rfl⟩
  clear h10
  go_wp2_with fail
  refine hN3.out.mono ?_
  rintro en w12 ⟨rfl, s3, hs3, h12⟩
  have hg4 : getF s3.data.toList = some (s.size, s.data.toList) := by rw [hs3]; exact get_own _ _ (by omega)
  have x2 := h12.x.free 2
  have c2 : w12.cell? ⟨X, 2, none⟩ = some (.int .u64 0) := h12.x.cell 2
  have hxl := h12.x.lt
  have h13 := h12.setX (i := 2) (v := .int .u64 c) (a' := e) (b' := f) (c' := c) rfl
  have d2 : (w12.setCell ⟨X, 2, none⟩ (.int .u64 c)).cell? ⟨X, 2, none⟩ = some (.int .u64 c) := h13.x.cell 2
  have hFd : (w12.setCell ⟨X, 2, none⟩ (.int .u64 c)).cell? ⟨F, 0, none⟩ = some (.func (.func 143) #[] #[.pointer (some ⟨E, 0, none⟩)]) := h13.f.cell 0
  have H13 := hid h13
  clear hN3 hs3 h12 hFc h13
  have cR := CR
  have cW := CW
  go_upto_region 13 with fail
  go_quiet ((first
    | (go_at_call 136; exact Calls.quiet_of_same (calls_flip (cR.out _)))
    | (go_at_call 147; exact Calls.quiet_of_same (calls_flip (cW.out _)))
    | (go_at_call 143; exact Calls.quiet_of_same (calls_flip (FL.out _ E 10)))))
  have h14 := H13.out.below (below_drewN (Below.refl _ _) nq)
  have hN4 := hid (h14.number hg4)
  clear h14 hFd d2 H13 x2 c2 hxl cR cW
  generalize (w12.setCell ⟨X, 2, none⟩ (.int .u64 c)).drewN nq = w14 at *
  go_wp2_with fail
  refine hN4.out.mono ?_
  rintro en w15 ⟨rfl, s4, hs4, h15⟩
  have es : s4 = s := by rw [bs_list s4, bs_list s, hs4]
  subst es
  have hFe : w15.cell? ⟨F, 0, none⟩ = some (.func (.func 143) #[] #[.pointer (some ⟨E, 0, none⟩)]) := h15.f.cell 0
  have hLe : w15.cell? ⟨L, 0, none⟩ = some (.string s4) := h15.l.cell 0
  have hEe : w15.cell? ⟨E, 0, none⟩ = some (.int .i64 0) := h15.e.cell 0
  have z1 : decide (1048576 < (s4.size : Int)) = false := decide_eq_false (by omega)
  have z2 : decide ((s4.size : Int) < (s4.size : Int)) = false := decide_eq_false (by omega)
  have H15 := hid h15
  clear h15 hN4 hs4 hg4
  go_upto_region 16 with fail
  refine (FL.out _ E 13).mono ?_
  rintro en w16 ⟨rfl, rfl⟩
  go_upto_region 17 with fail
  refine (FL.out _ E 9).mono ?_
  rintro en w16 ⟨rfl, rfl⟩
  go_upto_region 18 with fail
  refine (FL.out _ E 11).mono ?_
  rintro en w16 ⟨rfl, rfl⟩
  have h15 := H15.out
  have x3 := h15.x.free 3
  have c3 : w15.cell? ⟨X, 3, none⟩ = some (.string ⟨#[]⟩) := h15.x.cell 3
  have hxl := h15.x.lt
  have hRX : w.heap.size ≠ X := by have := h15.o1; have := h15.o2; have := h15.o3; have := h15.o4; omega
  have hx16 := h15.x.set 3 (.string s4)
  have hr16 := h15.r.keep (Below.heap_setCell w15 ⟨X, 3, none⟩ (.string s4) w.heap.size hRX)
  have hb16 := h15.bel.setCell (p := ⟨X, 3, none⟩) (by have := h15.o1; have := h15.o2; have := h15.o3; have := h15.o4; show _ ≤ X; omega) (.string s4)
  clear h15 H15
  have y0 : (w15.setCell ⟨X, 3, none⟩ (.string s4)).cell? ⟨X, 0, none⟩ = some (.int .i64 e) := hx16.cell 0
  have y1 : (w15.setCell ⟨X, 3, none⟩ (.string s4)).cell? ⟨X, 1, none⟩ = some (.int .i64 f) := hx16.cell 1
  have y2 : (w15.setCell ⟨X, 3, none⟩ (.string s4)).cell? ⟨X, 2, none⟩ = some (.int .u64 c) := hx16.cell 2
  have y3 : (w15.setCell ⟨X, 3, none⟩ (.string s4)).cell? ⟨X, 3, none⟩ = some (.string s4) := hx16.cell 3
  go_upto_region 21 with fail
  clear c3 x3 hxl hFe hLe hEe hx16
  generalize w15.setCell ⟨X, 3, none⟩ (.string s4) = w16 at *
  have q0 : w16.cell? ⟨w.heap.size, 0, none⟩ = some (.int .i64 0) := hr16.cell 0
  have q1 : w16.cell? ⟨w.heap.size, 1, none⟩ = some (.int .i64 0) := hr16.cell 1
  have q2 : w16.cell? ⟨w.heap.size, 2, none⟩ = some (.int .u64 0) := hr16.cell 2
  have q3 : w16.cell? ⟨w.heap.size, 3, none⟩ = some (.string ⟨#[]⟩) := hr16.cell 3
  have g0 := hr16.free 0
  have g1 := hr16.free 1
  have g2 := hr16.free 2
  have g3 := hr16.free 3
  have hrl := hr16.lt
  have Z := (((hr16.set 0 (.int .i64 e)).set 1 (.int .i64 f)).set 2 (.int .u64 c)).set 3 (.string s4)
  have hbz := (((hb16.setCell (p := ⟨w.heap.size, 0, none⟩) nlr (.int .i64 e)).setCell (p := ⟨w.heap.size, 1, none⟩) nlr (.int .i64 f)).setCell (p := ⟨w.heap.size, 2, none⟩) nlr (.int .u64 c)).setCell (p := ⟨w.heap.size, 3, none⟩) nlr (.string s4)
  clear hr16 hb16
  have z0 : World.cell? _ ⟨w.heap.size, 0, none⟩ = some (.int .i64 e) := Z.cell 0
  have z1 : World.cell? _ ⟨w.heap.size, 1, none⟩ = some (.int .i64 f) := Z.cell 1
  have z2 : World.cell? _ ⟨w.heap.size, 2, none⟩ = some (.int .u64 c) := Z.cell 2
  have z3 : World.cell? _ ⟨w.heap.size, 3, none⟩ = some (.string s4) := Z.cell 3
  go_wp2_with fail
  exact bodyPost_ret (v := .tuple #[.agg #[.int .i64 e, .int .i64 f, .int .u64 c, .string s4], .int .i64 0]) (by simp [results, Tryz.results91, go_sem, z0, z1, z2, z3]) rfl ⟨rfl, hbz⟩
end Go.Proofs.YtdnlejboijkcfaaGreatDoor
