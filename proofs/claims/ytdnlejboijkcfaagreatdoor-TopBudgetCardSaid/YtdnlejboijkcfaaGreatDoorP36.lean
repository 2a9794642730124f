/- Texts laid together. -/
import Derived.Test.YtdnlejboijkcfaaGreatDoorP30
import Derived.Test.YtdnlejboijkcfaaGreatDoorP32
import Derived.Test.YtdnlejboijkcfaaGreatDoorP35
import Derived.Test.YtdnlejboijkcfaaGreatDoorP14
/- A run in memory. -/
namespace Go.Proofs.YtdnlejboijkcfaaGreatDoor
open Go.RowKit Nl Tb
namespace Tb
structure Cx where
  kind : Int
  l : Int
  k : Int
  wait : Int
  ep : Nat
  ps : List Int
  os : List Nat
  ov : Value
def sCells (sns : List Sn) : List Value := sns.map fun s => .pointer (some ⟨s.b, 0, none⟩)
theorem sCells_set (sns : List Sn) (i : Nat) (h : i < sns.length) (s : Sn) (e : s.b = sns[i].b) : sCells (sns.set i s) = sCells sns := by
  unfold sCells
  rw [List.map_set]
  have : (sns.map fun s => Value.pointer (some ⟨s.b, 0, none⟩))[i]'(by simpa using h) = .pointer (some ⟨s.b, 0, none⟩) := by simp [e]
  rw [← this, List.set_getElem_self]
end Tb
structure RunM (c : Cx) (W : World) (lab : Nat → Nat) (R V : Nat) (pv ov sv iv : Value) (st en : Bool) (sns : List Sn) (fl : List It) : Prop where
  blk : Blk W R #[.pointer (some ⟨V, 0, none⟩), pv, ov, sv, .bool st, .bool en] 78
  wv : WvV W V iv fl
  pr : RdI W pv c.ps
  ord : RdI W ov (toI c.os)
  row : W.ownsRow 0 81 1 sv sns.length (sCells sns)
  sn : ∀ i (h : i < sns.length), SnV W c.kind c.l c.k c.wait c.ep i sns[i]
  lR : lab R = 1
  lV : lab V = 2
  lp : ∀ b, pv.ownBlock = some b → b < W.heap.size ∧ lab b = 3
  lo : ∀ b, ov.ownBlock = some b → b < W.heap.size ∧ lab b = 4
  ls : ∀ b, sv.ownBlock = some b → lab b = 5
  li : ∀ b, iv.ownBlock = some b → lab b = 6
  lsn : ∀ i (h : i < sns.length) b, sns[i].B b → lab b = 10 + i
  new : ∀ b, W.heap.size ≤ b → lab b = 0
  eo : ov = c.ov
theorem RunM.rest {c : Cx} {W W' : World} {lab lab' : Nat → Nat} {R V : Nat} {pv ov sv iv : Value} {st en : Bool} {sns : List Sn} {fl : List It} (h : RunM c W lab R V pv ov sv iv st en sns fl) (hs : W.heap.size ≤ W'.heap.size) (hl : ∀ b, b < W.heap.size → lab' b = lab b) (hn : ∀ b, W'.heap.size ≤ b → lab' b = 0)
    (hk : ∀ b, b < W.heap.size → lab b ≠ 0 → W'.heap[b]? = W.heap[b]?) : RunM c W' lab' R V pv ov sv iv st en sns fl := by
  have hR := h.blk.lt
  obtain ⟨a, b, c1, d, e, hb⟩ := h.wv.blk
  have hV := hb.lt
  have srow : ∀ b, sv.ownBlock = some b → b < W.heap.size := fun b q => (World.ownsRow.lt h.row b q).2
  refine ⟨h.blk.keep (hk R hR (by rw [h.lR]; decide)), h.wv.keep (fun j hj q => hk j hj ?_), h.pr.keep (fun g hg q => hk g hg (by rw [(h.lp g q).2]; decide)) hs, h.ord.keep (fun g hg q => hk g hg (by rw [(h.lo g q).2]; decide)) hs, ownsRow_keep h.row (fun j q => hk j (srow j q) (by rw [h.ls j q]; decide)), fun i hi => (h.sn i hi).keepB (fun j hj q => hk j hj (by rw [h.lsn i hi j q]; omega)), by rw [hl R hR]; exact h.lR, by rw [hl V hV]; exact h.lV, fun j q => ⟨by have := (h.lp j q).1; omega, by rw [hl j (h.lp j q).1]; exact (h.lp j q).2⟩, fun j q => ⟨by have := (h.lo j q).1; omega, by rw [hl j (h.lo j q).1]; exact (h.lo j q).2⟩, fun j q => by rw [hl j (srow j q)]; exact h.ls j q, fun j q => by rw [hl j (h.wv.r.lt j q)]; exact h.li j q, fun i hi j q => by rw [hl j ((h.sn i hi).ltB j q)]; exact h.lsn i hi j q, hn, h.eo⟩
  · rcases q with rfl | q
    · rw [h.lV]; decide
    · rw [h.li j q]; decide
structure RFr (lab lab' : Nat → Nat) (W W' : World) : Prop where
  eq : ∀ b, b < W.heap.size → lab' b = lab b
  ch : ChB (fun b => lab b ≠ 0) W W'
theorem RFr.refl (lab : Nat → Nat) (W : World) : RFr lab lab W W := ⟨fun _ _ => rfl, ChB.refl _ _⟩
theorem RFr.trans {lab lab1 lab2 : Nat → Nat} {W W1 W2 : World} (h : RFr lab lab1 W W1) (k : RFr lab1 lab2 W1 W2) : RFr lab lab2 W W2 :=
  ⟨fun b hb => (k.eq b (Nat.lt_of_lt_of_le hb h.ch.size)).trans (h.eq b hb), h.ch.trans k.ch (fun j hj q => by
    have e : lab1 j = lab j := h.eq j hj
    show lab j ≠ 0
    rw [← e]; exact q)⟩
theorem RFr.of_below {lab : Nat → Nat} {W W' : World} (b : Below W.heap.size W W') : RFr lab lab W W' := ⟨fun _ _ => rfl, ChB.of_below b⟩
def RunE (c : Cx) (W : World) (lab : Nat → Nat) (R : Nat) (st en : Bool) (sns : List Sn) (fl : List It) : Prop := ∃ V pv ov sv iv, RunM c W lab R V pv ov sv iv st en sns fl
theorem RunM.below {c : Cx} {W W' : World} {lab : Nat → Nat} {R V : Nat} {pv ov sv iv : Value} {st en : Bool} {sns : List Sn} {fl : List It} (h : RunM c W lab R V pv ov sv iv st en sns fl) (b : Below W.heap.size W W') : RunM c W' lab R V pv ov sv iv st en sns fl :=
  h.rest b.size (fun _ _ => rfl) (fun j hj => h.new j (by have := b.size; omega)) (fun j hj _ => b.block j hj)
theorem RunE.below {c : Cx} {W W' : World} {lab : Nat → Nat} {R : Nat} {st en : Bool} {sns : List Sn} {fl : List It} (h : RunE c W lab R st en sns fl) (b : Below W.heap.size W W') : RunE c W' lab R st en sns fl := by
  obtain ⟨V, pv, ov, sv, iv, h⟩ := h
  exact ⟨V, pv, ov, sv, iv, h.below b⟩
theorem RunE.out {c : Cx} {W W' : World} {lab : Nat → Nat} {R : Nat} {st en : Bool} {sns : List Sn} {fl : List It} (h : RunE c W lab R st en sns fl) (ch : ChB (fun b => lab b = 0) W W') : RunE c W' lab R st en sns fl := by
  obtain ⟨V, pv, ov, sv, iv, h⟩ := h
  exact ⟨V, pv, ov, sv, iv, h.rest ch.size (fun _ _ => rfl) (fun j hj => h.new j (by have := ch.size; omega)) (fun j hj q => ch.block j hj q)⟩
theorem RunM.sens {c : Cx} {W W' : World} {lab : Nat → Nat} {R V : Nat} {pv ov sv iv : Value} {st en : Bool} {sns : List Sn} {fl : List It} (h : RunM c W lab R V pv ov sv iv st en sns fl) (i : Nat) (hi : i < sns.length) (s' : Sn)
    (ch : ChB sns[i].B W W') (S' : SnV W' c.kind c.l c.k c.wait c.ep i s') (eb : s'.b = sns[i].b) (hB : ∀ j, s'.B j → sns[i].B j ∨ W.heap.size ≤ j) :
    ∃ lab', RunM c W' lab' R V pv ov sv iv st en (sns.set i s') fl ∧ RFr lab lab' W W' := by
  classical
  have hs := ch.size
  have hR := h.blk.lt
  obtain ⟨a, b, c1, d, e, hb⟩ := h.wv.blk
  have hV := hb.lt
  have srow : ∀ b, sv.ownBlock = some b → b < W.heap.size := fun b q => (World.ownsRow.lt h.row b q).2
  have hk : ∀ b, b < W.heap.size → lab b ≠ 10 + i → W'.heap[b]? = W.heap[b]? := fun b hb hn => ch.block b hb (fun q => hn (h.lsn i hi b q))
  have hl : ∀ b, b < W.heap.size → (if W.heap.size ≤ b ∧ s'.B b then 10 + i else lab b) = lab b := fun b hb => if_neg (fun q => by omega)
  have hlen : (sns.set i s').length = sns.length := List.length_set
  refine ⟨fun b => if W.heap.size ≤ b ∧ s'.B b then 10 + i else lab b, ⟨h.blk.keep (hk R hR (by rw [h.lR]; omega)), h.wv.keep (fun j hj q => hk j hj ?_), h.pr.keep (fun g hg q => hk g hg (by rw [(h.lp g q).2]; omega)) hs, h.ord.keep (fun g hg q => hk g hg (by rw [(h.lo g q).2]; omega)) hs, ?_, fun j hj => ?_, ?_, ?_, fun j q => ⟨by have := (h.lp j q).1; omega, ?_⟩, fun j q => ⟨by have := (h.lo j q).1; omega, ?_⟩, fun j q => ?_, fun j q => ?_, fun j hj b q => ?_, fun b hb => ?_, h.eo⟩, hl, ch.mono (fun b hb q => by
      show lab b ≠ 0
      rw [h.lsn i hi b q]; omega)⟩
  · rcases q with rfl | q
    · rw [h.lV]; omega
    · rw [h.li j q]; omega
  · rw [hlen, sCells_set sns i hi s' eb]
    exact ownsRow_keep h.row (fun j q => hk j (srow j q) (by rw [h.ls j q]; omega))
  · have hj' : j < sns.length := by rwa [hlen] at hj
    by_cases q : i = j
    · subst q; rw [List.getElem_set_self]; exact S'
    · rw [List.getElem_set_ne q]
      exact (h.sn j hj').keepB (fun b hb w => hk b hb (by rw [h.lsn j hj' b w]; omega))
  · show (if W.heap.size ≤ R ∧ s'.B R then 10 + i else lab R) = 1
    rw [hl R hR]; exact h.lR
  · show (if W.heap.size ≤ V ∧ s'.B V then 10 + i else lab V) = 2
    rw [hl V hV]; exact h.lV
  · show (if W.heap.size ≤ j ∧ s'.B j then 10 + i else lab j) = 3
    rw [hl j (h.lp j q).1]; exact (h.lp j q).2
  · show (if W.heap.size ≤ j ∧ s'.B j then 10 + i else lab j) = 4
    rw [hl j (h.lo j q).1]; exact (h.lo j q).2
  · show (if W.heap.size ≤ j ∧ s'.B j then 10 + i else lab j) = 5
    rw [hl j (srow j q)]; exact h.ls j q
  · show (if W.heap.size ≤ j ∧ s'.B j then 10 + i else lab j) = 6
    rw [hl j (h.wv.r.lt j q)]; exact h.li j q
  · have hj' : j < sns.length := by rwa [hlen] at hj
    show (if W.heap.size ≤ b ∧ s'.B b then 10 + i else lab b) = 10 + j
    by_cases q2 : i = j
    · subst q2
      rw [List.getElem_set_self] at q
      rcases hB b q with q3 | q3
      · rw [hl b ((h.sn i hi).ltB b q3)]; exact h.lsn i hi b q3
      · rw [if_pos ⟨q3, q⟩]
    · rw [List.getElem_set_ne q2] at q
      rw [hl b ((h.sn j hj').ltB b q)]; exact h.lsn j hj' b q
  · show (if W.heap.size ≤ b ∧ s'.B b then 10 + i else lab b) = 0
    rw [if_neg (fun q => by have := S'.ltB b q.2; omega)]
    exact h.new b (by omega)
theorem RunM.wave {c : Cx} {W W' : World} {lab : Nat → Nat} {R V : Nat} {pv ov sv iv : Value} {st en : Bool} {sns : List Sn} {fl gl : List It} (h : RunM c W lab R V pv ov sv iv st en sns fl) (t : WvTurn V iv gl W W') :
    ∃ lab' iv', RunM c W' lab' R V pv ov sv iv' st en sns gl ∧ RFr lab lab' W W' := by
  classical
  obtain ⟨iv', wv', hn, ch⟩ := t
  have hs := ch.size
  have hR := h.blk.lt
  obtain ⟨a, b, c1, d, e, hb⟩ := h.wv.blk
  have hV := hb.lt
  have srow : ∀ b, sv.ownBlock = some b → b < W.heap.size := fun b q => (World.ownsRow.lt h.row b q).2
  have hk : ∀ b, b < W.heap.size → lab b ≠ 2 → lab b ≠ 6 → W'.heap[b]? = W.heap[b]? := fun b hb n1 n2 => ch.block b hb (fun q => by
    rcases q with rfl | q
    · exact n1 h.lV
    · exact n2 (h.li b q))
  have hl : ∀ b, b < W.heap.size → (if W.heap.size ≤ b ∧ iv'.ownBlock = some b then 6 else lab b) = lab b := fun b hb => if_neg (fun q => by omega)
  refine ⟨fun b => if W.heap.size ≤ b ∧ iv'.ownBlock = some b then 6 else lab b, iv', ⟨h.blk.keep (hk R hR (by rw [h.lR]; omega) (by rw [h.lR]; omega)), wv', h.pr.keep (fun g hg q => hk g hg (by rw [(h.lp g q).2]; omega) (by rw [(h.lp g q).2]; omega)) hs, h.ord.keep (fun g hg q => hk g hg (by rw [(h.lo g q).2]; omega) (by rw [(h.lo g q).2]; omega)) hs,
    ownsRow_keep h.row (fun j q => hk j (srow j q) (by rw [h.ls j q]; omega) (by rw [h.ls j q]; omega)), fun j hj => (h.sn j hj).keepB (fun b hb w => hk b hb (by rw [h.lsn j hj b w]; omega) (by rw [h.lsn j hj b w]; omega)), ?_, ?_, fun j q => ⟨by have := (h.lp j q).1; omega, ?_⟩, fun j q => ⟨by have := (h.lo j q).1; omega, ?_⟩, fun j q => ?_, fun j q => ?_, fun j hj b q => ?_, fun b hb => ?_, h.eo⟩, hl, ch.mono (fun b hb q => by
      show lab b ≠ 0
      rcases q with rfl | q
      · rw [h.lV]; omega
      · rw [h.li b q]; omega)⟩
  · show (if W.heap.size ≤ R ∧ iv'.ownBlock = some R then 6 else lab R) = 1
    rw [hl R hR]; exact h.lR
  · show (if W.heap.size ≤ V ∧ iv'.ownBlock = some V then 6 else lab V) = 2
    rw [hl V hV]; exact h.lV
  · show (if W.heap.size ≤ j ∧ iv'.ownBlock = some j then 6 else lab j) = 3
    rw [hl j (h.lp j q).1]; exact (h.lp j q).2
  · show (if W.heap.size ≤ j ∧ iv'.ownBlock = some j then 6 else lab j) = 4
    rw [hl j (h.lo j q).1]; exact (h.lo j q).2
  · show (if W.heap.size ≤ j ∧ iv'.ownBlock = some j then 6 else lab j) = 5
    rw [hl j (srow j q)]; exact h.ls j q
  · show (if W.heap.size ≤ j ∧ iv'.ownBlock = some j then 6 else lab j) = 6
    rcases hn j q with q2 | q2
    · rw [hl j (h.wv.r.lt j q2)]; exact h.li j q2
    · rw [if_pos ⟨q2, q⟩]
  · show (if W.heap.size ≤ b ∧ iv'.ownBlock = some b then 6 else lab b) = 10 + j
    rw [hl b ((h.sn j hj).ltB b q)]; exact h.lsn j hj b q
  · show (if W.heap.size ≤ b ∧ iv'.ownBlock = some b then 6 else lab b) = 0
    rw [if_neg (fun q => by have := wv'.r.lt b q.2; omega)]
    exact h.new b (by omega)
theorem RunM.box {c : Cx} {W : World} {lab : Nat → Nat} {R V : Nat} {pv ov sv iv : Value} {st en : Bool} {sns : List Sn} {fl : List It} (h : RunM c W lab R V pv ov sv iv st en sns fl) (j : Nat) (u : Value) {st' en' : Bool}
    (e : (#[.pointer (some ⟨V, 0, none⟩), pv, ov, sv, .bool st, .bool en] : Array Value).setIfInBounds j u = #[.pointer (some ⟨V, 0, none⟩), pv, ov, sv, .bool st', .bool en']) :
    RunM c (W.setCell ⟨R, j, none⟩ u) lab R V pv ov sv iv st' en' sns fl ∧ RFr lab lab W (W.setCell ⟨R, j, none⟩ u) := by
  have hR := h.blk.lt
  have srow : ∀ b, sv.ownBlock = some b → b < W.heap.size := fun b q => (World.ownsRow.lt h.row b q).2
  have hk : ∀ b, b ≠ R → (W.setCell ⟨R, j, none⟩ u).heap[b]? = W.heap[b]? := fun b hb => Below.heap_setCell _ ⟨R, j, none⟩ _ b hb
  have hk1 : ∀ b, lab b ≠ 1 → (W.setCell ⟨R, j, none⟩ u).heap[b]? = W.heap[b]? := fun b hb => hk b (fun e => hb (by rw [e]; exact h.lR))
  have hs : (W.setCell ⟨R, j, none⟩ u).heap.size = W.heap.size := by simp
  refine ⟨⟨by have := h.blk.set j u; rwa [e] at this, h.wv.keep (fun i hi q => hk1 i ?_), h.pr.keep (fun g hg q => hk1 g (by rw [(h.lp g q).2]; omega)) (by omega), h.ord.keep (fun g hg q => hk1 g (by rw [(h.lo g q).2]; omega)) (by omega), ownsRow_keep h.row (fun i q => hk1 i (by rw [h.ls i q]; omega)), fun i hi => (h.sn i hi).keepB (fun b hb w => hk1 b (by rw [h.lsn i hi b w]; omega)), h.lR, h.lV, fun i q => ⟨by rw [hs]; exact (h.lp i q).1, (h.lp i q).2⟩, fun i q => ⟨by rw [hs]; exact (h.lo i q).1, (h.lo i q).2⟩, h.ls, h.li, h.lsn, fun b hb => h.new b (by rwa [hs] at hb), h.eo⟩, fun _ _ => rfl, rfl, rfl, rfl, by omega, fun b hb q => hk b (fun e => q (by rw [e]; show lab R ≠ 0; rw [h.lR]; decide))⟩
  rcases q with rfl | q
  · rw [h.lV]; omega
  · rw [h.li i q]; omega
end Go.Proofs.YtdnlejboijkcfaaGreatDoor

/- A run: sensor, Put, early, Flight, Letter. -/
namespace Go.Proofs.YtdnlejboijkcfaaGreatDoor
set_option maxHeartbeats 8000000
set_option maxRecDepth 100000
open Go.RowKit Nl Tb
theorem RunM.at {c : Cx} {W : World} {lab : Nat → Nat} {R V : Nat} {pv ov sv iv : Value} {st en : Bool} {sns : List Sn} {fl : List It} (h : RunM c W lab R V pv ov sv iv st en sns fl) (i : Nat) (hi : i < sns.length) :
    ∃ g cap, sv = .slice (some ⟨g, 0, none⟩) sns.length cap ∧ W.cell? ⟨g, i, none⟩ = some (.pointer (some ⟨sns[i].b, 0, none⟩)) ∧ g < W.heap.size ∧ sns.length ≤ cap := by
  have hrow := h.row
  rcases hrow.2 with ⟨-, q⟩ | ⟨g, cap, cur, rfl, -, hg, hn, -, -, -⟩
  · omega
  · refine ⟨g, cap, rfl, ?_, (Array.getElem?_eq_some_iff.1 hg).1, hn⟩
    have hc := World.ownsRow.cells hrow (g := g) rfl i (.pointer (some ⟨sns[i].b, 0, none⟩)) (by simp [sCells, List.getElem?_eq_getElem hi])
    have hadd : (⟨g, 0, none⟩ : Addr).add i = ⟨g, i, none⟩ := by unfold Addr.add; split <;> simp_all
    rwa [hadd] at hc
theorem RunM.sval {c : Cx} {W : World} {lab : Nat → Nat} {R V : Nat} {pv ov sv iv : Value} {st en : Bool} {sns : List Sn} {fl : List It} (h : RunM c W lab R V pv ov sv iv st en sns fl) : ∃ p cap, sv = .slice p sns.length cap := by
  rcases h.row.2 with ⟨rfl, q⟩ | ⟨g, cap, cur, rfl, -⟩
  · exact ⟨none, 0, by rw [q]⟩
  · exact ⟨_, _, rfl⟩
theorem re_sensor {c : Cx} {W : World} {lab : Nat → Nat} {R : Nat} {st en : Bool} {sns : List Sn} {fl : List It} (h : RunE c W lab R st en sns fl) (i : Nat) (hi : i < sns.length) :
    Calls Tryz.prog 33 #[.pointer (some ⟨R, 0, none⟩), .int .i64 i] W (Rt (.tuple #[.pointer (some ⟨sns[i].b, 0, none⟩), .int .i64 0]) W) := by
  obtain ⟨V, pv, ov, sv, iv, h⟩ := h
  obtain ⟨g, cap, rfl, q0, hg, hn⟩ := h.at i hi
  have c3 : W.cell? ⟨R, 3, none⟩ = some (.slice (some ⟨g, 0, none⟩) sns.length cap) := h.blk.cell 3
  generalize sns[i].b = b at *
  generalize sns.length = n at *
  have z0 : decide ((i : Int) < 0) = false := decide_eq_false (by omega)
  have z1 : decide ((n : Int) ≤ (i : Int)) = false := decide_eq_false (by omega)
  clear h
  go_enter Tryz.func33, Tryz.ntmps33
  go_wp2_with fail
  go_ret2
  exact ⟨rfl, rfl⟩
theorem re_sensor_no {c : Cx} {W : World} {lab : Nat → Nat} {R : Nat} {st en : Bool} {sns : List Sn} {fl : List It} (h : RunE c W lab R st en sns fl) (i : Int) (hi : i < 0 ∨ (sns.length : Int) ≤ i) :
    Calls Tryz.prog 33 #[.pointer (some ⟨R, 0, none⟩), .int .i64 i] W (Rt (.tuple #[.pointer none, .int .i64 16]) W) := by
  obtain ⟨V, pv, ov, sv, iv, h⟩ := h
  obtain ⟨p, cap, rfl⟩ := h.sval
  have c3 : W.cell? ⟨R, 3, none⟩ = some (.slice p sns.length cap) := h.blk.cell 3
  generalize sns.length = n at *
  clear h
  by_cases h0 : i < 0
  · have z0 : decide (i < 0) = true := decide_eq_true h0
    clear hi h0
    go_enter Tryz.func33, Tryz.ntmps33
    go_wp2_with fail
    go_ret2
    exact ⟨rfl, rfl⟩
  · have z0 : decide (i < 0) = false := decide_eq_false h0
    have z1 : decide ((n : Int) ≤ i) = true := decide_eq_true (by omega)
    clear hi h0
    go_enter Tryz.func33, Tryz.ntmps33
    go_wp2_with fail
    go_ret2
    exact ⟨rfl, rfl⟩
def Tb.Sn.put (s : Sn) (l k x wt : Int) (h' : Nat) : Sn := { s with h := h', zs := (dgIns l k s.zs x wt).1, its := (badd l s.its x wt).1 }
def RePut (c : Cx) (lab : Nat → Nat) (R : Nat) (st en : Bool) (sns : List Sn) (fl : List It) (i x wt : Int) (W : World) (e : Ending) (W' : World) : Prop :=
  ((i < 0 ∨ (sns.length : Int) ≤ i) ∧ e = .returned (.int .i64 16) ∧ W = W') ∨
  ∃ (j : Nat) (hj : j < sns.length), i = j ∧ e = .returned (.int .i64 (dgIns c.l c.k sns[j].zs x wt).2) ∧ ∃ lab' h', RunE c W' lab' R st en (sns.set j (sns[j].put c.l c.k x wt h')) fl ∧ RFr lab lab' W W'
theorem re_put {c : Cx} {W : World} {lab : Nat → Nat} {R : Nat} {st en : Bool} {sns : List Sn} {fl : List It} (h : RunE c W lab R st en sns fl) (hu : ∀ j (hj : j < sns.length), sns[j].sent = false) (hz : ∀ j (hj : j < sns.length), sns[j].zs.length ≤ 19999) (i x wt : Int) (bx : In64 x) (bw : In64 wt) :
    Calls Tryz.prog 8 #[.pointer (some ⟨R, 0, none⟩), .int .i64 i, .int .i64 x, .int .i64 wt] W (RePut c lab R st en sns fl i x wt W) := by
  by_cases hi : i < 0 ∨ (sns.length : Int) ≤ i
  · have SE := hid (re_sensor_no h i hi)
    have HI := hid hi
    clear h hi
    go_enter Tryz.func8, Tryz.ntmps8
    go_wp2_with fail
    refine SE.out.mono ?_
    rintro e w2 ⟨rfl, rfl⟩
    go_wp2_with fail
    go_ret
    exact .inl ⟨HI.out, rfl, rfl⟩
  · obtain ⟨j, rfl⟩ := Int.eq_ofNat_of_zero_le (show 0 ≤ i by omega)
    have hj : j < sns.length := by omega
    have SE := hid (re_sensor h j hj)
    have P : Hid (Calls Tryz.prog 34 #[.pointer (some ⟨sns[j].b, 0, none⟩), .int .i64 x, .int .i64 wt] W fun e w' => (∃ n, e = .returned (.int .i64 n)) ∧ RePut c lab R st en sns fl j x wt W e w') := by
      obtain ⟨V, pv, ov, sv, iv, h⟩ := h
      refine (sn_put (h.sn j hj) (hu j hj) x wt bx bw (hz j hj)).mono ?_
      rintro e w' ⟨rfl, h', hS, hh, ch⟩
      obtain ⟨lab', r1, r2⟩ := h.sens j hj (sns[j].put c.l c.k x wt h') ch (hS _) rfl (fun b hb => by
        rcases hb with q | q | q | q | q
        · exact .inl (.inl q)
        · exact .inl (.inr (.inl q))
        · exact .inl (.inr (.inr (.inl q)))
        · exact .inl (.inr (.inr (.inr (.inl q))))
        · rcases hh with e | e
          · exact .inl (.inr (.inr (.inr (.inr (by rw [← e]; exact q)))))
          · have q : b = h' := q
            exact .inr (by omega))
      exact ⟨⟨_, rfl⟩, .inr ⟨j, hj, rfl, rfl, lab', h', ⟨V, pv, ov, sv, iv, r1⟩, r2⟩⟩
    generalize sns[j].b = b at *
    clear h hi hu hz
    go_enter Tryz.func8, Tryz.ntmps8
    go_wp2_with fail
    refine SE.out.mono ?_
    rintro e w2 ⟨rfl, rfl⟩
    go_wp2_with fail
    refine P.out.mono ?_
    rintro e w3 ⟨⟨n, rfl⟩, hp⟩
    go_wp2_with fail
    go_ret
    exact hp
theorem re_flight {c : Cx} {W : World} {lab : Nat → Nat} {R : Nat} {st en : Bool} {sns : List Sn} {fl : List It} (h : RunE c W lab R st en sns fl) :
    Calls Tryz.prog 11 #[.pointer (some ⟨R, 0, none⟩)] W (Rt (.int .i64 fl.length) W) := by
  obtain ⟨V, pv, ov, sv, iv, h⟩ := h
  have LN := hid (wv_length h.wv)
  have c0 : W.cell? ⟨R, 0, none⟩ = some (.pointer (some ⟨V, 0, none⟩)) := h.blk.cell 0
  clear h
  go_enter Tryz.func11, Tryz.ntmps11
  go_wp2_with fail
  refine LN.out.mono ?_
  rintro e w2 ⟨rfl, rfl⟩
  go_wp2_with fail
  go_ret
  exact ⟨rfl, rfl⟩
theorem re_letter {c : Cx} {W : World} {lab : Nat → Nat} {R : Nat} {st en : Bool} {sns : List Sn} {fl : List It} (h : RunE c W lab R st en sns fl) (i : Nat) (hi : i < fl.length) :
    Calls Tryz.prog 12 #[.pointer (some ⟨R, 0, none⟩), .int .i64 i] W fun e w' => e = .returned (.tuple #[.int .i64 fl[i].1, .string fl[i].2, .bool true]) ∧ ∃ n, w' = W.drewN n := by
  obtain ⟨V, pv, ov, sv, iv, h⟩ := h
  have AT := hid (wv_at h.wv i hi)
  have c0 : W.cell? ⟨R, 0, none⟩ = some (.pointer (some ⟨V, 0, none⟩)) := h.blk.cell 0
  generalize fl[i] = x at *
  clear h
  go_enter Tryz.func12, Tryz.ntmps12
  go_wp2_with fail
  refine AT.out.mono ?_
  rintro e w2 ⟨rfl, n, rfl⟩
  go_wp2_with fail
  exact bodyPost_ret (v := .tuple #[.int .i64 x.1, .string x.2, .bool true]) (by simp [results, Tryz.results12, go_sem]) rfl ⟨rfl, n, rfl⟩
theorem re_early {c : Cx} {W : World} {lab : Nat → Nat} {R : Nat} {en : Bool} {sns : List Sn} {fl : List It} (h : RunE c W lab R true en sns fl) :
    Calls Tryz.prog 40 #[.pointer (some ⟨R, 0, none⟩)] W (Rt (.int .i64 0) W) := by
  obtain ⟨V, pv, ov, sv, iv, h⟩ := h
  have c4 : W.cell? ⟨R, 4, none⟩ = some (.bool true) := h.blk.cell 4
  clear h
  go_enter Tryz.func40, Tryz.ntmps40
  go_wp2_with fail
  go_ret
  exact ⟨rfl, rfl⟩
end Go.Proofs.YtdnlejboijkcfaaGreatDoor
