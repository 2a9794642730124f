/- pool.Each: what the iterator promises. -/
import Derived.Test.YtipnnogafanemaaPool6
import Derived.RangeFuncNested
import Derived.RangeFuncBound
import Derived.RangeFuncCalls
import Derived.RangeFuncLeaves
import Derived.RangeFuncBox
import Derived.Shelf.Abstract
import Derived.Shelf.RegionOpen
import Derived.WalkKit
import Derived.OwnWalkIn
import Derived.TacticsInMore
import Derived.LoopNIn
import Derived.LoopIn
namespace Go.Proofs.Ytipnnogafanemaa
open Go.RowKit Nl

attribute [local go_sem] Oper.semAt_some

theorem run_equal_func_nil {P : Program} {T : TypeId} {ps : Array TypeId} {rs : Array TypeId} {vd : Bool} (hT : P.underlying T = some (.func ps rs vd)) (d : Nat) (fn : Fn) (fi ca : Array Value) (w : World) : Sem.run P (Op.equalIn (d + 1) T (.func fn fi ca) .nilFunc) w = .ok false w := by
  have hu : Sem.run P (underlying T) w = .ok (.func ps rs vd) w := by simp [underlying, hT, go_sem]
  unfold Op.equalIn
  simp only [Sem.run_bind, hu, Result.andThen_ok]
  rfl
/-- A function value is not nil. -/
theorem run_func_nil {P : Program} {T : TypeId} {ps : Array TypeId} {rs : Array TypeId} {vd : Bool} (hT : P.underlying T = some (.func ps rs vd)) (fn : Fn) (fi ca : Array Value) (w : World) : Sem.run P (binOp .eql T (.func fn fi ca) .nilFunc) w = .ok (.bool false) w := by
  simp [binOp, Op.equal, go_sem]
  rw [show Op.maxDepth = (Op.maxDepth - 1) + 1 from rfl, run_equal_func_nil hT]
  rfl

/-- Nodes of ints. -/
abbrev N64 := { x : Nd // In64 x.1 ∧ In64 x.2 }
/-- What a round that goes on keeps: whatever cells are safe. -/
def KpS (Safe : World → Nat → Prop) (W W' : World) : Prop :=
  W.heap.size ≤ W'.heap.size ∧ ∀ k o, W.heap[k]? = some o → o.isCells = true → Safe W k → W'.heap[k]? = some o ∧ Safe W' k
/-- What is safe abides whatever turns no cells. -/
def Steady (Safe : World → Nat → Prop) : Prop :=
  ∀ (W W' : World) (row : Option Nat), W.grownBy W' row → (∀ r, row = some r → ∃ o : Obj, W.heap[r]? = some o ∧ o.isCells = false) → ∀ k, k < W.heap.size → Safe W k → Safe W' k
theorem KpS.trans {Safe : World → Nat → Prop} {A B C : World} (h : KpS Safe A B) (k : KpS Safe B C) : KpS Safe A C :=
  ⟨Nat.le_trans h.1 k.1, fun j o ho hc hs => by
    obtain ⟨h1, h2⟩ := h.2 j o ho hc hs
    exact k.2 j o h1 hc h2⟩
theorem KpS.grown {Safe : World → Nat → Prop} (st : Steady Safe) {W W' : World} {row : Option Nat} (hg : W.grownBy W' row) (hr : ∀ r, row = some r → ∃ o : Obj, W.heap[r]? = some o ∧ o.isCells = false) : KpS Safe W W' :=
  ⟨hg.size, fun k _ ho hc hs => ⟨(grownBy_keeps_cells hg hr ho hc).trans ho, st W W' row hg hr k (Array.getElem?_eq_some_iff.1 ho).1 hs⟩⟩
theorem KpS.putObj {Safe : World → Nat → Prop} (st : Steady Safe) (W : World) (l : Nat) (o o' : Obj) (h : W.heap[l]? = some o) (hc : o.isCells = false) : KpS Safe W (W.putObj l o') :=
  KpS.grown st (grownBy_putObj' W l o') (fun r e => by cases e; exact ⟨o, h, hc⟩)
theorem below_grownBy {W W' : World} (h : Below W.heap.size W W') : W.grownBy W' none := ⟨h.os, h.tape, h.output, h.size, fun k hk _ => h.block k hk⟩
theorem RdN.kpS {Safe : World → Nat → Prop} {W W' : World} {v : Value} {xs : List Nd} (h : RdN W v xs) (hx : xs ≠ []) (k : KpS Safe W W') (hs : ∀ j, v.ownBlock = some j → Safe W j) : RdN W' v xs ∧ ∀ j, v.ownBlock = some j → Safe W' j := by
  have key : ∀ j, v.ownBlock = some j → ∃ o : Obj, W.heap[j]? = some o ∧ o.isCells = true := fun j hj => by
    obtain ⟨p, cap, rfl⟩ := h.val
    obtain ⟨g, off, a, c, rfl, _, h1, h2, h3⟩ := h.at (k := 0) (by cases xs with | nil => exact absurd rfl hx | cons a r => simp)
    simp only [Value.ownBlock, Option.some.injEq] at hj
    subst hj
    exact cells_of_cell h2
  refine ⟨h.keep (fun j _ hj => ?_) k.1, fun j hj => ?_⟩
  · obtain ⟨o, ho, hc⟩ := key j hj
    rw [(k.2 j o ho hc (hs j hj)).1, ho]
  · obtain ⟨o, ho, hc⟩ := key j hj
    exact (k.2 j o ho hc (hs j hj)).2

set_option maxRecDepth 100000 in
set_option maxHeartbeats 1000000 in
theorem pl_each (p : Option Addr) (w : World) :
    Calls Try.prog 23 #[.pointer p] w fun e w' => e = .returned (.func (.func 62) #[] #[.pointer (some ⟨w.heap.size, 0, none⟩)]) ∧ w' = w.alloc (.cells #[.pointer p] 29) := by
  go_enter Try.func23, Try.ntmps23
  go_wp2_with fail
  go_ret
  exact ⟨rfl, rfl⟩

set_option maxRecDepth 100000 in
set_option maxHeartbeats 2000000 in
/-- The iterator, whatever is done with the nodes, if only what it reads is kept. -/
theorem each_stops {w : World} {q g h m : Nat} {kind l : Int} {zs : List Nd} {Safe : World → Nat → Prop} (n : Nat) (hn : 1 ≤ n) (b : Nat) (hb : b < w.heap.size) (hc : w.cell? ⟨b, 0, none⟩ = some (.pointer (some ⟨q, 0, none⟩)))
    (d : PoolV w q g h kind l m zs) (hm : m ≤ 100000) (st : Steady Safe) (hS : ∀ W, Below w.heap.size w W → ∀ k, w.heap.size ≤ k → k < W.heap.size → Safe W k) :
    SeqStopsK Fence.wide n Try.prog 62 #[.pointer (some ⟨b, 0, none⟩)] (fun x : N64 => #[Value.int .i64 x.1.1, Value.int .i64 x.1.2]) (KpS Safe) (fun ys => ys.map (·.1) = zs) (fun pre => pre.map (·.1) <+: zs) zs.length w := fun l0 J Jx W hW hJ hJx hY h0 => by
  have hc' := (hW.cell (p := ⟨b, 0, none⟩) hb).trans hc
  have d' := d.below hW (Nat.le_refl _)
  have hlen := d.len hm
  have hroll := d.roll
  have hin : ∀ x ∈ zs, In64 x.1 ∧ In64 x.2 := fun x hx => by
    have h1 := hroll.ids x hx
    have h2 := hroll.strict.2 x hx
    have h3 := Pos.le_sum hroll.strict.pos x hx
    have h4 := hroll.most
    obtain ⟨h5, h6⟩ : 1 ≤ x.1 ∧ x.1 ≤ 562949953421312 := by
      simp only [rightB, decide_eq_true_eq] at h1
      obtain ⟨n, rfl⟩ := Int.eq_ofNat_of_zero_le (show 0 ≤ l by omega)
      have := (pow48 (n := n) (by omega)).2
      simp only [Int.toNat_natCast] at h1
      omega
    exact ⟨⟨by omega, by omega⟩, ⟨by omega, by omega⟩⟩
  have SN := hid (pl_snap d' hm)
  clear hroll d d'
  refine callsIn_of_wp Try.func62 rfl trivial ?_ rfl
  simp only [Try.ntmps62, List.size_toArray, List.length_cons, List.length_nil, Nat.reduceAdd, Nat.reduceSub, Array.replicate_succ, Array.replicate_zero, List.push_toArray, List.append_toArray, List.nil_append, List.cons_append]
  gi_wp2_with (refine ⟨trivial, ?_⟩; gi_at_call 28; refine (callsIn_wide.2 SN.out).mono ?_; rintro e W1 ⟨v, rfl, hv, hb1⟩; obtain ⟨p, cap, rfl⟩ := hv.val)
  have hJ1 : J [] W1 := hJ [] W W1 none h0 (below_grownBy hb1) (fun r e => by cases e)
  have hrd := hv.rd
  have hsf : ∀ j, (Value.slice p zs.length cap).ownBlock = some j → Safe W1 j := fun j hj => by
    have h1 := hv.lt j hj
    have h2 := hv.lt' j hj
    exact hS W1 (hW.trans (hb1.mono hW.size)) j (Nat.le_trans hW.size h1) h2
  have hb1s := hb1.size
  have HJ := hid hJ
  have HY := hid hY
  have HI := hid hin
  clear hb1 hv h0 hc' hc SN hJ hJx hY hin
  gi_loopw [8] (fun i wr => ∃ (k : Nat) (pre : List N64), i = .int .i64 k ∧ k ≤ zs.length ∧ pre.map (·.1) = zs.take k ∧ J pre wr ∧ RdN wr (.slice p zs.length cap) zs ∧ (∀ j, (Value.slice p zs.length cap).ownBlock = some j → Safe wr j) ∧ W.heap.size ≤ wr.heap.size)
    (fun i _ => zs.length - (intOf i).toNat)
  case atStart => exact ⟨0, [], rfl, Nat.zero_le _, rfl, hJ1, hrd, hsf, hb1s⟩
  case round =>
    obtain ⟨k, pre, rfl, hk, hpre, hJs, hr, hsr, hws⟩ := hrel
    have hpl : pre.length = k := by have := congrArg List.length hpre; simp at this; omega
    by_cases hlt : k < zs.length
    · obtain ⟨g', off, a, c, rfl, eg, hg', c1, c2⟩ := hr.at hlt
      have hm : (a, c) ∈ zs := by rw [← eg]; exact getD_mem (d := ((0, 0) : Nd)) zs k hlt
      have hac := HI.out _ hm
      have hJa : J pre (wr.alloc (.cells #[.int .i64 a, .int .i64 c] 47)) := HJ.out pre wr _ none hJs (World.grownBy_alloc wr _ none) (fun r e => by cases e)
      obtain ⟨fn, tmps, assign, body, hy, hR⟩ := HY.out pre ⟨(a, c), hac⟩ _ hJa (by omega)
      dsimp only at hy
      have hra := hr.alloc (.cells #[.int .i64 a, .int .i64 c] 47)
      have hsa : ∀ j, (Value.slice (some ⟨g', off, none⟩) zs.length cap).ownBlock = some j → Safe (wr.alloc (.cells #[.int .i64 a, .int .i64 c] 47)) j := fun j hj => by
        have e := hj
        simp only [Value.ownBlock, Option.some.injEq] at e
        exact st wr _ none (World.grownBy_alloc wr _ none) (fun r e => by cases e) j (by omega) (hsr j hj)
      have hne : zs ≠ [] := by intro e; rw [e] at hlt; simp at hlt
      have etk : (pre ++ [(⟨(a, c), hac⟩ : N64)]).map (·.1) = zs.take (k + 1) := by
        rw [List.map_append, hpre, List.take_succ_eq_append_getElem hlt]
        congr 1
        simp only [List.map_cons, List.map_nil, List.cons.injEq, and_true]
        rw [← eg]; simp [List.getD, List.getElem?_eq_getElem hlt]
      gi_wp2
      refine hR.mono ?_
      rintro e W3 (⟨rfl, hJ3, hk3⟩ | ⟨rfl, hJx3⟩)
      · obtain ⟨hr3, hs3⟩ := hra.kpS hne hk3 hsa
        have hsz := hk3.1
        simp only [World.size_alloc] at hsz
        gi_wp2
        go_roundw
        case rel => exact ⟨k + 1, pre ++ [⟨(a, c), hac⟩], by simp, by omega, etk, hJ3, hr3, hs3, by omega⟩
        case measure => simp [intOf]; omega
      · gi_wp2
        refine bodyPost_ret (results_none rfl _ _ _) rfl ?_
        exact ⟨⟨_, rfl⟩, .inr ⟨pre ++ [⟨(a, c), hac⟩], by rw [etk]; exact List.take_prefix _ _, hJx3⟩⟩
    · obtain rfl : k = zs.length := by omega
      gi_wp2
      go_end0
      exact ⟨⟨_, rfl⟩, .inl ⟨pre, by rw [hpre, List.take_length], hJs⟩⟩
end Go.Proofs.Ytipnnogafanemaa
