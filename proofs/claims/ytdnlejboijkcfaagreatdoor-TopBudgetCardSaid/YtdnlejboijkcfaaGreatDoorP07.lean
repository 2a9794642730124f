/- Texts laid together. -/
import Derived.Test.YtdnlejboijkcfaaGreatDoorP06
import Derived.RangeFuncNested
import Derived.RangeFuncBound
import Derived.RangeFuncCalls
import Derived.RangeFuncLeaves
import Derived.RangeFuncBox
import Derived.Shelf.Abstract
import Derived.Shelf.RegionOpen
import Derived.WalkKit
import Derived.OwnWalkIn
import Derived.TacticsInMore
import Derived.LoopNIn
import Derived.LoopIn
import Derived.Test.YtdnlejboijkcfaaGreatDoorP01
/- Texts laid together: Each1, Turn1, Fold1, Fold2, FoldMath, Fold3. -/
/- pool.Each: what the iterator promises. -/
namespace Go.Proofs.YtdnlejboijkcfaaGreatDoor
set_option maxHeartbeats 8000000
set_option maxRecDepth 100000
open Go.RowKit Nl
attribute [local go_sem] Oper.semAt_some
abbrev N64 := { x : Nd // In64 x.1 ∧ In64 x.2 }
def KpS (Safe : World → Nat → Prop) (W W' : World) : Prop :=
  W.heap.size ≤ W'.heap.size ∧ ∀ k o, W.heap[k]? = some o → o.isCells = true → Safe W k → W'.heap[k]? = some o ∧ Safe W' k
def Steady (Safe : World → Nat → Prop) : Prop :=
  ∀ (W W' : World) (row : Option Nat), W.grownBy W' row → (∀ r, row = some r → ∃ o : Obj, W.heap[r]? = some o ∧ o.isCells = false) → ∀ k, k < W.heap.size → Safe W k → Safe W' k
theorem KpS.trans {Safe : World → Nat → Prop} {A B C : World} (h : KpS Safe A B) (k : KpS Safe B C) : KpS Safe A C :=
  ⟨Nat.le_trans h.1 k.1, fun j o ho hc hs => by
    obtain ⟨h1, h2⟩ := h.2 j o ho hc hs
    exact k.2 j o h1 hc h2⟩
theorem KpS.grown {Safe : World → Nat → Prop} (st : Steady Safe) {W W' : World} {row : Option Nat} (hg : W.grownBy W' row) (hr : ∀ r, row = some r → ∃ o : Obj, W.heap[r]? = some o ∧ o.isCells = false) : KpS Safe W W' :=
  ⟨hg.size, fun k _ ho hc hs => ⟨(grownBy_keeps_cells hg hr ho hc).trans ho, st W W' row hg hr k (Array.getElem?_eq_some_iff.1 ho).1 hs⟩⟩
theorem KpS.putObj {Safe : World → Nat → Prop} (st : Steady Safe) (W : World) (l : Nat) (o o' : Obj) (h : W.heap[l]? = some o) (hc : o.isCells = false) : KpS Safe W (W.putObj l o') :=
  KpS.grown st (grownBy_putObj' W l o') (fun r e => by cases e; exact ⟨o, h, hc⟩)
theorem below_grownBy {W W' : World} (h : Below W.heap.size W W') : W.grownBy W' none := ⟨h.os, h.tape, h.output, h.size, fun k hk _ => h.block k hk⟩
theorem RdN.kpS {Safe : World → Nat → Prop} {W W' : World} {v : Value} {xs : List Nd} (h : RdN W v xs) (hx : xs ≠ []) (k : KpS Safe W W') (hs : ∀ j, v.ownBlock = some j → Safe W j) : RdN W' v xs ∧ ∀ j, v.ownBlock = some j → Safe W' j := by
  have key : ∀ j, v.ownBlock = some j → ∃ o : Obj, W.heap[j]? = some o ∧ o.isCells = true := fun j hj => by
    obtain ⟨p, cap, rfl⟩ := h.val
    obtain ⟨g, off, a, c, rfl, _, h1, h2, h3⟩ := h.at (k := 0) (by cases xs with | nil => exact absurd rfl hx | cons a r => simp)
    simp only [Value.ownBlock, Option.some.injEq] at hj
    subst hj
    exact cells_of_cell h2
  refine ⟨h.keep (fun j _ hj => ?_) k.1, fun j hj => ?_⟩
  · obtain ⟨o, ho, hc⟩ := key j hj
    rw [(k.2 j o ho hc (hs j hj)).1, ho]
  · obtain ⟨o, ho, hc⟩ := key j hj
    exact (k.2 j o ho hc (hs j hj)).2
theorem pl_each (p : Option Addr) (w : World) :
    Calls Tryz.prog 215 #[.pointer p] w fun e w' => e = .returned (.func (.func 231) #[] #[.pointer (some ⟨w.heap.size, 0, none⟩)]) ∧ w' = w.alloc (.cells #[.pointer p] 95) := by
  go_enter Tryz.func215, Tryz.ntmps215
  go_wp2_with fail
  go_ret
  exact ⟨rfl, rfl⟩
theorem each_stops {w : World} {q g h m : Nat} {kind l : Int} {zs : List Nd} {Safe : World → Nat → Prop} (n : Nat) (hn : 1 ≤ n) (b : Nat) (hb : b < w.heap.size) (hc : w.cell? ⟨b, 0, none⟩ = some (.pointer (some ⟨q, 0, none⟩)))
    (d : PoolV w q g h kind l m zs) (hm : m ≤ 100000) (st : Steady Safe) (hS : ∀ W, Below w.heap.size w W → ∀ k, w.heap.size ≤ k → k < W.heap.size → Safe W k) :
    SeqStopsK Fence.wide n Tryz.prog 231 #[.pointer (some ⟨b, 0, none⟩)] (fun x : N64 => #[Value.int .i64 x.1.1, Value.int .i64 x.1.2]) (KpS Safe) (fun ys => ys.map (·.1) = zs) (fun pre => pre.map (·.1) <+: zs) zs.length w := fun l0 J Jx W hW hJ hJx hY h0 => by
  have hc' := (hW.cell (p := ⟨b, 0, none⟩) hb).trans hc
  have d' := d.below hW nlr
  have hlen := d.len hm
  have hroll := d.roll
  have hin : ∀ x ∈ zs, In64 x.1 ∧ In64 x.2 := fun x hx => by
    have h1 := hroll.ids x hx
    have h2 := hroll.strict.2 x hx
    have h3 := Pos.le_sum hroll.strict.pos x hx
    have h4 := hroll.most
    obtain ⟨h5, h6⟩ : 1 ≤ x.1 ∧ x.1 ≤ 562949953421312 := by
      simp only [rightB, decide_eq_true_eq] at h1
      obtain ⟨n, rfl⟩ := Int.eq_ofNat_of_zero_le (show 0 ≤ l by omega)
      have := (pow48 (n := n) (by omega)).2
      simp only [Int.toNat_natCast] at h1
      omega
    exact ⟨⟨by omega, by omega⟩, ⟨by omega, by omega⟩⟩
  have SN := hid (pl_snap d' hm)
  clear hroll d d'
  refine callsIn_of_wp Tryz.func231 rfl trivial ?_ rfl
  simp only [Tryz.ntmps231, List.size_toArray, List.length_cons, List.length_nil, Nat.reduceAdd, Nat.reduceSub, Array.replicate_succ, Array.replicate_zero, List.push_toArray, List.append_toArray, List.nil_append, List.cons_append]
  gi_wp2_with (refine ⟨trivial, ?_⟩; gi_at_call 122; refine (callsIn_wide.2 SN.out).mono ?_; rintro e W1 ⟨v, rfl, hv, hb1⟩; obtain ⟨p, cap, rfl⟩ := hv.val)
  have hJ1 : J [] W1 := hJ [] W W1 none h0 (below_grownBy hb1) (fun r e => by cases e)
  have hrd := hv.rd
  have hsf : ∀ j, (Value.slice p zs.length cap).ownBlock = some j → Safe W1 j := fun j hj => by
    have h1 := hv.lt j hj
    have h2 := hv.lt' j hj
    exact hS W1 (hW.trans (hb1.mono hW.size)) j (Nat.le_trans hW.size h1) h2
  have hb1s := hb1.size
  have HJ := hid hJ
  have HY := hid hY
  have HI := hid hin
  clear hb1 hv h0 hc' hc SN hJ hJx hY hin
  gi_loopw [8] (fun i wr => ∃ (k : Nat) (pre : List N64), i = .int .i64 k ∧ k ≤ zs.length ∧ pre.map (·.1) = zs.take k ∧ J pre wr ∧ RdN wr (.slice p zs.length cap) zs ∧ (∀ j, (Value.slice p zs.length cap).ownBlock = some j → Safe wr j) ∧ W.heap.size ≤ wr.heap.size)
    (fun i _ => zs.length - (intOf i).toNat)
  case atStart => exact ⟨0, [], rfl, Nat.zero_le _, rfl, hJ1, hrd, hsf, hb1s⟩
  case round =>
    obtain ⟨k, pre, rfl, hk, hpre, hJs, hr, hsr, hws⟩ := hrel
    have hpl : pre.length = k := by have := congrArg List.length hpre; simp at this; omega
    by_cases hlt : k < zs.length
    · obtain ⟨g', off, a, c, rfl, eg, hg', c1, c2⟩ := hr.at hlt
      have hm : (a, c) ∈ zs := by rw [← eg]; exact getD_mem (d := ((0, 0) : Nd)) zs k hlt
      have hac := HI.out _ hm
      have hJa : J pre (wr.alloc (.cells #[.int .i64 a, .int .i64 c] 116)) := HJ.out pre wr _ none hJs (World.grownBy_alloc wr _ none) (fun r e => by cases e)
      obtain ⟨fn, tmps, assign, body, hy, hR⟩ := HY.out pre ⟨(a, c), hac⟩ _ hJa (by omega)
      dsimp only at hy
      have hra := hr.alloc (.cells #[.int .i64 a, .int .i64 c] 116)
      have hsa : ∀ j, (Value.slice (some ⟨g', off, none⟩) zs.length cap).ownBlock = some j → Safe (wr.alloc (.cells #[.int .i64 a, .int .i64 c] 116)) j := fun j hj => by
        have e := hj
        simp only [Value.ownBlock, Option.some.injEq] at e
        exact st wr _ none (World.grownBy_alloc wr _ none) (fun r e => by cases e) j (by omega) (hsr j hj)
      have hne : zs ≠ [] := by intro e; rw [e] at hlt; simp at hlt
      have etk : (pre ++ [(⟨(a, c), hac⟩ : N64)]).map (·.1) = zs.take (k + 1) := by
        rw [List.map_append, hpre, List.take_succ_eq_append_getElem hlt]
        congr 1
        simp only [List.map_cons, List.map_nil, List.cons.injEq, and_true]
        rw [← eg]; simp [List.getD, List.getElem?_eq_getElem hlt]
      gi_wp2
      refine hR.mono ?_
      rintro e W3 (⟨rfl, hJ3, hk3⟩ | ⟨rfl, hJx3⟩)
      · obtain ⟨hr3, hs3⟩ := hra.kpS hne hk3 hsa
        have hsz := hk3.1
        simp only [World.size_alloc] at hsz
        gi_wp2
        go_roundw
        case rel => exact ⟨k + 1, pre ++ [⟨(a, c), hac⟩], by simp, by omega, etk, hJ3, hr3, hs3, by omega⟩
        case measure => simp [intOf]; omega
      · gi_wp2
        refine bodyPost_ret (results_none rfl _ _ _) rfl ?_
        exact ⟨⟨_, rfl⟩, .inr ⟨pre ++ [⟨(a, c), hac⟩], by rw [etk]; exact List.take_prefix _ _, hJx3⟩⟩
    · obtain rfl : k = zs.length := by omega
      gi_wp2
      go_end0
      exact ⟨⟨_, rfl⟩, .inl ⟨pre, by rw [hpre, List.take_length], hJs⟩⟩
end Go.Proofs.YtdnlejboijkcfaaGreatDoor
/- pool.Turn: what a round that adds to a pool keeps. -/
namespace Go.Proofs.YtdnlejboijkcfaaGreatDoor
set_option maxHeartbeats 8000000
set_option maxRecDepth 100000
open Go.RowKit Nl
def hAt (kind : Int) : Nat := if kind = 1 then 3 else 4
def SafeP (q g : Nat) (kind : Int) (W : World) (k : Nat) : Prop := k ≠ q ∧ k ≠ g ∧ ∃ h n c, W.cell? ⟨g, hAt kind, none⟩ = some (.slice (some ⟨h, 0, none⟩) n c) ∧ k ≠ h
theorem PoolV.grown {w w' : World} {q g h m : Nat} {kind l : Int} {zs : List Nd} {row : Option Nat} (d : PoolV w q g h kind l m zs) (hg : w.grownBy w' row) (hr : ∀ r, row = some r → ∃ o : Obj, w.heap[r]? = some o ∧ o.isCells = false) : PoolV w' q g h kind l m zs := by
  rcases d with ⟨k, hb, h1, h2, cs, ⟨u, t, d, v⟩, e⟩ | ⟨k, hb, h1, h2, b, xs, ⟨⟨cap, rest, d1, d2, d3⟩, v⟩, r⟩
  · exact .inl ⟨k, hb.keep (grownBy_keeps_cells hg hr hb rfl), h1, h2, cs, ⟨u, t, ⟨d.1.keep (grownBy_keeps_cells hg hr d.1 rfl), d.2.1.keep (grownBy_keeps_cells hg hr d.2.1 rfl), d.2.2⟩, v⟩, e⟩
  · exact .inr ⟨k, hb.keep (grownBy_keeps_cells hg hr hb rfl), h1, h2, b, xs, ⟨⟨cap, rest, d1.keep (grownBy_keeps_cells hg hr d1 rfl), d2.keep (grownBy_keeps_cells hg hr d2 rfl), d3⟩, v⟩, r⟩
namespace Nl
end Nl
end Go.Proofs.YtdnlejboijkcfaaGreatDoor
/- The walks of twig.Kids, fold.Cap, Mass, Ready, Do, and the reference's Kids, Cap, Mass, Ready. -/
namespace Go.Proofs.YtdnlejboijkcfaaGreatDoor
set_option maxHeartbeats 8000000
set_option maxRecDepth 100000
open Go.RowKit Nl
namespace Nl
def kidsB (l id : Int) : Bool := rightB l id && decide (id < 2 ^ l.toNat)
def kidA (l id : Int) : Int := if kidsB l id then 2 * id else 0
def kidZ (l id : Int) : Int := if kidsB l id then 2 * id + 1 else 0
def capV (n k : Int) : Int := if n < 0 ∨ k < 1 then 0 else n / k
def pairV (l : Int) (zs : List (Int × Int)) (p : Int) : Int := if kidsB l p then findL (2 * p) zs + findL (2 * p + 1) zs else 0
def allV (l : Int) (zs : List (Int × Int)) (p : Int) : Int := if kidsB l p then findL (2 * p) zs + findL (2 * p + 1) zs + findL p zs else 0
def readyB (l : Int) (zs : List (Int × Int)) (p most : Int) : Bool := decide (0 < pairV l zs p ∧ allV l zs p ≤ most)
theorem kids_bound {l p : Int} (h : kidsB l p = true) : 1 ≤ p ∧ p < 281474976710656 := by
  simp only [kidsB, Bool.and_eq_true, decide_eq_true_eq] at h
  have h1 := right_pos h.1
  have h2 := h.1
  simp only [rightB, decide_eq_true_eq] at h2
  obtain ⟨n, rfl⟩ := Int.eq_ofNat_of_zero_le (show 0 ≤ l by omega)
  have := (pow48 (n := n) (by omega)).2
  simp only [Int.toNat_natCast] at h
  omega
end Nl
theorem t_kids (l id : Int) (w : World) (bl : In64 l) (bi : In64 id) :
    Calls Tryz.prog 218 #[.int .i64 l, .int .i64 id] w fun e w' => e = .returned (.tuple #[.int .i64 (kidA l id), .int .i64 (kidZ l id), .bool (kidsB l id)]) ∧ w = w' := by
  obtain ⟨bl1, bl2⟩ := bl
  obtain ⟨bi1, bi2⟩ := bi
  obtain ⟨r, er⟩ : ∃ r, rightB l id = r := ⟨_, rfl⟩
  have Er := hid er
  cases r
  · have e : kidsB l id = false := by unfold kidsB; rw [er]; rfl
    have e1 : kidA l id = 0 := by unfold kidA; rw [e]; rfl
    have e2 : kidZ l id = 0 := by unfold kidZ; rw [e]; rfl
    rw [e, e1, e2]
    clear er e e1 e2
    go_enter Tryz.func218, Tryz.ntmps218
    go_wp2_with fail
    refine (twig_right l id w bl1 bl2 bi1 bi2).mono ?_
    rintro e w' ⟨rfl, rfl⟩
    rw [Er.out]
    go_wp2_with fail
    go_ret3
    exact ⟨rfl, rfl⟩
  · have h2 := er
    simp only [rightB, decide_eq_true_eq] at h2
    obtain ⟨n, rfl⟩ := Int.eq_ofNat_of_zero_le (show 0 ≤ l by omega)
    have hn : n ≤ 48 := by omega
    obtain ⟨p1, p2⟩ := pow48 (n := n) hn
    simp only [Int.toNat_natCast] at h2
    by_cases hk : id < 2 ^ n
    · have e : kidsB n id = true := by unfold kidsB; rw [er]; simpa using hk
      have e1 : kidA n id = 2 * id := by unfold kidA; rw [e]; rfl
      have e2 : kidZ n id = 2 * id + 1 := by unfold kidZ; rw [e]; rfl
      rw [e, e1, e2]
      clear er e e1 e2
      go_enter Tryz.func218, Tryz.ntmps218
      go_wp2_with fail
      refine (twig_right n id w bl1 bl2 bi1 bi2).mono ?_
      rintro e w' ⟨rfl, rfl⟩
      rw [Er.out]
      go_wp2_with fail
      go_ret3
      exact ⟨rfl, rfl⟩
    · have e : kidsB n id = false := by unfold kidsB; rw [er]; simpa using hk
      have e1 : kidA n id = 0 := by unfold kidA; rw [e]; rfl
      have e2 : kidZ n id = 0 := by unfold kidZ; rw [e]; rfl
      rw [e, e1, e2]
      clear er e e1 e2
      go_enter Tryz.func218, Tryz.ntmps218
      go_wp2_with fail
      refine (twig_right n id w bl1 bl2 bi1 bi2).mono ?_
      rintro e w' ⟨rfl, rfl⟩
      rw [Er.out]
      go_wp2_with fail
      go_ret3
      exact ⟨rfl, rfl⟩
theorem f_cap (n k : Int) (w : World) (bn : In64 n) (bk : In64 k) :
    Calls Tryz.prog 188 #[.int .i64 n, .int .i64 k] w fun e w' => e = .returned (.int .i64 (capV n k)) ∧ w = w' := by
  obtain ⟨b1, b2⟩ := bn
  obtain ⟨b3, b4⟩ := bk
  by_cases h1 : n < 0
  · have e : capV n k = 0 := by unfold capV; rw [if_pos (.inl h1)]
    rw [e]; clear e
    go_enter Tryz.func188, Tryz.ntmps188
    go_wp2_with (go_at_call 103; go_in)
    go_ret
    exact ⟨rfl, rfl⟩
  · by_cases h2 : k < 1
    · have e : capV n k = 0 := by unfold capV; rw [if_pos (.inr h2)]
      rw [e]; clear e
      go_enter Tryz.func188, Tryz.ntmps188
      go_wp2_with (go_at_call 103; go_in)
      go_ret
      exact ⟨rfl, rfl⟩
    · have e : capV n k = n / k := by unfold capV; rw [if_neg (by omega)]
      have hk0 : (k == 0) = false := by simp; omega
      rw [e]; clear e
      go_enter Tryz.func188, Tryz.ntmps188
      go_wp2_with (go_at_call 103; go_in)
      go_ret
      exact ⟨rfl, rfl⟩
end Go.Proofs.YtdnlejboijkcfaaGreatDoor
/- The walks of fold.Mass, Ready, Do, the reference's Mass and Ready. -/
namespace Go.Proofs.YtdnlejboijkcfaaGreatDoor
set_option maxHeartbeats 8000000
set_option maxRecDepth 100000
open Go.RowKit Nl
namespace Nl
def foldDo (l : Int) (zs : List (Int × Int)) (p : Int) : List (Int × Int) × Int :=
  if kidsB l p then ((stAdd l (stTake (stTake zs (2 * p)).1 (2 * p + 1)).1 p ((stTake zs (2 * p)).2 + (stTake (stTake zs (2 * p)).1 (2 * p + 1)).2)).1, (stTake zs (2 * p)).2 + (stTake (stTake zs (2 * p)).1 (2 * p + 1)).2) else (zs, 0)
theorem findL_filter {zs : List (Int × Int)} {id k : Int} (h : id ≠ k) : findL id (zs.filter (fun x => x.1 ≠ k)) = findL id zs := by
  induction zs with
  | nil => rfl
  | cons x r ih =>
    rw [List.filter_cons]
    by_cases hx : x.1 = k
    · rw [if_neg (by simp [hx]), ih, findL, if_neg (by omega)]
    · rw [if_pos (by simp [hx]), findL, findL, ih]
theorem stTake_len (zs : List (Int × Int)) (id : Int) : (stTake zs id).1.length ≤ zs.length := List.length_filter_le _ _
end Nl
theorem f_mass {w : World} {q g h m : Nat} {kind l : Int} {zs : List Nd} (p : Int) (d : PoolV w q g h kind l m zs) (hm : m ≤ 100000) (bp : In64 p) :
    Calls Tryz.prog 217 #[.pointer (some ⟨q, 0, none⟩), .int .i64 p] w fun e w' => e = .returned (.tuple #[.int .i64 (pairV l zs p), .int .i64 (allV l zs p)]) ∧ Below w.heap.size w w' := by
  have hroll := d.roll
  have bl : In64 l := ⟨by have := hroll.l1; omega, by have := hroll.l2; omega⟩
  have K := hid (fun W : World => t_kids l p W bl bp)
  obtain ⟨k, ek⟩ : ∃ k, kidsB l p = k := ⟨_, rfl⟩
  rw [ek] at K
  cases k
  · have e1 : kidA l p = 0 := by unfold kidA; rw [ek]; rfl
    have e2 : kidZ l p = 0 := by unfold kidZ; rw [ek]; rfl
    have e3 : pairV l zs p = 0 := by unfold pairV; rw [ek]; rfl
    have e4 : allV l zs p = 0 := by unfold allV; rw [ek]; rfl
    rw [e1, e2] at K
    rw [e3, e4]
    clear ek e1 e2 e3 e4 hroll
    go_enter Tryz.func217, Tryz.ntmps217
    go_wp2_with fail
    refine (pl_l d).mono ?_
    rintro e w' ⟨rfl, rfl⟩
    go_wp2_with fail
    refine (K.out w).mono ?_
    rintro e w' ⟨rfl, rfl⟩
    go_wp2_with fail
    go_ret2
    exact ⟨rfl, Below.refl _ _⟩
  · obtain ⟨kb1, kb2⟩ := kids_bound ek
    have e1 : kidA l p = 2 * p := by unfold kidA; rw [ek]; rfl
    have e2 : kidZ l p = 2 * p + 1 := by unfold kidZ; rw [ek]; rfl
    have e3 : pairV l zs p = findL (2 * p) zs + findL (2 * p + 1) zs := by unfold pairV; rw [ek]; rfl
    have e4 : allV l zs p = findL (2 * p) zs + findL (2 * p + 1) zs + findL p zs := by unfold allV; rw [ek]; rfl
    rw [e1, e2] at K
    rw [e3, e4]
    have G1 := hid (fun W (x : PoolV W q g h kind l m zs) => pl_get (2 * p) x hm ⟨by omega, by omega⟩)
    have G2 := hid (fun W (x : PoolV W q g h kind l m zs) => pl_get (2 * p + 1) x hm ⟨by omega, by omega⟩)
    have G3 := hid (fun W (x : PoolV W q g h kind l m zs) => pl_get p x hm bp)
    have b1 := hroll.find (2 * p)
    have b2 := hroll.find (2 * p + 1)
    have b3 := hroll.find p
    have b4 := hroll.most
    generalize findL (2 * p) zs = x1 at *
    generalize findL (2 * p + 1) zs = x2 at *
    generalize findL p zs = x3 at *
    clear ek e1 e2 e3 e4 hroll
    go_enter Tryz.func217, Tryz.ntmps217
    go_wp2_with fail
    refine (pl_l d).mono ?_
    rintro e w' ⟨rfl, rfl⟩
    go_wp2_with fail
    refine (K.out w).mono ?_
    rintro e w' ⟨rfl, rfl⟩
    go_wp2_with fail
    refine (G1.out w d).mono ?_
    rintro e w1 ⟨rfl, hb1⟩
    have d1 := d.below hb1 nlr
    have hs1 := hb1.size
    go_wp2_with fail
    refine (G2.out w1 d1).mono ?_
    rintro e w2 ⟨rfl, hb2⟩
    have d2 := d1.below hb2 nlr
    have hs2 := hb2.size
    go_wp2_with fail
    refine (G3.out w2 d2).mono ?_
    rintro e w3 ⟨rfl, hb3⟩
    go_wp2_with fail
    go_ret2
    exact ⟨rfl, (hb1.trans (hb2.mono hs1)).trans (hb3.mono (by omega))⟩
theorem f_ready {w : World} {q g h m : Nat} {kind l : Int} {zs : List Nd} (p most : Int) (d : PoolV w q g h kind l m zs) (hm : m ≤ 100000) (bp : In64 p) :
    Calls Tryz.prog 193 #[.pointer (some ⟨q, 0, none⟩), .int .i64 p, .int .i64 most] w fun e w' => e = .returned (.bool (readyB l zs p most)) ∧ Below w.heap.size w w' := by
  have M := hid (f_mass p d hm bp)
  have HR : Hid (readyB l zs p most = decide (0 < pairV l zs p ∧ allV l zs p ≤ most)) := rfl
  generalize pairV l zs p = a at *
  generalize allV l zs p = b at *
  generalize readyB l zs p most = R at *
  by_cases h1 : 0 < a <;> by_cases h2 : b ≤ most
  all_goals
    have e := HR.out
    simp [h1, h2] at e
    subst e
    clear HR
    go_enter Tryz.func193, Tryz.ntmps193
    go_wp2_with fail
    refine M.out.mono ?_
    rintro e w' ⟨rfl, hb⟩
    go_wp2_with fail
    go_ret
    exact ⟨ret_bool (by simp [h2]), hb⟩
def FoldPostP (q g h : Nat) (kind l : Int) (m : Nat) (r : List Nd × Int) (w : World) (e : Ending) (w' : World) : Prop :=
  e = .returned (.int .i64 r.2) ∧ ∃ h', PoolV w' q g h' kind l m r.1 ∧ (h' = h ∨ w.heap.size ≤ h') ∧ Tch g h w w'
theorem f_do {w : World} {q g h m : Nat} {kind l : Int} {zs : List Nd} (m' : Nat) (p : Int) (d : PoolV w q g h kind l m zs) (hm : m ≤ m') (hz : zs.length + 1 ≤ m') (hm' : m' ≤ 100000) (bp : In64 p) :
    Calls Tryz.prog 194 #[.pointer (some ⟨q, 0, none⟩), .int .i64 p] w (FoldPostP q g h kind l m' (foldDo l zs p) w) := by
  have hroll := d.roll
  have bl : In64 l := ⟨by have := hroll.l1; omega, by have := hroll.l2; omega⟩
  have K := hid (fun W : World => t_kids l p W bl bp)
  obtain ⟨k, ek⟩ : ∃ k, kidsB l p = k := ⟨_, rfl⟩
  rw [ek] at K
  cases k
  · have e1 : kidA l p = 0 := by unfold kidA; rw [ek]; rfl
    have e2 : kidZ l p = 0 := by unfold kidZ; rw [ek]; rfl
    have e3 : foldDo l zs p = (zs, 0) := by unfold foldDo; rw [ek]; rfl
    rw [e1, e2] at K
    rw [e3]
    clear ek e1 e2 e3 hroll
    go_enter Tryz.func194, Tryz.ntmps194
    go_wp2_with fail
    refine (pl_l d).mono ?_
    rintro e w' ⟨rfl, rfl⟩
    go_wp2_with fail
    refine (K.out w).mono ?_
    rintro e w' ⟨rfl, rfl⟩
    go_wp2_with fail
    go_ret
    exact ⟨rfl, h, d.mono hm, .inl rfl, Tch.refl _ _ _⟩
  · obtain ⟨kb1, kb2⟩ := kids_bound ek
    have e1 : kidA l p = 2 * p := by unfold kidA; rw [ek]; rfl
    have e2 : kidZ l p = 2 * p + 1 := by unfold kidZ; rw [ek]; rfl
    have e3 : foldDo l zs p = ((stAdd l (stTake (stTake zs (2 * p)).1 (2 * p + 1)).1 p ((stTake zs (2 * p)).2 + (stTake (stTake zs (2 * p)).1 (2 * p + 1)).2)).1, (stTake zs (2 * p)).2 + (stTake (stTake zs (2 * p)).1 (2 * p + 1)).2) := by unfold foldDo; rw [ek]; rfl
    rw [e1, e2] at K
    rw [e3]
    have r1 := hroll.take (2 * p)
    have b1 := hroll.find (2 * p)
    have b2 := r1.find (2 * p + 1)
    have b3 := r1.most
    have b4 := hroll.most
    have l1 := stTake_len zs (2 * p)
    have l2 := stTake_len (stTake zs (2 * p)).1 (2 * p + 1)
    have n1 : (stTake zs (2 * p)).2 = findL (2 * p) zs := rfl
    have n2 : (stTake (stTake zs (2 * p)).1 (2 * p + 1)).2 = findL (2 * p + 1) (stTake zs (2 * p)).1 := rfl
    rw [← n1] at b1
    rw [← n2] at b2
    have T1 := hid (fun W (x : PoolV W q g h kind l m zs) => pl_take (2 * p) x (by omega) ⟨by omega, by omega⟩)
    have T2 := hid (fun W (x : PoolV W q g h kind l m (stTake zs (2 * p)).1) => pl_take (2 * p + 1) x (by omega) ⟨by omega, by omega⟩)
    clear n1 n2 e1 e2 e3 ek r1 hroll
    generalize stTake zs (2 * p) = z1 at *
    obtain ⟨zs1, x1⟩ := z1
    simp only at *
    generalize stTake zs1 (2 * p + 1) = z2 at *
    obtain ⟨zs2, x2⟩ := z2
    simp only at *
    have Ad := hid (fun W (x : PoolV W q g h kind l m zs2) => pl_add m' p (x1 + x2) x hm (by omega) hm' bp ⟨by omega, by omega⟩)
    generalize stAdd l zs2 p (x1 + x2) = z3 at *
    go_enter Tryz.func194, Tryz.ntmps194
    go_wp2_with fail
    refine (pl_l d).mono ?_
    rintro e w' ⟨rfl, rfl⟩
    go_wp2_with fail
    refine (K.out w).mono ?_
    rintro e w' ⟨rfl, rfl⟩
    go_wp2_with fail
    refine (T1.out w d).mono ?_
    rintro e w1 ⟨rfl, d1, tc1⟩
    go_wp2_with fail
    refine (T2.out w1 d1).mono ?_
    rintro e w2 ⟨rfl, d2, tc2⟩
    go_wp2_with fail
    refine (Ad.out w2 d2).mono ?_
    rintro e w3 ⟨rfl, h', d3, hh, tc3⟩
    have hs1 := tc1.size
    have hs2 := tc2.size
    go_wp2_with fail
    go_ret
    refine ⟨rfl, h', d3, ?_, (tc1.trans tc2).trans tc3⟩
    rcases hh with e | e
    · exact .inl e
    · right; omega
end Go.Proofs.YtdnlejboijkcfaaGreatDoor
/- What comes of a fold (no program in sight). -/
namespace Go.Proofs.YtdnlejboijkcfaaGreatDoor
set_option maxHeartbeats 8000000
set_option maxRecDepth 100000
open Go.RowKit
namespace Nl
theorem filter_ids {P Q : List (Int × Int)} {id v : Int} (hP : ∀ x ∈ P, x.1 < id) (hQ : ∀ x ∈ Q, id < x.1) : (P ++ ((if 0 < v then [(id, v)] else []) ++ Q)).filter (fun x => x.1 ≠ id) = P ++ Q := by
  rw [List.filter_append, List.filter_append]
  have f1 : P.filter (fun x => x.1 ≠ id) = P := List.filter_eq_self.2 (fun x hx => by have := hP x hx; simp; omega)
  have f2 : Q.filter (fun x => x.1 ≠ id) = Q := List.filter_eq_self.2 (fun x hx => by have := hQ x hx; simp; omega)
  rw [f1, f2]
  split <;> simp
theorem take_facts {zs : List (Int × Int)} (h : Strict zs) (id : Int) : sumL (stTake zs id).1 + findL id zs = sumL zs ∧ (stTake zs id).1.length + (if 0 < findL id zs then 1 else 0) = zs.length := by
  obtain ⟨P, Q, e1, e2, e3, e4⟩ := strict_split h id
  have ef : (stTake zs id).1 = zs.filter (fun x => x.1 ≠ id) := rfl
  generalize findL id zs = v at *
  rw [ef, e1, filter_ids e2 e3, sumL_append, sumL_append, sumL_append]
  simp only [List.length_append]
  split
  · simp [sumL]; omega
  · simp [sumL]; omega
theorem addS_len {zs : List (Int × Int)} (h : Strict zs) {id c : Int} (hc : 0 ≤ c) : (addS zs id c).length ≤ zs.length + (if 0 < c then 1 else 0) := by
  obtain ⟨P, Q, e1, e2, e3, e4⟩ := strict_split h id
  generalize findL id zs = v at *
  subst e1
  rw [addS_parts e2 e3 e4 hc]
  simp only [List.length_append]
  split <;> split <;> split <;> simp <;> omega
theorem addS_find {zs : List (Int × Int)} (h : Strict zs) {id c : Int} (hi : 1 ≤ id) (hc : 0 ≤ c) : findL id (addS zs id c) = findL id zs + c := by
  obtain ⟨s1, s2⟩ := addS_spec h hi hc
  obtain ⟨_, _, _, _, _, e4⟩ := strict_split h id
  by_cases hp : 0 < findL id zs + c
  · exact strict_at s1 ((s2 id (findL id zs + c)).2 (.inr ⟨rfl, rfl, hp⟩))
  · rw [findL_no (fun x hx => ?_)]
    · omega
    · intro e
      rcases (s2 x.1 x.2).1 hx with ⟨h1, _⟩ | ⟨_, h2, h3⟩
      · exact h1 e
      · omega
theorem addS_gone {zs : List (Int × Int)} (h : Strict zs) {id c k : Int} (hi : 1 ≤ id) (hc : 0 ≤ c) (hk : k ≠ id) (hn : ∀ x ∈ zs, x.1 ≠ k) : findL k (addS zs id c) = 0 := by
  obtain ⟨s1, s2⟩ := addS_spec h hi hc
  refine findL_no (fun x hx e => ?_)
  rcases (s2 x.1 x.2).1 hx with ⟨_, h1⟩ | ⟨h1, _⟩
  · exact hn _ h1 e
  · omega
theorem stAdd_ok {l : Int} {zs : List (Int × Int)} (r : Roll l zs) {id c : Int} (hr : rightB l id = true) (hc : 0 ≤ c) (hs : sumL zs + c ≤ 72057594037927935) : stAdd l zs id c = (addS zs id c, 0) := by
  unfold stAdd
  rw [if_neg (by rw [hr]; simp; omega), if_neg (by rw [r.tot]; omega), foldL_add r.strict (right_pos hr) hc hs]
  rfl
theorem fold_facts {l : Int} {zs : List (Int × Int)} (r : Roll l zs) (p : Int) :
    Roll l (foldDo l zs p).1 ∧ sumL (foldDo l zs p).1 = sumL zs ∧ (foldDo l zs p).1.length ≤ zs.length ∧ pairV l (foldDo l zs p).1 p = 0 ∧
    (kidsB l p = true → findL (2 * p) (foldDo l zs p).1 = 0 ∧ findL (2 * p + 1) (foldDo l zs p).1 = 0 ∧ findL p (foldDo l zs p).1 = allV l zs p) := by
  unfold pairV allV foldDo
  cases hk : kidsB l p
  · exact ⟨r, rfl, nlr, by simp, fun h => by cases h⟩
  · simp only [if_true]
    obtain ⟨k1, k2⟩ := kids_bound hk
    have hr : rightB l p = true := by
      simp only [kidsB, Bool.and_eq_true] at hk; exact hk.1
    have r1 := r.take (2 * p)
    have r2 := r1.take (2 * p + 1)
    obtain ⟨s1, n1⟩ := take_facts r.strict (2 * p)
    obtain ⟨s2, n2⟩ := take_facts r1.strict (2 * p + 1)
    have t1 : (stTake zs (2 * p)).2 = findL (2 * p) zs := rfl
    have t2 : (stTake (stTake zs (2 * p)).1 (2 * p + 1)).2 = findL (2 * p + 1) (stTake zs (2 * p)).1 := rfl
    have t3 : findL (2 * p + 1) (stTake zs (2 * p)).1 = findL (2 * p + 1) zs := findL_filter (by omega)
    have g0 : findL p (stTake (stTake zs (2 * p)).1 (2 * p + 1)).1 = findL p zs := (findL_filter (by omega)).trans (findL_filter (by omega))
    have f1 := r.find (2 * p)
    have f2 := r1.find (2 * p + 1)
    have m1 : ∀ x ∈ (stTake (stTake zs (2 * p)).1 (2 * p + 1)).1, x.1 ≠ 2 * p := fun x hx => by
      have := (List.mem_filter.1 (List.mem_filter.1 hx).1).2; simpa using this
    have m2 : ∀ x ∈ (stTake (stTake zs (2 * p)).1 (2 * p + 1)).1, x.1 ≠ 2 * p + 1 := fun x hx => by
      have := (List.mem_filter.1 hx).2; simpa using this
    have hs := r.most
    rw [t1, t2]
    rw [stAdd_ok r2 hr (by omega) (by omega)]
    dsimp only
    have hl := addS_len r2.strict (id := p) (c := findL (2 * p) zs + findL (2 * p + 1) (stTake zs (2 * p)).1) (by omega)
    have hsum := addS_sum r2.strict (id := p) (c := findL (2 * p) zs + findL (2 * p + 1) (stTake zs (2 * p)).1) (by omega)
    have hf := addS_find r2.strict (id := p) (c := findL (2 * p) zs + findL (2 * p + 1) (stTake zs (2 * p)).1) (by omega) (by omega)
    have hg1 := addS_gone r2.strict (id := p) (c := findL (2 * p) zs + findL (2 * p + 1) (stTake zs (2 * p)).1) (by omega) (by omega) (show 2 * p ≠ p by omega) m1
    have hg2 := addS_gone r2.strict (id := p) (c := findL (2 * p) zs + findL (2 * p + 1) (stTake zs (2 * p)).1) (by omega) (by omega) (show 2 * p + 1 ≠ p by omega) m2
    obtain ⟨a1, a2⟩ := addS_spec r2.strict (id := p) (c := findL (2 * p) zs + findL (2 * p + 1) (stTake zs (2 * p)).1) (by omega) (by omega)
    refine ⟨⟨r.l1, r.l2, a1, by omega, fun x hx => ?_⟩, by omega, ?_, by omega, fun _ => ⟨hg1, hg2, by omega⟩⟩
    · rcases (a2 x.1 x.2).1 hx with ⟨_, h⟩ | ⟨h, _⟩
      · exact r2.ids _ h
      · rw [h]; exact hr
    · split at hl <;> split at n1 <;> split at n2 <;> omega
theorem fold_ready {l : Int} {zs : List (Int × Int)} (r : Roll l zs) (p most : Int) : readyB l (foldDo l zs p).1 p most = false := by
  unfold readyB
  rw [(fold_facts r p).2.2.2.1]
  simp
end Nl
end Go.Proofs.YtdnlejboijkcfaaGreatDoor
/- The walks of the statements' own functions over folds: Is, alive. -/
namespace Go.Proofs.YtdnlejboijkcfaaGreatDoor
set_option maxHeartbeats 8000000
set_option maxRecDepth 100000
open Go.RowKit Nl
namespace Nl
end Nl
end Go.Proofs.YtdnlejboijkcfaaGreatDoor
