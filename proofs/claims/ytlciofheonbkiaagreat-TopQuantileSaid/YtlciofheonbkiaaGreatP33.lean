/- Texts laid together. -/
import Derived.Test.YtlciofheonbkiaaGreatP27
import Derived.Test.YtlciofheonbkiaaGreatP13
import Derived.Test.YtlciofheonbkiaaGreatP01
import Derived.RangeFuncNested
import Derived.RangeFuncBound
import Derived.RangeFuncCalls
import Derived.RangeFuncLeaves
import Derived.RangeFuncBox
import Derived.WalkKit
import Derived.OwnWalkIn
import Derived.TacticsInMore
import Derived.LoopNIn
import Derived.LoopIn
import Derived.Shelf.Abstract
import Derived.Shelf.RegionOpen
/- The walk of reading.end. -/
namespace Go.Proofs.YtlciofheonbkiaaGreat
set_option maxHeartbeats 8000000
set_option maxRecDepth 100000
open Go.RowKit Nl Sh
def Sh.endV (L K left : Int) (zs : List Nd) : Int := if 0 < left then 10 else loadE 2 L K zs
theorem l_end {w : World} {rb : Nat} {L K kind left : Int} {v : Value} {zs : List Nd} (X : Blk w rb #[.int .i64 L, .int .i64 K, .int .i64 kind, .int .i64 left, v] 188) (hr : RdN w v zs) (hn : NB zs) (hz : zs.length ≤ 100000) (hL : poolIs 2 L = true) (hK : isK K = true) :
    Calls Tryz.prog 136 #[.pointer (some ⟨rb, 0, none⟩)] w fun e w' => e = .returned (.int .i64 (endV L K left zs)) ∧ Below w.heap.size w w' := by
  obtain ⟨p, cap, rfl⟩ := hr.val
  have x0 : w.cell? ⟨rb, 0, none⟩ = some (.int .i64 L) := X.cell 0
  have x1 : w.cell? ⟨rb, 1, none⟩ = some (.int .i64 K) := X.cell 1
  have x3 : w.cell? ⟨rb, 3, none⟩ = some (.int .i64 left) := X.cell 3
  have x4 : w.cell? ⟨rb, 4, none⟩ = some (.slice p zs.length cap) := X.cell 4
  by_cases hl : 0 < left
  · have z : decide (0 < left) = true := decide_eq_true hl
    have ev : Hid (endV L K left zs = 10) := by show _ = _; unfold endV; rw [if_pos hl]
    clear hl
    go_enter Tryz.func136, Tryz.ntmps136
    go_wp2_with fail
    go_quiet (fail)
    go_wp2_with fail
    go_ret
    exact ⟨by rw [ev.out]; rfl, below_drewN (Below.refl _ _) _⟩
  · have z : decide (0 < left) = false := decide_eq_false hl
    have EV : Hid (endV L K left zs = loadE 2 L K zs) := by show _ = _; unfold endV; rw [if_neg hl]
    clear hl
    have bl : In64 L := by simp only [poolIs, decide_eq_true_eq] at hL; exact ⟨by omega, by omega⟩
    have bk : 1 ≤ K ∧ K ≤ 1048576 := by simp only [isK, decide_eq_true_eq] at hK; exact hK
    have hk8 : IntKind.i64.wrap (8 * K) = 8 * K := IntWalk.i64_in _ ⟨by omega, by omega⟩
    have HK8 := hid hk8
    have RT := hid (fun W (q : Below w.heap.size w W) => o_right L W (hr.below q nlr) hn (by omega) bl)
    have HR := hid (fun W (q : Below w.heap.size w W) => hr.below q nlr)
    have FX := hid (fun W (q : Below w.heap.size w W) => (show W.cell? ⟨rb, 0, none⟩ = some (.int .i64 L) ∧ W.cell? ⟨rb, 3, none⟩ = some (.int .i64 left) ∧ W.cell? ⟨rb, 4, none⟩ = some (.slice p zs.length cap) ∧ Below w.heap.size w W from ⟨(X.below q nlr).cell 0, (X.below q nlr).cell 3, (X.below q nlr).cell 4, q⟩))
    have FK := hid (fun W (q : Below w.heap.size w W) => (show W.cell? ⟨rb, 1, none⟩ = some (.int .i64 K) from (X.below q nlr).cell 1))
    have hB0 := Below.refl w.heap.size w
    have HE := hid (show loadE 2 L K zs = if rollB L zs = false then 10 else if 8 * K < (zs.length : Int) ∨ lightB L zs (capV (sumL zs) K) = false then 13 else 0 by unfold loadE; rw [hL, hK]; rfl)
    have HL := hid hL
    have HK := hid hK
    clear hk8 hL hK hr
    obtain ⟨RB, eRB⟩ : ∃ x, rollB L zs = x := ⟨_, rfl⟩
    rw [eRB] at RT HE
    replace eRB := hid eRB
    cases RB
    · clear HK8 bk FK HL HK X
      go_enter Tryz.func136, Tryz.ntmps136
      go_wp2_with fail
      go_region_held3 (fun w' => w'.cell? ⟨rb, 0, none⟩ = some (.int .i64 L) ∧ w'.cell? ⟨rb, 3, none⟩ = some (.int .i64 left) ∧ w'.cell? ⟨rb, 4, none⟩ = some (.slice p zs.length cap) ∧ Below w.heap.size w w')
        (first
          | exact FX.out _ (below_drewN hB0 1)
          | exact FX.out _ hB5)
        ((go_at_call 130; have hB4 := (‹_ ∧ _ ∧ _ ∧ Below w.heap.size w _›).2.2.2; refine (RT.out _ hB4).mono ?_; rintro e w5 ⟨rfl, hb5⟩
          have hB5 := hB4.trans (hb5.mono hB4.size)))
      go_wp2_with fail
      go_ret
      exact ⟨by rw [EV.out, HE.out]; rfl, hB5⟩
    · clear X
      go_enter Tryz.func136, Tryz.ntmps136
      go_wp2_with fail
      go_region_held3 (fun w' => w'.cell? ⟨rb, 0, none⟩ = some (.int .i64 L) ∧ w'.cell? ⟨rb, 3, none⟩ = some (.int .i64 left) ∧ w'.cell? ⟨rb, 4, none⟩ = some (.slice p zs.length cap) ∧ Below w.heap.size w w')
        (first
          | exact FX.out _ (below_drewN hB0 1)
          | exact FX.out _ hB5)
        ((go_at_call 130; have hB4 := (‹_ ∧ _ ∧ _ ∧ Below w.heap.size w _›).2.2.2; refine (RT.out _ hB4).mono ?_; rintro e w5 ⟨rfl, hb5⟩
          have hB5 := hB4.trans (hb5.mono hB4.size)))
      have F5 := FX.out _ hB5
      have c1 := FK.out _ hB5
      have c0 := F5.1
      have c4 := F5.2.2.1
      have b0 := HK8.out
      have nb := hid hn
      by_cases hlen : 8 * K < (zs.length : Int)
      · have z1 : decide (8 * K < (zs.length : Int)) = true := decide_eq_true hlen
        have P : Hid (loadE 2 L K zs = 13) := by show _ = _; rw [HE.out, if_neg (by simp), if_pos (.inl hlen)]
        clear HE hlen F5 RT HK8 FK FX
        go_wp2_with fail
        go_quiet (fail)
        go_wp2_with fail
        go_ret
        exact ⟨by rw [EV.out, P.out]; rfl, below_drewN hB5 _⟩
      · have z1 : decide (8 * K < (zs.length : Int)) = false := decide_eq_false hlen
        have LDP := hid (fun W q => pl_load 2 L W HL.out eRB.out q nb.out hz (v := .slice p zs.length cap))
        have LG := hid (fun W q g h (x : PoolV W q g h 2 L zs.length zs) => p_Light K HK.out x hz)
        obtain ⟨LB, eLB⟩ : ∃ x, lightB L zs (capV (sumL zs) K) = x := ⟨_, rfl⟩
        rw [eLB] at LG
        have P : Hid (loadE 2 L K zs = if LB = false then 13 else 0) := by
          show _ = _
          rw [HE.out, if_neg (by simp), eLB]
          cases LB
          · rw [if_pos (.inr rfl), if_pos rfl]
          · rw [if_neg (by simpa using hlen), if_neg (by simp)]
        clear HE hlen RT F5 eLB hz hn
        go_wp2_with fail
        go_quiet (fail)
        go_wp2_with fail
        clear z1 c0 c1 c4 b0
        have hB6 : Below w.heap.size w (w5.drewN nq) := below_drewN hB5 _
        generalize w5.drewN nq = w6 at *
        clear hB5
        go_region_held3 (fun w' => w'.cell? ⟨rb, 0, none⟩ = some (.int .i64 L) ∧ w'.cell? ⟨rb, 3, none⟩ = some (.int .i64 left) ∧ w'.cell? ⟨rb, 4, none⟩ = some (.slice p zs.length cap) ∧ Below w.heap.size w w')
          (first
            | exact FX.out _ (below_drewN hB6 1)
            | exact FX.out _ hB7)
          ((go_at_call 129; have hB4 := (‹_ ∧ _ ∧ _ ∧ Below w.heap.size w _›).2.2.2; refine (LDP.out _ (HR.out _ hB4)).mono ?_; rintro e w7 ⟨q, g, h, rfl, d7, -, -, -, hb7⟩
            have hB7 := hB4.trans (hb7.mono hB4.size)))
        have c1 := FK.out _ hB7
        have LH := hid (LG.out _ _ _ _ d7)
        clear d7 LG LDP
        cases LB
        all_goals
          go_wp2_with fail
          refine LH.out.mono ?_
          rintro e w8 ⟨rfl, hb8⟩
          go_wp2_with fail
          go_ret
          exact ⟨by rw [EV.out, P.out]; rfl, hB7.trans (hb8.mono hB7.size)⟩
end Go.Proofs.YtlciofheonbkiaaGreat

/- Texts laid together: RgBox, Sr7. -/
/- A range over a function whose iterator keeps what it goes over in a variable of its own (a captured cell, which it turns between two rounds): what such an iterator promises, and the walk of the loop. The library's laws have no such case; this one stands on the same words of the library (wpIn_rangeFunc, roundIn_of_wpIn, the runs of the loop's record). -/
namespace Go.Proofs.YtlciofheonbkiaaGreat
set_option maxHeartbeats 8000000
set_option maxRecDepth 100000
open Go.RowKit
def SeqBox {α : Type} (n : Nat) (g : Nat) (b : Nat) (encs : α → Array Value) (S Sp : List α → Prop) (N : Nat) (w : World) : Prop :=
  ∀ (l : Nat) (J Jx : List α → World → Prop) (W : World), Below w.heap.size w W → AbidesFrom W.heap.size J → AbidesFrom W.heap.size Jx →
    (∀ pre W1 v, J pre W1 → J pre (W1.setCell ⟨b, 0, none⟩ v)) →
    (∀ pre x W1, J pre W1 → pre.length < N → YieldAt Fence.wide (n - 1) Tryz.prog l (encs x) W1 fun e W' =>
      (e = .returned (.bool true) ∧ J (pre ++ [x]) W' ∧ W'.heap[b]? = W1.heap[b]?) ∨ (e = .returned (.bool false) ∧ Jx (pre ++ [x]) W')) →
    J [] W →
    CallsIn Fence.wide n Tryz.prog g #[.func (.yield l) #[] #[], .pointer (some ⟨b, 0, none⟩)] W fun e W' => (∃ v, e = .returned v) ∧ ((∃ xs, S xs ∧ J xs W') ∨ (∃ pre, Sp pre ∧ Jx pre W'))
def boxPost {α : Type} (B b : Nat) (I Ix : List α → World → Prop) (xs : List α) (W : World) : Exit → Act → World → Prop
  | .normal, _, W' => KeepsFrom B W W' ∧ W'.heap[b]? = W.heap[b]? ∧ I xs W'
  | .ret, _, W' => KeepsFrom B W W' ∧ Ix xs W'
  | _, _, _ => False
theorem wpIn_range_box {α : Type} {g : Operand} {ps : Array Tmp} {assign body : Code} {Q : Exit → Act → World → Prop} {a : Act} {w : World} {n : Nat} {gf b : Nat}
    (hg : a.eval g = .func (.func gf) #[] #[.pointer (some ⟨b, 0, none⟩)]) (eg : ∀ args w, (callFunc gf args).run Tryz.prog w = .ok (.enter gf args) w)
    {encs : α → Array Value} {S Sp : List α → Prop} {N : Nat} (hseq : SeqBox (n - 1) gf b encs S Sp N w) (hb : b < w.heap.size) (hps : ∀ x, (encs x).size = ps.size)
    (I Ix : List α → World → Prop) (hI : OwnFrom w.heap.size I) (hIx : OwnFrom w.heap.size Ix) (hIb : ∀ pre W v, I pre W → I pre (W.setCell ⟨b, 0, none⟩ v)) (h0 : I [] w) (a₁ : α → Act)
    (hassign : ∀ (l : Nat) (x : α) (W : World) (K : Act → World → Prop), K (a₁ x) W →
      assign.wpIn (Fence.wide.inRound l) (n - 1 - 1) Tryz.prog (Exit.then K (fun _ _ _ => False)) { tmps := (ps.zip (encs x)).foldl (fun t (p, v) => t.setIfInBounds p v) a.tmps, defers := [] } W)
    (hbody : ∀ (l : Nat) (pre : List α) (x : α) (W : World), I pre W → pre.length < N → body.wpIn (Fence.wide.inRound l) (n - 1 - 1) Tryz.prog (boxPost w.heap.size b I Ix (pre ++ [x]) W) (a₁ x) W)
    (hdone : ∀ (D : Nat) (xs : List α) (W : World), w.heap.size ≤ D → S xs → I xs W → W.heap[D]? = some (.deferred (some [])) → Q .normal { a with defers := { target := .collected D, args := #[] } :: a.defers } W)
    (hstop : ∀ (D : Nat) (pre : List α) (W : World), w.heap.size ≤ D → Sp pre → Ix pre W → W.heap[D]? = some (.deferred (some [])) → Code.ret.wpIn Fence.wide n Tryz.prog Q { a with defers := { target := .collected D, args := #[] } :: a.defers } W) :
    (Code.rangeFunc g ps assign body).wpIn Fence.wide n Tryz.prog Q a w := by
  refine wpIn_rangeFunc fun fn hfn => ?_
  -- the two blocks of the loop: that of the rounds' deferred calls (D), that of the record (R)
  let rec' : LoopState → Option Code → Loop := fun st pe => { state := st, pending := pe, fn, tmps := a.tmps, params := ps, assign, body, defers := w.heap.size }
  obtain ⟨D, hD⟩ : ∃ D, w.heap.size = D := ⟨_, rfl⟩
  obtain ⟨R, hR⟩ : ∃ R, D + 1 = R := ⟨_, rfl⟩
  let w1 := (w.alloc (.deferred (some []))).alloc (.loop (rec' .ready none))
  have hbR : b ≠ R := by omega
  have hbD : b ≠ D := by omega
  have r1 : w1.heap[R]? = some (.loop (rec' .ready none)) := by
    have := World.alloc_heap_new (w.alloc (.deferred (some []))) (.loop (rec' .ready none))
    rwa [World.size_alloc, hD, hR] at this
  have d1 : w1.heap[D]? = some (.deferred (some [])) := by
    rw [← hD]; exact (Below.heap_alloc _ _ _ (by simp)).trans (World.alloc_heap_new w _)
  have i1 : I [] w1 := hI.alloc _ (hI.alloc _ h0)
  have s1 : w1.heap.size = D + 2 := by show ((w.alloc _).alloc _).heap.size = _; simp [hD]
  have b1 : Below w.heap.size w w1 := ((Below.refl _ w).alloc nlr _).alloc (by simp) _
  -- what a block that is no walk's is, behind an iterator's step
  have turn : ∀ {A : World} {row : Option Nat}, (∀ r, row = some r → w1.heap.size ≤ r ∧ ∃ o : Obj, A.heap[r]? = some o ∧ o.isWalk = true) → ∀ r, row = some r → w.heap.size ≤ r ∧ ∃ o : Obj, A.heap[r]? = some o ∧ o.isCells = false := fun hr r e => by
    obtain ⟨h, o, ho, hw⟩ := hr r e
    exact ⟨by omega, o, ho, Obj.not_cells_of_walk hw⟩
  refine ⟨R, [{ target := .collected D, args := #[] }], w1, { target := .fn (.func gf) #[.pointer (some ⟨b, 0, none⟩)], args := #[.func (.yield R) #[] #[]] }, w1, gf, #[.func (.yield R) #[] #[], .pointer (some ⟨b, 0, none⟩)], w1, ?_, ?_, ?_, ?_, fun h => (by cases h), ?_⟩
  · rw [← hR, ← hD]; exact run_enterLoop_outer _ _ _ _ _
  · simp only [resolve, hg]; simp [go_sem]
  · intro f' _; trivial
  · show (invoke _ _).run _ _ = _
    simp [invoke, go_sem, eg]
  · refine (hseq R (fun pre W => I pre W ∧ W.heap[R]? = some (.loop (rec' .ready none)) ∧ W.heap[D]? = some (.deferred (some [])))
      (fun pre W => Ix pre W ∧ W.heap[R]? = some (.loop (rec' .done (some .ret))) ∧ W.heap[D]? = some (.deferred (some []))) w1 b1 ?_ ?_ ?_ ?_ ⟨i1, r1, d1⟩).mono ?_
    · rintro s A B row ⟨p1, p2, p3⟩ hg' hr
      exact ⟨hI s A B row p1 hg' (turn hr), (grownBy_keeps hg' (fun r e => (hr r e).2) p2 rfl).trans p2, (grownBy_keeps hg' (fun r e => (hr r e).2) p3 rfl).trans p3⟩
    · rintro s A B row ⟨p1, p2, p3⟩ hg' hr
      exact ⟨hIx s A B row p1 hg' (turn hr), (grownBy_keeps hg' (fun r e => (hr r e).2) p2 rfl).trans p2, (grownBy_keeps hg' (fun r e => (hr r e).2) p3 rfl).trans p3⟩
    · rintro pre W1 v ⟨p1, p2, p3⟩
      exact ⟨hIb _ _ _ p1, (Below.heap_setCell W1 ⟨b, 0, none⟩ v R (Ne.symm hbR)).trans p2, (Below.heap_setCell W1 ⟨b, 0, none⟩ v D (Ne.symm hbD)).trans p3⟩
    · rintro pre x W ⟨hi, hl, hk⟩ hlen
      have hlt : R < W.heap.size := (Array.getElem?_eq_some_iff.1 hl).1
      refine ⟨fn, _, assign, body, run_yield (P := Tryz.prog) (args := encs x) hl (hps x), roundIn_of_wpIn hfn (hassign _ x W _ ⟨_, run_beginRound hl rfl, ?_⟩)⟩
      have hl2 : (W.putObj R (.loop (rec' .busy none))).heap[R]? = some (.loop (rec' .busy none)) := World.putObj_heap_same hlt
      have hk2 : (W.putObj R (.loop (rec' .busy none))).heap[D]? = some (.deferred (some [])) := (World.putObj_heap_other (by omega)).trans hk
      refine wpIn_mono (hbody _ pre x _ (hI.putObj _ hi (by omega) hl rfl) hlen) ?_
      rintro e a3 W3 hp
      cases e with
      | normal =>
        obtain ⟨kf, kb, hi3⟩ := hp
        have l3 := kf.same _ _ (by omega) hl2 rfl
        have k3 := kf.same _ _ (by omega) hk2 rfl
        refine ⟨_, _, run_endRound (P := Tryz.prog) none l3, .inl ⟨rfl, ⟨hI.putObj _ hi3 (by omega) l3 rfl, World.putObj_heap_same (Array.getElem?_eq_some_iff.1 l3).1, (World.putObj_heap_other (by omega)).trans k3⟩, ?_⟩⟩
        rw [World.putObj_heap_other hbR, kb, World.putObj_heap_other hbR]
      | ret =>
        obtain ⟨kf, hi3⟩ := hp
        have l3 := kf.same _ _ (by omega) hl2 rfl
        have k3 := kf.same _ _ (by omega) hk2 rfl
        exact ⟨_, _, run_endRound (P := Tryz.prog) (some .ret) l3, .inr ⟨rfl, hIx.putObj _ hi3 (by omega) l3 rfl, World.putObj_heap_same (Array.getElem?_eq_some_iff.1 l3).1, (World.putObj_heap_other (by omega)).trans k3⟩⟩
      | exit id => exact hp.elim
      | goto t => exact hp.elim
      | panic ch => exact hp.elim
      | outgrown => exact hp.elim
    · rintro e W2 ⟨⟨v, rfl⟩, (⟨xs, hS, hi, hl, hk⟩ | ⟨pre, hSp, hi, hl, hk⟩)⟩
      · refine ⟨none, _, run_endLoop (P := Tryz.prog) hl (by simp [rec']), ?_⟩
        exact hdone D xs _ (by omega) hS (hI.putObj _ hi (by omega) hl rfl) ((World.putObj_heap_other (by omega)).trans hk)
      · refine ⟨some .ret, _, run_endLoop (P := Tryz.prog) hl (by simp [rec']), ?_⟩
        exact hstop D pre _ (by omega) hSp (hIx.putObj _ hi (by omega) hl rfl) ((World.putObj_heap_other (by omega)).trans hk)
end Go.Proofs.YtlciofheonbkiaaGreat
/- sheet.lines: what its iterator promises. -/
namespace Go.Proofs.YtlciofheonbkiaaGreat
set_option maxHeartbeats 8000000
set_option maxRecDepth 100000
open Go.RowKit Sh
attribute [local go_sem] Oper.semAt_some
theorem Sh.brk_some : ∀ {s a b : List UInt8}, brkL s = some (a, b) → s = a ++ 10 :: b
  | [], _, _, h => by cases h
  | c :: r, a, b, h => by
    unfold brkL at h
    split at h
    · rename_i hc
      obtain ⟨rfl, rfl⟩ : [] = a ∧ r = b := by simpa using h
      rw [hc]; rfl
    · cases hr : brkL r with
      | none => rw [hr] at h; cases h
      | some x =>
        obtain ⟨a', b'⟩ := x
        rw [hr] at h
        obtain ⟨rfl, rfl⟩ : c :: a' = a ∧ b' = b := by simpa using h
        rw [brk_some hr]; rfl
def Sh.linesF (n : Nat) (s : List UInt8) : List (Nat × List UInt8) :=
  if s = [] then [] else match h : brkL s with
    | none => [(n, s ++ [10])]
    | some (a, b) => (n, a) :: linesF (n + 1) b
termination_by s.length
decreasing_by rw [brk_some h]; simp; omega
theorem Sh.linesF_nil (n : Nat) : linesF n [] = [] := by rw [linesF]; simp
theorem Sh.linesF_none {n : Nat} {s : List UInt8} (h0 : s ≠ []) (h : brkL s = none) : linesF n s = [(n, s ++ [10])] := by
  rw [linesF, if_neg h0]
  split
  · rfl
  · rename_i h'; rw [h] at h'; cases h'
theorem Sh.linesF_some {n : Nat} {s a b : List UInt8} (h : brkL s = some (a, b)) : linesF n s = (n, a) :: linesF (n + 1) b := by
  have h0 : s ≠ [] := by rw [brk_some h]; simp
  rw [linesF, if_neg h0]
  split
  · rename_i h'; rw [h] at h'; cases h'
  · rename_i a' b' h'
    rw [h] at h'
    obtain ⟨rfl, rfl⟩ : a = a' ∧ b = b' := by simpa using h'
    rfl
abbrev Ln := { x : Nat × ByteArray // x.1 ≤ 1000000 ∧ x.2.size ≤ 1000000 }
def lnL (xs : List Ln) : List (Nat × List UInt8) := xs.map fun x => (x.1.1, x.1.2.data.toList)
theorem lnL_snoc (xs : List Ln) (x : Ln) : lnL (xs ++ [x]) = lnL xs ++ [(x.1.1, x.1.2.data.toList)] := by simp [lnL]
def boxLen (w : World) (b : Nat) : Nat := match w.cell? ⟨b, 0, none⟩ with
  | some (.string t) => t.size
  | _ => 0
theorem boxLen_of {w : World} {b : Nat} {t : ByteArray} {T : TypeId} (h : Blk w b #[.string t] T) : boxLen w b = t.size := by
  unfold boxLen; rw [show w.cell? ⟨b, 0, none⟩ = some (.string t) from h.cell 0]
theorem l_lines (s : ByteArray) (w : World) :
    Calls Tryz.prog 133 #[.string s] w fun e w' => e = .returned (.func (.func 189) #[] #[.pointer (some ⟨w.heap.size, 0, none⟩)]) ∧ w' = w.alloc (.cells #[.string s] 9) := by
  go_enter Tryz.func133, Tryz.ntmps133
  go_wp2_with fail
  go_ret
  exact ⟨rfl, rfl⟩
theorem lines_stops {w : World} (n : Nat) (hn : 1 ≤ n) {b : Nat} {s : ByteArray} (hs : s.size ≤ 900000) (X : Blk w b #[.string s] 9) :
    SeqBox n 189 b (fun x : Ln => #[Value.int .i64 x.1.1, Value.string x.1.2]) (fun xs => lnL xs = linesF 1 s.data.toList) (fun pre => ∃ r, lnL pre ++ r = linesF 1 s.data.toList) 1000000 w := fun l J Jx W hW hJ hJx hJb hY h0 => by
  have X1 := X.below hW nlr
  have HJ := hid hJ
  have HY := hid hY
  have HB := hid hJb
  have CT := hid (fun (t : ByteArray) (q : t.size ≤ 1000000) (W : World) => l_brk t W q)
  clear X hJ hJx hY hJb
  refine callsIn_of_wp Tryz.func189 rfl trivial ?_ rfl
  simp only [Tryz.ntmps189, List.size_toArray, List.length_cons, List.length_nil, Nat.reduceAdd, Nat.reduceSub, Array.replicate_succ, Array.replicate_zero, List.push_toArray, List.append_toArray, List.nil_append, List.cons_append]
  gi_wp2
  gi_loopw [3] (fun i wr => ∃ (k : Nat) (pre : List Ln) (t : ByteArray), i = .int .i64 k ∧ lnL pre ++ linesF k t.data.toList = linesF 1 s.data.toList ∧ pre.length + 1 = k ∧ k + t.size ≤ s.size + 1 ∧ J pre wr ∧ Blk wr b #[.string t] 9)
    (fun _ wr => boxLen wr b)
  case atStart => exact ⟨1, [], s, rfl, rfl, rfl, by omega, h0, X1⟩
  case round =>
    obtain ⟨k, pre, t, rfl, hpre, hkp, hk, hJs, B⟩ := hrel
    have hk1 : pre.length < 1000000 ∨ t.size = 0 := by omega
    have HKP := hid hkp
    clear hkp
    have bl := boxLen_of B
    have c0 : wr.cell? ⟨b, 0, none⟩ = some (.string t) := B.cell 0
    by_cases ht : t.data.toList = []
    · have z0 : t.toList = [] := by rw [ByteArray.toList_eq]; exact ht
      have z1 : (!t.toList.isEmpty) = false := by rw [z0]; rfl
      rw [ht, linesF_nil, List.append_nil] at hpre
      have HP := hid hpre
      clear hpre ht bl
      gi_wp2
      go_end0
      exact ⟨⟨_, rfl⟩, .inl ⟨pre, HP.out, hJs⟩⟩
    · have z0 : ¬ t.toList = [] := by rw [ByteArray.toList_eq]; exact ht
      have z1 : (!t.toList.isEmpty) = true := by simp [z0]
      have htp : 0 < t.size := by
        have hl : t.data.toList.length = t.size := by simp
        rcases Nat.eq_zero_or_pos t.size with q | q
        · rw [q] at hl; exact absurd (List.eq_nil_of_length_eq_zero hl) ht
        · exact q
      have hk2 : pre.length < 1000000 := by omega
      have HT := hid ht
      have HP := hid hpre
      have C0 := CT.out t (by omega) wr
      have BL := hid bl
      clear hpre ht bl CT
      have hg := fun m : Nat => (⟨rfl, rfl, rfl, nlr, fun _ _ _ => rfl⟩ : wr.grownBy (wr.drewN m) none)
      have hJd := hid (fun m : Nat => HJ.out pre wr (wr.drewN m) none hJs (hg m) (fun r e => by cases e))
      clear hg
      cases hb : brkL t.data.toList with
      | none =>
        have C := hid (C0.mono (R' := fun e w' => e = .returned (.tuple #[.string t, .string ⟨#[]⟩, .bool false]) ∧ ∃ m, w' = wr.drewN m) (by
          rintro e w' ⟨hm, (⟨-, rfl⟩ | ⟨a, c, -, h, -⟩)⟩
          · exact ⟨rfl, hm⟩
          · rw [hb] at h; cases h))
        have hx : k ≤ 1000000 ∧ (t ++ ⟨#[10]⟩ : ByteArray).size ≤ 1000000 := by
          rw [ByteArray.size_append]
          exact ⟨by omega, by show _ + 1 ≤ _; omega⟩
        have HYx := hid (fun m => HY.out pre ⟨(k, t ++ ⟨#[10]⟩), hx⟩ (wr.drewN m) (hJd.out m) (by omega))
        have EN : Hid (lnL (pre ++ [(⟨(k, t ++ ⟨#[10]⟩), hx⟩ : Ln)]) = linesF 1 s.data.toList) := by
          show _ = _
          rw [lnL_snoc, ← HP.out, linesF_none HT.out hb]
          simp
        clear hb C0 HY
        gi_wp2_with (refine ⟨trivial, ?_⟩; gi_at_call 190; refine (callsIn_wide.2 C.out).mono ?_; rintro e W2 ⟨rfl, m, rfl⟩; obtain ⟨fn, tmps, assign, body, hy, hR⟩ := HYx.out m; dsimp only at hy)
        refine hR.mono ?_
        rintro e W3 (⟨rfl, hJ3, hk3⟩ | ⟨rfl, hJx3⟩)
        · have B3 : Blk W3 b #[.string t] 9 := (B.drewN m).keep hk3
          have f3 := B3.free 0
          have c3 : W3.cell? ⟨b, 0, none⟩ = some (.string t) := B3.cell 0
          have B4 := B3.set 0 (.string ⟨#[]⟩)
          have J4 := HB.out _ _ (.string ⟨#[]⟩) hJ3
          gi_wp2
          go_roundw
          case rel => exact ⟨k + 1, _, ⟨#[]⟩, by go_num, by rw [linesF_nil, List.append_nil]; exact EN.out, by have := HKP.out; simp; omega, by show k + 1 + 0 ≤ _; omega, J4, B4⟩
          case measure =>
            rw [boxLen_of B4, BL.out]
            exact htp
        · gi_wp2
          refine bodyPost_ret (results_none rfl _ _ _) rfl ?_
          exact ⟨⟨_, rfl⟩, .inr ⟨_, ⟨[], by rw [List.append_nil]; exact EN.out⟩, hJx3⟩⟩
      | some x =>
        obtain ⟨a0, b0⟩ := x
        have C := hid (C0.mono (R' := fun e w' => ∃ a c : ByteArray, e = .returned (.tuple #[.string a, .string c, .bool true]) ∧ (a.data.toList = a0 ∧ c.data.toList = b0) ∧ a.size + c.size + 1 = t.size ∧ ∃ m, w' = wr.drewN m) (by
          rintro e w' ⟨hm, (⟨h, -⟩ | ⟨a, c, rfl, h, hz⟩)⟩
          · rw [hb] at h; cases h
          · rw [hb] at h
            simp only [Option.some.injEq, Prod.mk.injEq] at h
            exact ⟨a, c, rfl, ⟨h.1.symm, h.2.symm⟩, hz, hm⟩))
        have HYx := hid (fun m (a : ByteArray) (hx : k ≤ 1000000 ∧ a.size ≤ 1000000) => HY.out pre ⟨(k, a), hx⟩ (wr.drewN m) (hJd.out m) (by omega))
        have EN : Hid (∀ (a c : ByteArray) (hx : k ≤ 1000000 ∧ a.size ≤ 1000000), a.data.toList = a0 ∧ c.data.toList = b0 → lnL (pre ++ [(⟨(k, a), hx⟩ : Ln)]) ++ linesF (k + 1) c.data.toList = linesF 1 s.data.toList) := by
          intro a c hx hh
          rw [lnL_snoc, ← HP.out, linesF_some hb, List.append_assoc, hh.1, hh.2]
          rfl
        clear hb C0 HY
        gi_wp2_with (refine ⟨trivial, ?_⟩; gi_at_call 190; refine (callsIn_wide.2 C.out).mono ?_; rintro e W2 ⟨a, c, rfl, hac, hz, m, rfl⟩; have hx : k ≤ 1000000 ∧ a.size ≤ 1000000 := ⟨by omega, by omega⟩; have ha := hid hac; clear hac; obtain ⟨fn, tmps, assign, body, hy, hR⟩ := HYx.out m a hx; dsimp only at hy)
        refine hR.mono ?_
        rintro e W3 (⟨rfl, hJ3, hk3⟩ | ⟨rfl, hJx3⟩)
        · have B3 : Blk W3 b #[.string t] 9 := (B.drewN m).keep hk3
          have f3 := B3.free 0
          have c3 : W3.cell? ⟨b, 0, none⟩ = some (.string t) := B3.cell 0
          have B4 := B3.set 0 (.string c)
          have J4 := HB.out _ _ (.string c) hJ3
          have HZ := hid hz
          have hz2 : c.size + 1 ≤ t.size := by omega
          clear hz
          gi_wp2
          go_roundw
          case rel => exact ⟨k + 1, _, c, by go_num, EN.out a c hx ha.out, by have := HKP.out; simp; omega, by omega, J4, B4⟩
          case measure =>
            rw [boxLen_of B4, BL.out]
            omega
        · gi_wp2
          refine bodyPost_ret (results_none rfl _ _ _) rfl ?_
          exact ⟨⟨_, rfl⟩, .inr ⟨_, ⟨_, EN.out a c hx ha.out⟩, hJx3⟩⟩
end Go.Proofs.YtlciofheonbkiaaGreat
