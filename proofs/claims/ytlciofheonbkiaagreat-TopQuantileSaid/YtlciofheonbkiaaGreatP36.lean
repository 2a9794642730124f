/- Texts laid together. -/
import Derived.Test.YtlciofheonbkiaaGreatP27
import Derived.Test.YtlciofheonbkiaaGreatP35
import Derived.Test.YtlciofheonbkiaaGreatP04
/- The walk of reading.node. -/
namespace Go.Proofs.YtlciofheonbkiaaGreat
set_option maxHeartbeats 8000000
set_option maxRecDepth 100000
open Go.RowKit Nl Sh
def Sh.ndI (L : Int) (s : List UInt8) : Int := nodeV L (thr0 s [] : Nat) (thr1 s [] [46, 46] : Nat)
def Sh.ndN (s : List UInt8) : Int := (thr2 s [] [46, 46] [32] : Nat)
def Sh.lastB (zs : List (Int × Int)) (id : Int) : Bool := zs.isEmpty || decide ((zs.getD (zs.length - 1) (0, 0)).1 < id)
def Sh.nodeOk (L left : Int) (zs : List (Int × Int)) (s : List UInt8) : Bool :=
  thrB s [] [46, 46] [32] && nodeB L (thr0 s [] : Nat) (thr1 s [] [46, 46] : Nat) && lastB zs (ndI L s) && decide (1 ≤ ndN s) && decide (ndN s ≤ left)
structure Frm (B rb : Nat) (w w' : World) : Prop where
  os : w'.os = w.os
  tape : w'.tape = w.tape
  output : w'.output = w.output
  keep : ∀ k, k < B → k ≠ rb → w'.heap[k]? = w.heap[k]?
  oth : KeepsOthers w w'
theorem keepsOthers_below {w w' : World} (h : Below w.heap.size w w') : KeepsOthers w w' := KeepsOthers.of_grownBy (below_grownBy h) (fun j o e _ => by cases e)
theorem Frm.of_below {B rb : Nat} {w w' : World} (h : Below w.heap.size w w') (hB : B ≤ w.heap.size) : Frm B rb w w' := ⟨h.os, h.tape, h.output, fun k hk _ => h.block k (by omega), keepsOthers_below h⟩
theorem Frm.trans {B rb : Nat} {u v w : World} (h : Frm B rb u v) (k : Frm B rb v w) : Frm B rb u w := ⟨k.os.trans h.os, k.tape.trans h.tape, k.output.trans h.output, fun j hj hn => (k.keep j hj hn).trans (h.keep j hj hn), h.oth.trans k.oth⟩
theorem Frm.set {B rb : Nat} (w : World) (j : Nat) (v : Value) : Frm B rb w (w.setCell ⟨rb, j, none⟩ v) := ⟨rfl, rfl, rfl, fun k _ hn => Below.heap_setCell w ⟨rb, j, none⟩ v k hn, KeepsOthers.setCell _ _ _⟩
theorem OwnN.isC {w : World} {B : Nat} {v : Value} {xs : List Nd} (h : OwnN w B v xs) (j : Nat) (o : Obj) (e : v.ownBlock = some j) (ho : w.heap[j]? = some o) : o.isCells = true := by
  rcases h.2 with ⟨rfl, _⟩ | ⟨g, cap, cur, rfl, _, hh, _⟩
  · simp [Value.ownBlock] at e
  · obtain rfl : g = j := by simpa [Value.ownBlock] using e
    rw [hh] at ho; cases ho; rfl
theorem Frm.row {B rb : Nat} {w w' : World} {v : Value} {xs : List Nd} (h : w.grownBy w' v.ownBlock) (o : OwnN w B v xs) (hB : B ≤ w.heap.size) : Frm B rb w w' :=
  ⟨h.os, h.tape, h.output, fun k hk _ => h.block k (by omega) (fun e => by have := o.lt k e.symm; omega), KeepsOthers.of_grownBy h (fun j o' e ho => o.isC j o' e ho)⟩
def NodeP (w : World) (rb : Nat) (L K kind left : Int) (B : Nat) (zs : List Nd) (s : List UInt8) (e : Ending) (w' : World) : Prop :=
  (nodeOk L left zs s = false ∧ e = .returned (.bool false) ∧ Below w.heap.size w w') ∨
  (nodeOk L left zs s = true ∧ e = .returned (.bool true) ∧ ∃ v, Blk w' rb #[.int .i64 L, .int .i64 K, .int .i64 kind, .int .i64 (left - ndN s), v] 188 ∧ OwnN w' B v (zs ++ [(ndI L s, ndN s)]) ∧ Frm B rb w w')
theorem l_node {w : World} {rb B : Nat} {L K kind left : Int} {v : Value} {zs : List Nd} (X : Blk w rb #[.int .i64 L, .int .i64 K, .int .i64 kind, .int .i64 left, v] 188) (own : OwnN w B v zs) (hB : B ≤ w.heap.size) (hrb : rb < B) (hz : zs.length ≤ 1000000) (bL : In64 L) (bl : 0 ≤ left ∧ left ≤ 9223372036854775807) (s : ByteArray) (hs : s.size ≤ 1000000) :
    Calls Tryz.prog 135 #[.pointer (some ⟨rb, 0, none⟩), .string s] w (NodeP w rb L K kind left B zs s.data.toList) := by
  have hrw := X.lt
  have G1 := Blk.new w #[.string ⟨#[]⟩, .string ⟨#[46, 46]⟩, .string ⟨#[32]⟩] 9
  have X1 := X.alloc (.cells #[.string ⟨#[]⟩, .string ⟨#[46, 46]⟩, .string ⟨#[32]⟩] 9)
  have o1 := own.alloc (.cells #[.string ⟨#[]⟩, .string ⟨#[46, 46]⟩, .string ⟨#[32]⟩] 9)
  have hb1 : Below w.heap.size w (w.alloc (.cells #[.string ⟨#[]⟩, .string ⟨#[46, 46]⟩, .string ⟨#[32]⟩] 9)) := (Below.refl _ _).alloc nlr _
  have TH := l_three (s := s) G1 hs (by decide) (by decide) (by decide)
  have e0 : (⟨#[]⟩ : ByteArray).data.toList = [] := rfl
  have e1 : (⟨#[46, 46]⟩ : ByteArray).data.toList = [46, 46] := rfl
  have e2 : (⟨#[32]⟩ : ByteArray).data.toList = [32] := rfl
  rw [e0, e1, e2] at TH
  replace TH := hid TH
  have B0 : thr0 s.data.toList [] ≤ 9223372036854775807 := numV_bd _
  have B1 : thr1 s.data.toList [] [46, 46] ≤ 9223372036854775807 := numV_bd _
  have B2 : thr2 s.data.toList [] [46, 46] [32] ≤ 9223372036854775807 := numV_bd _
  have B2' : (0 : Int) ≤ (thr2 s.data.toList [] [46, 46] [32] : Nat) ∧ ((thr2 s.data.toList [] [46, 46] [32] : Nat) : Int) ≤ 9223372036854775807 := by omega
  have eI : Hid (ndI L s.data.toList = nodeV L (thr0 s.data.toList [] : Nat) (thr1 s.data.toList [] [46, 46] : Nat)) := rfl
  have eN : Hid (ndN s.data.toList = (thr2 s.data.toList [] [46, 46] [32] : Nat)) := rfl
  have eH : Hid (nodeOk L left zs s.data.toList = (thrB s.data.toList [] [46, 46] [32] && nodeB L (thr0 s.data.toList [] : Nat) (thr1 s.data.toList [] [46, 46] : Nat) && lastB zs (nodeV L (thr0 s.data.toList [] : Nat) (thr1 s.data.toList [] [46, 46] : Nat)) && decide ((1 : Int) ≤ (thr2 s.data.toList [] [46, 46] [32] : Nat)) && decide (((thr2 s.data.toList [] [46, 46] [32] : Nat) : Int) ≤ left))) := rfl
  generalize thr0 s.data.toList [] = N0 at *
  generalize thr1 s.data.toList [] [46, 46] = N1 at *
  clear B2
  generalize ((thr2 s.data.toList [] [46, 46] [32] : Nat) : Int) = N2 at *
  generalize thrB s.data.toList [] [46, 46] [32] = TB at *
  have ND := hid (fun W => s_node L (N0 : Int) (N1 : Int) W bL ⟨by omega, by omega⟩ ⟨by omega, by omega⟩)
  unfold NodePost at ND
  generalize nodeV L (N0 : Int) (N1 : Int) = ID at *
  generalize nodeB L (N0 : Int) (N1 : Int) = NB at *
  clear e0 e1 e2
  go_enter Tryz.func135, Tryz.ntmps135
  go_wp2_with fail
  refine TH.out.mono ?_
  rintro e w2 ⟨rfl, hb2⟩
  have hs2 := hb2.size
  have hs1 := hb1.size
  have X2 := (X1.below hb2 nlr).alloc (.cells #[.int .i64 N0, .int .i64 N1, .int .i64 N2] 243)
  have o2 := (o1.below hb2 nlr).alloc (.cells #[.int .i64 N0, .int .i64 N1, .int .i64 N2] 243)
  have A2 := Blk.new w2 #[.int .i64 N0, .int .i64 N1, .int .i64 N2] 243
  have hbw2 := (hb1.trans (hb2.mono hb1.size)).alloc (hb1.trans (hb2.mono hb1.size)).size (.cells #[.int .i64 N0, .int .i64 N1, .int .i64 N2] 243)
  have hne : rb ≠ w2.heap.size := by omega
  have hw2 : w.heap.size < w2.heap.size := by simp at hs2; omega
  clear X X1 G1 hb2 TH hb1 own o1 hs1 hs2
  go_upto_region 2 with fail
  generalize (w2.alloc (.cells #[.int .i64 N0, .int .i64 N1, .int .i64 N2] 243)) = w3 at *
  have a2 := A2.lt
  generalize w2.heap.size = ar at *
  have FX := hid (fun W (q : Below w3.heap.size w3 W) => (show W.cell? ⟨rb, 0, none⟩ = some (.int .i64 L) ∧ W.cell? ⟨ar, 0, none⟩ = some (.int .i64 N0) ∧ W.cell? ⟨ar, 1, none⟩ = some (.int .i64 N1) ∧ Below w3.heap.size w3 W from ⟨(X2.below q nlr).cell 0, (A2.below q nlr).cell 0, (A2.below q nlr).cell 1, q⟩))
  have hB0 := Below.refl w3.heap.size w3
  obtain ⟨p, cap, rfl⟩ := o2.val
  have FC := hid (And.intro X2 (And.intro A2 (And.intro o2 hbw2)))
  clear X2 A2 o2 hbw2
  go_region_held3 (fun w' => w'.cell? ⟨rb, 0, none⟩ = some (.int .i64 L) ∧ w'.cell? ⟨ar, 0, none⟩ = some (.int .i64 N0) ∧ w'.cell? ⟨ar, 1, none⟩ = some (.int .i64 N1) ∧ Below w3.heap.size w3 w')
    (first
      | exact FX.out _ (below_drewN hB0 1)
      | exact FX.out _ hB5)
    ((go_at_call 192; have hB4 := (‹_ ∧ _ ∧ _ ∧ Below w3.heap.size w3 _›).2.2.2; refine (ND.out _).mono ?_; rintro e w5 ⟨rfl, hb5⟩
      have hB5 := hB4.trans (hb5.mono hB4.size)))
  have X5 : Blk w5 rb _ _ := FC.out.1.below hB5 nlr
  have A5 : Blk w5 ar _ _ := FC.out.2.1.below hB5 nlr
  have o5 : OwnN w5 B _ zs := FC.out.2.2.1.below hB5 nlr
  have hbw5 : Below w.heap.size w w5 := FC.out.2.2.2.trans (hB5.mono FC.out.2.2.2.size)
  have hs5 := hbw5.size
  clear FC FX ND hB5 hB4 hb5 hB0 a2
  have x4 : w5.cell? ⟨rb, 4, none⟩ = some (.slice p zs.length cap) := X5.cell 4
  go_upto_region 4 with fail
  have x3 : w5.cell? ⟨rb, 3, none⟩ = some (.int .i64 left) := X5.cell 3
  have c2 : w5.cell? ⟨ar, 2, none⟩ = some (.int .i64 N2) := A5.cell 2
  rcases (show TB = false ∨ (TB = true ∧ NB = false) ∨ (TB = true ∧ NB = true) by cases TB <;> cases NB <;> simp) with rfl | ⟨rfl, rfl⟩ | ⟨rfl, rfl⟩
  · have P : Hid (nodeOk L left zs s.data.toList = false) := by show _ = _; rw [eH.out]; rfl
    have P2 : Hid (∀ n, Below w.heap.size w (w5.drewN n)) := fun n => below_drewN hbw5 n
    clear eH X5 A5 o5 hbw5
    go_quiet (fail)
    go_wp2_with fail
    go_ret
    exact .inl ⟨P.out, rfl, P2.out _⟩
  · have P : Hid (nodeOk L left zs s.data.toList = false) := by show _ = _; rw [eH.out]; rfl
    have P2 : Hid (∀ n, Below w.heap.size w (w5.drewN n)) := fun n => below_drewN hbw5 n
    clear eH X5 A5 o5 hbw5
    go_quiet (fail)
    go_wp2_with fail
    go_ret
    exact .inl ⟨P.out, rfl, P2.out _⟩
  · obtain ⟨OK, eOK⟩ : ∃ x, (lastB zs ID && decide (1 ≤ N2) && decide (N2 ≤ left)) = x := ⟨_, rfl⟩
    have PH : Hid (nodeOk L left zs s.data.toList = OK) := by show _ = _; rw [eH.out, ← eOK]; rfl
    have EOK := hid eOK
    clear eH eOK
    go_cut [70] (fun b wx => b = .bool (!OK) ∧ ∃ m, wx = w5.drewN m)
    case first =>
      have hzl : zs = [] ∨ zs ≠ [] := by cases zs <;> simp
      rcases hzl with hz0 | hz0
      · have l1 : decide (0 < zs.length) = false := by rw [hz0]; rfl
        have l2 : decide ((0 : Int) < (zs.length : Int)) = false := by rw [hz0]; rfl
        have EO : Hid ((decide (1 ≤ N2) && decide (N2 ≤ left)) = OK) := by show _ = _; rw [← EOK.out, hz0]; rfl
        clear hz0 EOK o5 X5 A5 hbw5
        rcases (show N2 < 1 ∨ (1 ≤ N2 ∧ left < N2) ∨ (1 ≤ N2 ∧ N2 ≤ left) by omega) with q | ⟨q1, q2⟩ | ⟨q1, q2⟩
        · have z1 : decide (N2 < 1) = true := decide_eq_true q
          have EB : Hid (OK = false) := by show _ = _; rw [← EO.out, decide_eq_false (by omega)]; rfl
          clear EO
          go_quiet (fail)
          go_wp2_with fail
          go_meet
          exact ⟨by rw [EB.out]; rfl, _, rfl⟩
        · have z1 : decide (N2 < 1) = false := decide_eq_false (by omega)
          have z2 : decide (left < N2) = true := decide_eq_true q2
          have EB : Hid (OK = false) := by show _ = _; rw [← EO.out, decide_eq_false (show ¬ N2 ≤ left by omega), Bool.and_false]
          clear EO
          go_quiet (fail)
          go_wp2_with fail
          go_meet
          exact ⟨by rw [EB.out]; rfl, _, rfl⟩
        · have z1 : decide (N2 < 1) = false := decide_eq_false (by omega)
          have z2 : decide (left < N2) = false := decide_eq_false (by omega)
          have EB : Hid (OK = true) := by show _ = _; rw [← EO.out, decide_eq_true q1, decide_eq_true q2]; rfl
          clear EO
          go_quiet (fail)
          go_wp2_with fail
          go_meet
          exact ⟨by rw [EB.out]; rfl, _, rfl⟩
      · have hpos : 0 < zs.length := List.length_pos_iff.2 hz0
        have l1 : decide (0 < zs.length) = true := decide_eq_true hpos
        have l2 : decide ((0 : Int) < (zs.length : Int)) = true := decide_eq_true (by omega)
        have hj : zs.length - 1 < zs.length := by omega
        obtain ⟨g, off, a, c, rfl, eg, hg, ca, cc⟩ := o5.rd.at hj
        have EO : Hid ((decide (a < ID) && decide (1 ≤ N2) && decide (N2 ≤ left)) = OK) := by
          show _ = _; rw [← EOK.out]; unfold lastB; rw [eg]
          have : zs.isEmpty = false := by cases zs with
            | nil => exact absurd rfl hz0
            | cons _ _ => rfl
          rw [this]; rfl
        obtain ⟨j, ej⟩ : ∃ j, zs.length - 1 = j := ⟨_, rfl⟩
        rw [ej] at hj ca cc
        have i1 : (0 : Int) ≤ (j : Int) := by omega
        have i2 : (j : Int) < (zs.length : Int) := by omega
        have hw : IntKind.i64.wrap ((zs.length : Int) - 1) = (j : Int) := by rw [IntWalk.i64_in _ ⟨by omega, by omega⟩]; omega
        clear hz0 EOK o5 X5 A5 hbw5 hg eg ej cc
        rcases (show ID ≤ a ∨ (a < ID ∧ N2 < 1) ∨ (a < ID ∧ 1 ≤ N2 ∧ left < N2) ∨ (a < ID ∧ 1 ≤ N2 ∧ N2 ≤ left) by omega) with q | ⟨q0, q⟩ | ⟨q0, q1, q2⟩ | ⟨q0, q1, q2⟩
        · have z0 : decide (ID ≤ a) = true := decide_eq_true q
          have EB : Hid (OK = false) := by show _ = _; rw [← EO.out, decide_eq_false (by omega)]; rfl
          clear EO
          go_quiet (fail)
          go_wp2_with fail
          go_meet
          exact ⟨by rw [EB.out]; rfl, _, rfl⟩
        · have z0 : decide (ID ≤ a) = false := decide_eq_false (by omega)
          have z1 : decide (N2 < 1) = true := decide_eq_true q
          have EB : Hid (OK = false) := by show _ = _; rw [← EO.out, decide_eq_false (show ¬ 1 ≤ N2 by omega), Bool.and_false]; rfl
          clear EO
          go_quiet (fail)
          go_wp2_with fail
          go_meet
          exact ⟨by rw [EB.out]; rfl, _, rfl⟩
        · have z0 : decide (ID ≤ a) = false := decide_eq_false (by omega)
          have z1 : decide (N2 < 1) = false := decide_eq_false (by omega)
          have z2 : decide (left < N2) = true := decide_eq_true q2
          have EB : Hid (OK = false) := by show _ = _; rw [← EO.out, decide_eq_false (show ¬ N2 ≤ left by omega), Bool.and_false]
          clear EO
          go_quiet (fail)
          go_wp2_with fail
          go_meet
          exact ⟨by rw [EB.out]; rfl, _, rfl⟩
        · have z0 : decide (ID ≤ a) = false := decide_eq_false (by omega)
          have z1 : decide (N2 < 1) = false := decide_eq_false (by omega)
          have z2 : decide (left < N2) = false := decide_eq_false (by omega)
          have EB : Hid (OK = true) := by show _ = _; rw [← EO.out, decide_eq_true q0, decide_eq_true q1, decide_eq_true q2]; rfl
          clear EO
          go_quiet (fail)
          go_wp2_with fail
          go_meet
          exact ⟨by rw [EB.out]; rfl, _, rfl⟩
    case rest =>
      obtain ⟨rfl, m, rfl⟩ := hcut
      have X6 := X5.drewN m
      have A6 := A5.drewN m
      have o6 := o5.drewN m
      have hbw6 := below_drewN hbw5 m
      have hs6 : w.heap.size ≤ (w5.drewN m).heap.size := hs5
      clear X5 A5 o5 hbw5 x4 x3 c2 hs5
      generalize w5.drewN m = w6 at *
      cases OK
      · clear X6 A6 o6
        go_wp2_with fail
        go_ret
        exact .inl ⟨PH.out, rfl, hbw6⟩
      · have hq : 1 ≤ N2 ∧ N2 ≤ left := by
          have h := EOK.out
          simp only [Bool.and_eq_true, decide_eq_true_eq] at h
          exact ⟨h.1.2, h.2⟩
        have bID : In64 ID ∨ True := .inr trivial
        have hw : IntKind.i64.wrap (left - N2) = left - N2 := IntWalk.i64_in _ ⟨by omega, by omega⟩
        have x3 : w6.cell? ⟨rb, 3, none⟩ = some (.int .i64 left) := X6.cell 3
        have c2 : w6.cell? ⟨ar, 2, none⟩ = some (.int .i64 N2) := A6.cell 2
        have f3 := X6.free 3
        have hh6 : B ≤ w6.heap.size := by omega
        go_upto_region 6 with fail
        go_cut [77] (fun _ wx => Blk wx rb #[.int .i64 L, .int .i64 K, .int .i64 kind, .int .i64 (left - N2), .slice p zs.length cap] 188 ∧ wx = (w6.setCell ⟨rb, 3, none⟩ (.int .i64 (left - N2))).drew)
        case first =>
          go_region_with (fail)
          all_goals
            go_wp2_with fail
            go_meet
            exact ⟨(X6.set 3 (.int .i64 (left - N2))).drewN 1, rfl⟩
        case rest =>
          obtain ⟨X7, ew⟩ := hcut
          obtain ⟨w7, rfl⟩ : ∃ x, x = wc := ⟨_, rfl⟩
          have fr7 : Frm B rb w w7 := by
            rw [ew]
            exact (Frm.of_below hbw6 (by omega)).trans (Frm.trans (Frm.set w6 3 _) ⟨rfl, rfl, rfl, fun _ _ _ => rfl, ⟨nlr, fun _ _ h _ => h⟩⟩)
          have o7 : OwnN w7 B (.slice p zs.length cap) zs := by
            rw [ew]
            exact (o6.keep (fun k hk => Below.heap_setCell w6 ⟨rb, 3, none⟩ _ k (by have := o6.lt k hk; show k ≠ rb; omega))).drewN 1
          have A7 : Blk w7 ar #[.int .i64 N0, .int .i64 N1, .int .i64 N2] 243 := by
            rw [ew]; exact (A6.set_other 3 _ (Ne.symm hne)).drewN 1
          have hh7 : B ≤ w7.heap.size := by have := fr7.oth.size; omega
          have c2' : w7.cell? ⟨ar, 2, none⟩ = some (.int .i64 N2) := A7.cell 2
          have x4 : w7.cell? ⟨rb, 4, none⟩ = some (.slice p zs.length cap) := X7.cell 4
          have x4a : (w7.alloc (.cells #[.int .i64 ID, .int .i64 N2] 107)).cell? ⟨rb, 4, none⟩ = some (.slice p zs.length cap) := (X7.alloc _).cell 4
          have hzl : zs.length < 16777216 := by omega
          clear ew X6 A6 o6 x3 c2 f3 hw hbw6 hs6 EOK bID
          go_wp2_with fail
          go_region_law ((refine step_appendN (w := w7.drew.alloc (.cells #[.int .i64 ID, .int .i64 N2] 107)) (H := w7.heap.size) (b := ID) (c := N2) _ _ ((o7.drewN 1).alloc _) hzl (by simp; omega) (Blk.new w7.drew _ _) (by rfl) (by rfl) (by rfl) (by rfl) ?_; intro v8 w8 o8 g8; obtain ⟨p8, c8, rfl⟩ := o8.val; have X8 := ((X7.drewN 1).alloc (.cells #[.int .i64 ID, .int .i64 N2] 107)).grown g8 ((o7.drewN 1).alloc (.cells #[.int .i64 ID, .int .i64 N2] 107)).lt hrb; have x8 : w8.cell? ⟨rb, 4, none⟩ = some (.slice p zs.length cap) := X8.cell 4; have f8 := X8.free 4))
          all_goals
            go_wp2_with fail
            go_ret
            refine .inr ⟨PH.out, rfl, _, by rw [eN.out]; exact X8.set 4 _, ?_, ?_⟩
            · rw [eI.out, eN.out]
              rw [show (zs ++ [(ID, N2)]).length = zs.length + 1 by simp] at o8
              exact o8.keep (fun k hk => Below.heap_setCell w8 ⟨rb, 4, none⟩ _ k (by have := o8.lt k hk; show k ≠ rb; omega))
            · refine fr7.trans (Frm.trans (Frm.of_below (rb := rb) (show Below w7.heap.size w7 (w7.drew.alloc (.cells #[.int .i64 ID, .int .i64 N2] 107)) from (below_drewN (Below.refl _ _) 1).alloc nlr _) hh7) ((Frm.row g8 ((o7.drewN 1).alloc _) (by simp; omega)).trans (Frm.set _ 4 _)))
end Go.Proofs.YtlciofheonbkiaaGreat
