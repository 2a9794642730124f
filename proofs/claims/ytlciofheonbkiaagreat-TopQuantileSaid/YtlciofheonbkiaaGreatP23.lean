/- Texts laid together. -/
import Derived.Test.YtlciofheonbkiaaGreatP22
import Derived.Test.YtlciofheonbkiaaGreatP01
import Derived.Test.YtlciofheonbkiaaGreatP19
/- Sets of sensors: only the set of sensor 2. -/
namespace Go.Proofs.YtlciofheonbkiaaGreat
set_option maxHeartbeats 8000000
set_option maxRecDepth 100000
open Go.RowKit Vy
def Ret (v : Value) (w : World) (e : Ending) (w' : World) : Prop := e = .returned v ∧ w = w'
theorem c_is (w : World) : Calls Tryz.prog 194 #[.int .i64 2] w (Ret (.bool true) w) := by
  go_enter Tryz.func194, Tryz.ntmps194
  go_wp2_with fail
  go_ret
  exact ⟨rfl, rfl⟩
theorem c_one (w : World) : Calls Tryz.prog 139 #[.int .i64 2] w (Ret (.int .u64 4) w) := by
  have I := hid (c_is w)
  go_enter Tryz.func139, Tryz.ntmps139
  go_wp2_with fail
  refine I.out.mono ?_
  rintro e w2 ⟨rfl, rfl⟩
  go_wp2_with fail
  go_ret
  exact ⟨rfl, rfl⟩
theorem c_with (w : World) : Calls Tryz.prog 83 #[.int .u64 0, .int .i64 2] w (Ret (.int .u64 4) w) := by
  have I := hid (c_one w)
  go_enter Tryz.func83, Tryz.ntmps83
  go_wp2_with fail
  refine I.out.mono ?_
  rintro e w2 ⟨rfl, rfl⟩
  go_wp2_with fail
  go_ret
  exact ⟨rfl, rfl⟩
theorem c_has (w : World) : Calls Tryz.prog 193 #[.int .u64 4, .int .i64 2] w (Ret (.bool true) w) := by
  have I := hid (c_is w)
  go_enter Tryz.func193, Tryz.ntmps193
  go_wp2_with fail
  refine I.out.mono ?_
  rintro e w2 ⟨rfl, rfl⟩
  go_wp2_with fail
  go_ret
  exact ⟨rfl, rfl⟩
theorem c_right (w : World) : Calls Tryz.prog 146 #[.int .u64 4] w (Ret (.bool true) w) := by
  go_enter Tryz.func146, Tryz.ntmps146
  go_wp2_with fail
  go_ret
  exact ⟨rfl, rfl⟩
theorem c_within (w : World) : Calls Tryz.prog 147 #[.int .u64 4, .int .u64 4] w (Ret (.bool true) w) := by
  go_enter Tryz.func147, Tryz.ntmps147
  go_wp2_with fail
  go_ret
  exact ⟨rfl, rfl⟩
theorem c_of {w : World} {v : Value} (hr : RdI w v [2]) : Calls Tryz.prog 145 #[v] w (Ret (.tuple #[.int .u64 4, .bool true]) w) := by
  obtain ⟨p, cap, rfl⟩ := hr.val
  obtain ⟨gs, off, a, rfl, hac, hgs, q0⟩ := hr.at (k := 0) (by decide)
  obtain rfl : 2 = a := hac
  have q0 : w.cell? ⟨gs, off, none⟩ = some (.int .i64 2) := q0
  have I := hid (c_is w)
  have W2 := hid (c_with w)
  obtain ⟨L, eL⟩ : ∃ L, ([2] : List Int).length = L := ⟨_, rfl⟩
  have eL1 : L = 1 := eL.symm
  rw [eL]
  clear eL hr
  subst eL1
  go_enter Tryz.func145, Tryz.ntmps145
  go_wp2_with fail
  go_loopg [4, 9] 1 (fun gn b i wr => wr = w ∧ ((gn = 1 ∧ i = .int .i64 0 ∧ b = .int .u64 0) ∨ (i = .int .i64 1 ∧ b = .int .u64 4)))
  case atStart => exact ⟨rfl, .inl ⟨rfl, rfl, rfl⟩⟩
  case round =>
    obtain ⟨rfl, ⟨rfl, rfl, rfl⟩ | ⟨rfl, rfl⟩⟩ := hrel
    · go_wp2_with fail
      refine I.out.mono ?_
      rintro e w2 ⟨rfl, rfl⟩
      go_wp2_with fail
      refine W2.out.mono ?_
      rintro e w2 ⟨rfl, rfl⟩
      go_wp2_with fail
      go_roundg 0
      case rel => exact ⟨rfl, .inr ⟨rfl, rfl⟩⟩
      case measure => omega
    · go_wp2_with fail
      go_ret2
      exact ⟨rfl, rfl⟩
end Go.Proofs.YtlciofheonbkiaaGreat

/- The walks of a place within so many, and of whether a crowd may be tried. -/
namespace Go.Proofs.YtlciofheonbkiaaGreat
open Go.RowKit
def atV (i : Int) (n : Nat) : Nat := ((i.tmod n + n) % n).toNat
theorem atV_lt (i : Int) {n : Nat} (h : 1 ≤ n) : atV i n < n := by
  have h1 := Int.emod_lt_of_pos (i.tmod n + n) (show (0 : Int) < n by omega)
  have h2 := Int.emod_nonneg (i.tmod n + n) (show (n : Int) ≠ 0 by omega)
  unfold atV; omega
theorem t_at (i : Int) (n : Nat) (w : World) (_bi : In64 i) (h1 : 1 ≤ n) (h5 : n ≤ 5) : Calls Tryz.prog 9 #[.int .i64 i, .int .i64 n] w (Ret (.int .i64 (atV i n : Nat)) w) := by
  have b1 := Int.lt_tmod_of_pos i (show (0 : Int) < n by omega)
  have b2 := Int.tmod_lt_of_pos i (show (0 : Int) < n by omega)
  have c1 := Int.emod_lt_of_pos (i.tmod n + n) (show (0 : Int) < n by omega)
  have c2 := Int.emod_nonneg (i.tmod n + n) (show (n : Int) ≠ 0 by omega)
  have e3 : (i.tmod n + n).tmod n = (i.tmod n + n) % n := Int.tmod_eq_emod_of_nonneg (by omega)
  have eA : ((atV i n : Nat) : Int) = (i.tmod n + n) % n := by unfold atV; exact Int.toNat_of_nonneg c2
  rw [eA]
  clear eA
  have z : ((n : Int) == 0) = false := by simp; omega
  have zn : (n : Int) ≠ 0 := by omega
  have w1 : IntKind.i64.wrap (i.tmod n) = i.tmod n := IntWalk.i64_in _ ⟨by omega, by omega⟩
  have w2 : IntKind.i64.wrap (i.tmod n + n) = i.tmod n + n := IntWalk.i64_in _ ⟨by omega, by omega⟩
  have w3 : IntKind.i64.wrap ((i.tmod n + n).tmod n) = (i.tmod n + n) % n := by rw [e3]; exact IntWalk.i64_in _ ⟨by omega, by omega⟩
  have HE := hid e3
  clear b1 b2 c1 c2 e3 h1
  go_enter Tryz.func9, Tryz.ntmps9
  go_wp2_with fail
  go_ret
  exact ⟨congrArg _ (congrArg _ HE.out), rfl⟩
def fewB (l : Int) (k h most : Nat) : Bool := decide (1 ≤ l) && (decide (l ≤ 48) && (decide (1 ≤ (k : Int)) && (decide ((k : Int) ≤ 5) && decide (h ≤ most))))
theorem t_few (l : Int) (p q : Option Addr) (k c h d : Nat) (most : Nat) (w : World) : Calls Tryz.prog 5 #[.int .i64 l, .slice p k c, .slice q h d, .int .i64 most] w (Ret (.bool (fewB l k h most)) w) := by
  unfold fewB
  have H : Hid (∀ b, b = (decide (1 ≤ l) && (decide (l ≤ 48) && (decide (1 ≤ (k : Int)) && (decide ((k : Int) ≤ 5) && decide (h ≤ most))))) → Ret (.bool (decide (1 ≤ l) && (decide (l ≤ 48) && (decide (1 ≤ (k : Int)) && (decide ((k : Int) ≤ 5) && decide (h ≤ most)))))) w (.returned (.bool b)) w) := fun b e => ⟨by rw [e], rfl⟩
  cases z1 : decide (1 ≤ l)
  · rw [z1] at H
    go_enter Tryz.func5, Tryz.ntmps5
    go_wp2_with fail
    go_ret
    exact H.out _ rfl
  cases z2 : decide (l ≤ 48)
  · rw [z1, z2] at H
    go_enter Tryz.func5, Tryz.ntmps5
    go_wp2_with fail
    go_ret
    exact H.out _ rfl
  cases z3 : decide (1 ≤ (k : Int))
  · rw [z1, z2, z3] at H
    go_enter Tryz.func5, Tryz.ntmps5
    go_wp2_with fail
    go_ret
    exact H.out _ rfl
  cases z4 : decide ((k : Int) ≤ 5)
  · rw [z1, z2, z3, z4] at H
    go_enter Tryz.func5, Tryz.ntmps5
    go_wp2_with fail
    go_ret
    exact H.out _ rfl
  rw [z1, z2, z3, z4] at H
  go_enter Tryz.func5, Tryz.ntmps5
  go_wp2_with fail
  go_ret
  exact H.out _ rfl
end Go.Proofs.YtlciofheonbkiaaGreat

/- An argument that is a slice of hops. -/
namespace Go.Proofs.YtlciofheonbkiaaGreat
set_option maxRecDepth 100000
open Go.ChangeShapes Go.WideShapes Go.ChangeAt Go.RowKit
structure HopE where
  kind : Int
  on : Int
  other : Int
  x : Int
  wt : Int
def HopE.ok (o : HopE) : Prop := In64 o.kind ∧ In64 o.on ∧ In64 o.other ∧ In64 o.x ∧ In64 o.wt
def hop0 : HopE := ⟨0, 0, 0, 0, 0⟩
def RdHops (w : World) (v : Value) (os : List HopE) : Prop :=
  ∃ p cap, v = .slice p os.length cap ∧ ∀ k, k < os.length → ∃ g off, p = some ⟨g, off, none⟩ ∧ g < w.heap.size ∧
    w.cell? ⟨g, off + k * 5, none⟩ = some (.int .i64 (os.getD k hop0).kind) ∧ w.cell? ⟨g, off + k * 5 + 1, none⟩ = some (.int .i64 (os.getD k hop0).on) ∧ w.cell? ⟨g, off + k * 5 + 2, none⟩ = some (.int .i64 (os.getD k hop0).other) ∧
    w.cell? ⟨g, off + k * 5 + 3, none⟩ = some (.int .i64 (os.getD k hop0).x) ∧ w.cell? ⟨g, off + k * 5 + 4, none⟩ = some (.int .i64 (os.getD k hop0).wt) ∧ (os.getD k hop0).ok
theorem RdHops.below {w w' : World} {v : Value} {os : List HopE} {B : Nat} (h : RdHops w v os) (hb : Below B w w') (hB : w.heap.size ≤ B) : RdHops w' v os := by
  obtain ⟨p, cap, rfl, hr⟩ := h
  refine ⟨p, cap, rfl, fun k hk => ?_⟩
  obtain ⟨g, off, hp, hg, c1, c2, c3, c4, c5, hbd⟩ := hr k hk
  have e := hb.block g (by omega)
  refine ⟨g, off, hp, Nat.lt_of_lt_of_le hg hb.size, ?_, ?_, ?_, ?_, ?_, hbd⟩
  · rw [World.cell?_of_block (w := w) (a := ⟨g, off + k * 5, none⟩) e]; exact c1
  · rw [World.cell?_of_block (w := w) (a := ⟨g, off + k * 5 + 1, none⟩) e]; exact c2
  · rw [World.cell?_of_block (w := w) (a := ⟨g, off + k * 5 + 2, none⟩) e]; exact c3
  · rw [World.cell?_of_block (w := w) (a := ⟨g, off + k * 5 + 3, none⟩) e]; exact c4
  · rw [World.cell?_of_block (w := w) (a := ⟨g, off + k * 5 + 4, none⟩) e]; exact c5
theorem open_hops {H : Type} {enc : TypeId × Value → H} {w : World} {base b0 : Nat} {spare : Nat → Bool} {held : Bool} {r : Reach} {v : Value} {d : DataW H} {ps : List MemPlace}
    (hv : Value.okWide Tryz.prog w r b0 23 v) (h : DataW.Trod enc Tryz.prog w base spare held 23 v d ps) : ∃ os, RdHops w v os := by
  obtain ⟨p, len, cap, F, rfl, hl, hF⟩ := open_recs (n := 5) (I := 3) Tryz.underlying23 Tryz.underlying30 Tryz.underlying3 (by decide) (by kernel_rfl) (by kernel_rfl)
    (fun j hj => match j, hj with | 0, _ => ⟨_, rfl, rfl⟩ | 1, _ => ⟨_, rfl, rfl⟩ | 2, _ => ⟨_, rfl, rfl⟩ | 3, _ => ⟨_, rfl, rfl⟩ | 4, _ => ⟨_, rfl, rfl⟩) hv h
  have hlen : ((List.range len).map fun k => (⟨F k 0, F k 1, F k 2, F k 3, F k 4⟩ : HopE)).length = len := by simp
  refine ⟨(List.range len).map fun k => (⟨F k 0, F k 1, F k 2, F k 3, F k 4⟩ : HopE), p, cap, by rw [hlen], fun k hk => ?_⟩
  rw [hlen] at hk
  have e : ((List.range len).map fun k => (⟨F k 0, F k 1, F k 2, F k 3, F k 4⟩ : HopE)).getD k hop0 = ⟨F k 0, F k 1, F k 2, F k 3, F k 4⟩ := by
    simp [List.getD, hk]
  rw [e]
  obtain ⟨g, off, hp, c0, w0⟩ := hF k hk 0 (by omega)
  obtain ⟨g1, off1, hp1, c1, w1⟩ := hF k hk 1 (by omega)
  obtain ⟨g2, off2, hp2, c2, w2⟩ := hF k hk 2 (by omega)
  obtain ⟨g3, off3, hp3, c3, w3⟩ := hF k hk 3 (by omega)
  obtain ⟨g4, off4, hp4, c4, w4⟩ := hF k hk 4 (by omega)
  rw [hp] at hp1 hp2 hp3 hp4
  simp only [Option.some.injEq, Addr.mk.injEq, and_true] at hp1 hp2 hp3 hp4
  obtain ⟨rfl, rfl⟩ := hp1
  obtain ⟨rfl, rfl⟩ := hp2
  obtain ⟨rfl, rfl⟩ := hp3
  obtain ⟨rfl, rfl⟩ := hp4
  exact ⟨g, off, hp, World.block_lt_of_cell? w _ c0, c0, by rwa [← Nat.add_assoc] at c1, by rwa [← Nat.add_assoc] at c2, by rwa [← Nat.add_assoc] at c3, by rwa [← Nat.add_assoc] at c4, bd_i64 _ w0, bd_i64 _ w1, bd_i64 _ w2, bd_i64 _ w3, bd_i64 _ w4⟩
end Go.Proofs.YtlciofheonbkiaaGreat

/- The walks of a hop. -/
namespace Go.Proofs.YtlciofheonbkiaaGreat
set_option maxHeartbeats 8000000
set_option maxRecDepth 100000
open Go.RowKit Nl
theorem hp_1 {w : World} {B0 c : Nat} {l : Int} {vd vb : Value} {rs : List Rec} {X : List Int} (on ot x wt : Int) (ok : HopE.ok ⟨1, on, ot, x, wt⟩) (C : Crowd w B0 l c vd vb rs) (T : CrowdT l rs X) (hX : X.length < 150) (n1 : 1 ≤ rs.length) (n5 : rs.length ≤ 5) :
    Calls Tryz.prog 8 #[.pointer (some ⟨c, 0, none⟩), .agg #[.int .i64 1, .int .i64 on, .int .i64 ot, .int .i64 x, .int .i64 wt]] w (HopP (CB vd vb rs) B0 l c vd vb rs.length X w) := by
  obtain ⟨D, cd, E, ce, rfl, rfl, -, -⟩ := C.shape n1
  have SD : CB (.slice (some ⟨D, 0, none⟩) rs.length cd) (.slice (some ⟨E, 0, none⟩) rs.length ce) rs D := .inl rfl
  have SE : CB (.slice (some ⟨D, 0, none⟩) rs.length cd) (.slice (some ⟨E, 0, none⟩) rs.length ce) rs E := .inr (.inl rfl)
  have SR : ∀ j (h : j < rs.length) b, rs[j].B b → CB (.slice (some ⟨D, 0, none⟩) rs.length cd) (.slice (some ⟨E, 0, none⟩) rs.length ce) rs b := fun j h b p => .inr (.inr ⟨j, h, p⟩)
  generalize CB (.slice (some ⟨D, 0, none⟩) rs.length cd) (.slice (some ⟨E, 0, none⟩) rs.length ce) rs = S at *
  obtain ⟨N, eN⟩ : ∃ N, rs.length = N := ⟨_, rfl⟩
  obtain ⟨-, ok1, ok2, ok3, ok4⟩ := ok
  have hI := atV_lt on n1
  have hJ := atV_lt ot n1
  have A1 := hid (fun W => t_at on rs.length W ok1 n1 n5)
  have A2 := hid (fun W => t_at ot rs.length W ok2 n1 n5)
  obtain ⟨I, eI⟩ : ∃ I, atV on rs.length = I := ⟨_, rfl⟩
  obtain ⟨J, eJ⟩ : ∃ J, atV ot rs.length = J := ⟨_, rfl⟩
  rw [eI] at hI A1
  rw [eJ] at hJ A2
  have HCW := hid C
  have X0 := Blk.new w #[.int .i64 1, .int .i64 on, .int .i64 ot, .int .i64 x, .int .i64 wt] 30
  have hb0 : Below w.heap.size w (w.alloc (.cells #[.int .i64 1, .int .i64 on, .int .i64 ot, .int .i64 x, .int .i64 wt] 30)) := (Below.refl _ _).alloc nlr _
  have C1 := C.below hb0
  have hcw := C.blk.lt
  rw [eN] at A1 A2 n1 n5 C1 ⊢
  have EN := hid eN
  have hIN : I < N := by omega
  have hJN : J < N := by omega
  have Cw := hid (fun W (y : Crowd W B0 l c (.slice (some ⟨D, 0, none⟩) N cd) (.slice (some ⟨E, 0, none⟩) N ce) rs) => y.cells eN)
  clear eI eJ eN C
  go_enter Tryz.func8, Tryz.ntmps8
  go_upto_region 1 with fail
  generalize hW : w.alloc (.cells #[.int .i64 1, .int .i64 on, .int .i64 ot, .int .i64 x, .int .i64 wt] 30) = w1 at *
  clear hW
  have o1 : w1.cell? ⟨w.heap.size, 1, none⟩ = some (.int .i64 on) := X0.cell 1
  have o2 : w1.cell? ⟨w.heap.size, 2, none⟩ = some (.int .i64 ot) := X0.cell 2
  have c1 : w1.cell? ⟨c, 1, none⟩ = some (.slice (some ⟨D, 0, none⟩) N cd) := C1.blk.cell 1
  go_quiet ((first
    | (go_at_call_of 9 (Value.int .i64 on); exact Calls.quiet_of_same (calls_flip (A1.out _)))
    | (go_at_call_of 9 (Value.int .i64 ot); exact Calls.quiet_of_same (calls_flip (A2.out _)))))
  have hB2 := below_drewN (Below.refl w1.heap.size w1) nq
  have C2 := C1.below hB2
  have X2 := X0.below hB2 nlr
  have hs0 : B0 ≤ w.heap.size := by have := C1.base; omega
  have hb2 : ChB S w (w1.drewN nq) := ChB.of_below (hb0.trans (hB2.mono hb0.size))
  clear A1 A2 HCW C1 X0 hb0 hB2 o1 o2 c1 n5
  generalize w1.drewN nq = w2 at *
  clear w1
  obtain ⟨c1, c2, c3, c4, c5⟩ := Cw.out _ C2 I hI
  have x0 : w2.cell? ⟨w.heap.size, 0, none⟩ = some (.int .i64 1) := X2.cell 0
  have x3 : w2.cell? ⟨w.heap.size, 3, none⟩ = some (.int .i64 x) := X2.cell 3
  have x4 : w2.cell? ⟨w.heap.size, 4, none⟩ = some (.int .i64 wt) := X2.cell 4
  have OK := C2.each I hI
  have TT := T I hI
  have NS := SR I hI
  have hzl : rs[I].zs.length ≤ 7400 := by
    have h1 := TT.zlen
    have h2 := TT.dg.roll.l2
    have h3 : l.toNat + 1 ≤ 49 := by omega
    have h4 : X.length * (l.toNat + 1) ≤ 150 * 49 := Nat.mul_le_mul (by omega) h3
    omega
  have hil : rs[I].its.length ≤ 150 := by have := TT.ilen; omega
  obtain ⟨r, er⟩ : ∃ r, r = rs[I] := ⟨_, rfl⟩
  rw [← er] at OK TT NS hzl hil c3 c5
  have ER := hid er
  have HC := hid C2
  have HT := hid T
  have hs2 : B0 ≤ w2.heap.size := by have := hb2.size; omega
  clear er T
  have CM := hid (dg_compress OK.d (by decide) (by omega) (by omega))
  obtain ⟨-, -, -, hL, -⟩ := TT.dg.com
  have k1 := TT.dg.k1
  have k2 := TT.dg.k2
  have hk : isK r.k = true := by unfold isK; simp; omega
  have PB1 := hid (fun W => p_Bound r.k W ⟨by omega, by omega⟩)
  rw [hk, if_pos rfl] at PB1
  obtain ⟨Z, eZ⟩ : ∃ Z, (comL l r.k r.zs).1 = Z := ⟨_, rfl⟩
  obtain ⟨Q, eQ⟩ : ∃ Q, (comL l r.k r.zs).2.length = Q := ⟨_, rfl⟩
  have TI2 := TT.com
  rw [eZ] at hL TI2 CM
  rw [eQ] at CM
  clear eZ eQ TT OK k1 k2 hk c4 c5 x3 x4 hJ hJN
  go_wp2_with fail
  refine CM.out.mono ?_
  rintro e w3 ⟨rfl, h', d3, hh, hc⟩
  have C3 := HC.out.turn I hI (h' := h') (zs' := Z) (by rw [← ER.out]; exact hc) (by rw [← ER.out]; exact d3) (by rw [← ER.out]; exact hh)
  have hb3 := hb2.addC hc NS
  have T3 := HT.out.set I (r := rs[I].turn h' Z) (by rw [← ER.out]; exact TI2)
  have DL := hid (dg_len d3)
  have CF := hid (dg_conf d3)
  have z9 : decide ((Z.length : Int) ≤ 4 * r.k - 1) = true := decide_eq_true hL
  have PP : Hid (∀ w4, Below w3.heap.size w3 w4 → HopP S B0 l c (.slice (some ⟨D, 0, none⟩) N cd) (.slice (some ⟨E, 0, none⟩) N ce) N X w (.returned (.bool true)) w4) := fun w4 hb4 =>
    ⟨rfl, _, X, by rw [List.length_set]; exact EN.out, by omega, C3.below hb4, T3, hb3.add hb4⟩
  clear C3 T3 hc d3 TI2 CM HC HT hb3 c1 c2 c3 X2 hb2 Cw hh NS
  go_wp2_with fail
  refine DL.out.mono ?_
  rintro e w4 ⟨rfl, rfl⟩
  go_wp2_with fail
  refine CF.out.mono ?_
  rintro e w5 ⟨rfl, hb5⟩
  have PP5 := hid (PP.out _ hb5)
  go_wp2_with (rename_i K hK; show K (Act.put _ (some 50) (.int .i64 r.k)) w5; refine hK _ _ ?_)
  refine (PB1.out w5).mono ?_
  rintro e w6 ⟨rfl, rfl⟩
  go_wp2_with fail
  go_ret
  exact PP5.out
theorem hp_8 {w : World} {B0 c : Nat} {l : Int} {vd vb : Value} {rs : List Rec} {X : List Int} (on ot x wt : Int) (ok : HopE.ok ⟨8, on, ot, x, wt⟩) (C : Crowd w B0 l c vd vb rs) (T : CrowdT l rs X) (hX : X.length < 150) (n1 : 1 ≤ rs.length) (n5 : rs.length ≤ 5) :
    Calls Tryz.prog 8 #[.pointer (some ⟨c, 0, none⟩), .agg #[.int .i64 8, .int .i64 on, .int .i64 ot, .int .i64 x, .int .i64 wt]] w (HopP (CB vd vb rs) B0 l c vd vb rs.length X w) := by
  obtain ⟨D, cd, E, ce, rfl, rfl, -, -⟩ := C.shape n1
  have SD : CB (.slice (some ⟨D, 0, none⟩) rs.length cd) (.slice (some ⟨E, 0, none⟩) rs.length ce) rs D := .inl rfl
  have SE : CB (.slice (some ⟨D, 0, none⟩) rs.length cd) (.slice (some ⟨E, 0, none⟩) rs.length ce) rs E := .inr (.inl rfl)
  have SR : ∀ j (h : j < rs.length) b, rs[j].B b → CB (.slice (some ⟨D, 0, none⟩) rs.length cd) (.slice (some ⟨E, 0, none⟩) rs.length ce) rs b := fun j h b p => .inr (.inr ⟨j, h, p⟩)
  generalize CB (.slice (some ⟨D, 0, none⟩) rs.length cd) (.slice (some ⟨E, 0, none⟩) rs.length ce) rs = S at *
  obtain ⟨N, eN⟩ : ∃ N, rs.length = N := ⟨_, rfl⟩
  obtain ⟨-, ok1, ok2, ok3, ok4⟩ := ok
  have hI := atV_lt on n1
  have hJ := atV_lt ot n1
  have A1 := hid (fun W => t_at on rs.length W ok1 n1 n5)
  have A2 := hid (fun W => t_at ot rs.length W ok2 n1 n5)
  obtain ⟨I, eI⟩ : ∃ I, atV on rs.length = I := ⟨_, rfl⟩
  obtain ⟨J, eJ⟩ : ∃ J, atV ot rs.length = J := ⟨_, rfl⟩
  rw [eI] at hI A1
  rw [eJ] at hJ A2
  have HCW := hid C
  have X0 := Blk.new w #[.int .i64 8, .int .i64 on, .int .i64 ot, .int .i64 x, .int .i64 wt] 30
  have hb0 : Below w.heap.size w (w.alloc (.cells #[.int .i64 8, .int .i64 on, .int .i64 ot, .int .i64 x, .int .i64 wt] 30)) := (Below.refl _ _).alloc nlr _
  have C1 := C.below hb0
  have hcw := C.blk.lt
  rw [eN] at A1 A2 n1 n5 C1 ⊢
  have EN := hid eN
  have hIN : I < N := by omega
  have hJN : J < N := by omega
  have Cw := hid (fun W (y : Crowd W B0 l c (.slice (some ⟨D, 0, none⟩) N cd) (.slice (some ⟨E, 0, none⟩) N ce) rs) => y.cells eN)
  clear eI eJ eN C
  go_enter Tryz.func8, Tryz.ntmps8
  go_upto_region 1 with fail
  generalize hW : w.alloc (.cells #[.int .i64 8, .int .i64 on, .int .i64 ot, .int .i64 x, .int .i64 wt] 30) = w1 at *
  clear hW
  have o1 : w1.cell? ⟨w.heap.size, 1, none⟩ = some (.int .i64 on) := X0.cell 1
  have o2 : w1.cell? ⟨w.heap.size, 2, none⟩ = some (.int .i64 ot) := X0.cell 2
  have c1 : w1.cell? ⟨c, 1, none⟩ = some (.slice (some ⟨D, 0, none⟩) N cd) := C1.blk.cell 1
  go_quiet ((first
    | (go_at_call_of 9 (Value.int .i64 on); exact Calls.quiet_of_same (calls_flip (A1.out _)))
    | (go_at_call_of 9 (Value.int .i64 ot); exact Calls.quiet_of_same (calls_flip (A2.out _)))))
  have hB2 := below_drewN (Below.refl w1.heap.size w1) nq
  have C2 := C1.below hB2
  have X2 := X0.below hB2 nlr
  have hs0 : B0 ≤ w.heap.size := by have := C1.base; omega
  have hb2 : ChB S w (w1.drewN nq) := ChB.of_below (hb0.trans (hB2.mono hb0.size))
  clear A1 A2 HCW C1 X0 hb0 hB2 o1 o2 c1 n5
  generalize w1.drewN nq = w2 at *
  clear w1
  obtain ⟨c1, c2, c3, c4, c5⟩ := Cw.out _ C2 I hI
  have x0 : w2.cell? ⟨w.heap.size, 0, none⟩ = some (.int .i64 8) := X2.cell 0
  have x3 : w2.cell? ⟨w.heap.size, 3, none⟩ = some (.int .i64 x) := X2.cell 3
  have x4 : w2.cell? ⟨w.heap.size, 4, none⟩ = some (.int .i64 wt) := X2.cell 4
  have OK := C2.each I hI
  have TT := T I hI
  have NS := SR I hI
  have hzl : rs[I].zs.length ≤ 7400 := by
    have h1 := TT.zlen
    have h2 := TT.dg.roll.l2
    have h3 : l.toNat + 1 ≤ 49 := by omega
    have h4 : X.length * (l.toNat + 1) ≤ 150 * 49 := Nat.mul_le_mul (by omega) h3
    omega
  have hil : rs[I].its.length ≤ 150 := by have := TT.ilen; omega
  obtain ⟨r, er⟩ : ∃ r, r = rs[I] := ⟨_, rfl⟩
  rw [← er] at OK TT NS hzl hil c3 c5
  have ER := hid er
  have HC := hid C2
  have HT := hid T
  have hs2 : B0 ≤ w2.heap.size := by have := hb2.size; omega
  clear er T
  have RS := hid (dg_reset OK.d (by decide) (by omega))
  have hlf := TT.leafs
  clear TT OK x3 x4 hJ hJN c4 c5
  go_wp2_with fail
  refine RS.out.mono ?_
  rintro e w3 ⟨rfl, d3, hc⟩
  have TI2 : TI l r.k [] [] X := TI.nil d3.inv hlf
  have C3 := HC.out.turn I hI (h' := r.h) (zs' := []) (by rw [← ER.out]; exact hc) (by rw [← ER.out]; exact d3) (by rw [← ER.out]; exact .inl rfl)
  have hb3 := hb2.addC hc NS
  have hl3 : (rs.set I (rs[I].turn r.h [])).length = N := by rw [List.length_set]; exact EN.out
  have hI3 : I < (rs.set I (rs[I].turn r.h [])).length := by rw [hl3]; exact hIN
  have c2 : w3.cell? ⟨c, 2, none⟩ = some (.slice (some ⟨E, 0, none⟩) N ce) := C3.blk.cell 2
  have f1 := row_free C3.rowB (I * 2 + 1)
  obtain ⟨u, e1⟩ : ∃ u, w3.cell? ⟨E, I * 2 + 1, none⟩ = some u := ⟨_, (C3.cells hl3 I hI3).2.2.2.2⟩
  have hE3 : E < w3.heap.size := (World.ownsRow.lt C3.rowB E rfl).2
  have C4 := C3.newB hl3 I hI3 (its := []) (v := .slice none 0 0) (RdN.nil _) (.inr (fun b hb => by simp [Value.ownBlock] at hb))
  have T4 := HT.out.set2 I (rs[I].turn r.h []) (r := (rs.set I (rs[I].turn r.h []))[I].bag [] (.slice none 0 0)) (by rw [List.getElem_set_self, ← ER.out]; exact TI2)
  have PP : Hid (HopP S B0 l c (.slice (some ⟨D, 0, none⟩) N cd) (.slice (some ⟨E, 0, none⟩) N ce) N X w (.returned (.bool true)) (w3.setCell ⟨E, I * 2 + 1, none⟩ (.slice none 0 0))) :=
    ⟨rfl, _, X, by rw [List.length_set]; exact hl3, by omega, C4, T4, hb3.setS ⟨E, I * 2 + 1, none⟩ SE _⟩
  clear C3 C4 T4 hc d3 TI2 RS HC HT hb3 c1 c3 X2 hb2 Cw NS hl3 hI3
  go_wp2_with fail
  go_ret
  exact PP.out
end Go.Proofs.YtlciofheonbkiaaGreat
