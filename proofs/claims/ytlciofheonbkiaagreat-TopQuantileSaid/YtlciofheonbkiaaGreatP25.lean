/- Texts laid together. -/
import Derived.Test.YtlciofheonbkiaaGreatP12
import Derived.Test.YtlciofheonbkiaaGreatP01
import Derived.Deep.Fields
import Derived.Deep.Slices
import Derived.Deep.CutBlock
import Derived.Deep.LoopGhost
import Derived.Laws.StructEq
import Derived.BigQuiet
import Derived.Test.YtlciofheonbkiaaGreatP19
import Derived.Test.YtlciofheonbkiaaGreatP24
import Derived.Test.YtlciofheonbkiaaGreatP23
/- The walks of digest.Clone, and of DigestBounds. -/
namespace Go.Proofs.YtlciofheonbkiaaGreat
set_option maxHeartbeats 8000000
set_option maxRecDepth 100000
open Go.RowKit Nl
def DgClone (kind l k : Int) (m : Nat) (zs : List Nd) (w : World) (e : Ending) (w' : World) : Prop :=
  ∃ dg q g h, e = .returned (.pointer (some ⟨dg, 0, none⟩)) ∧ DgV w' dg q g h kind l k m zs ∧ w.heap.size ≤ dg ∧ w.heap.size ≤ q ∧ w.heap.size ≤ g ∧ w.heap.size ≤ h ∧ Below w.heap.size w w'
section
variable {w : World} {dg q g h m : Nat} {kind l k : Int} {zs : List Nd}
theorem dg_clone (d : DgV w dg q g h kind l k m zs) (hm : m ≤ 100000) :
    Calls Tryz.prog 33 #[.pointer (some ⟨dg, 0, none⟩)] w (DgClone kind l k m zs w) := by
  have C := hid (fun W (x : PoolV W q g h kind l m zs) => pl_clone x hm)
  have dp := d.pool
  have inv := hid d.inv
  have bd := d.1
  have hdl := bd.lt
  have c0 : w.cell? ⟨dg, 0, none⟩ = some (.int .i64 k) := bd.cell 0
  have c1 : w.cell? ⟨dg, 1, none⟩ = some (.pointer (some ⟨q, 0, none⟩)) := bd.cell 1
  have hB0 := Below.refl w.heap.size w
  clear d
  go_enter Tryz.func33, Tryz.ntmps33
  go_wp2_with fail
  go_region_held3 (fun w' => w'.cell? ⟨dg, 0, none⟩ = some (.int .i64 k) ∧ w'.cell? ⟨dg, 1, none⟩ = some (.pointer (some ⟨q, 0, none⟩)) ∧ Below w.heap.size w w')
    (first
      | exact ⟨c0, c1, below_drewN hB0 1⟩
      | exact ⟨(bd.below' hBn hdl).cell 0, (bd.below' hBn hdl).cell 1, hBn⟩
      | exact ⟨(bd.below' hBm hdl).cell 0, (bd.below' hBm hdl).cell 1, hBm⟩)
    ((go_at_call 86; have hBa := (‹_ ∧ _ ∧ Below w.heap.size w _›).2.2; refine (C.out _ (dp.below hBa nlr)).mono ?_; rintro e w5 ⟨q5, g5, h5, rfl, d5, hq5, hg5, hh5, hb5⟩
      have hBn := hBa.trans (hb5.mono hBa.size)
      have hsa := hBa.size
      have hBm := hBn.alloc hBn.size (.cells #[.int .i64 k, .pointer (some ⟨q5, 0, none⟩)] 103)))
  have Y := Blk.new w5 #[.int .i64 k, .pointer (some ⟨q5, 0, none⟩)] 103
  have d6 := d5.below ((Below.refl w5.heap.size w5).alloc nlr (.cells #[.int .i64 k, .pointer (some ⟨q5, 0, none⟩)] 103)) nlr
  have lt5 := d5.lt
  have hs5 := hBn.size
  go_wp2_with fail
  go_ret
  exact ⟨w5.heap.size, q5, g5, h5, rfl, ⟨Y, d6, by omega, by omega, by omega, inv.out⟩, by omega, by omega, by omega, by omega, hBm⟩
end
end Go.Proofs.YtlciofheonbkiaaGreat

/- digest.Same, of two digests of one k. -/
namespace Go.Proofs.YtlciofheonbkiaaGreat
set_option maxHeartbeats 8000000
set_option maxRecDepth 100000
open Go.RowKit Nl
theorem dg_same {w : World} {dg q g h m dg' q' g' h' m' : Nat} {kind l k kind' l' : Int} {zs zs' : List Nd} (d : DgV w dg q g h kind l k m zs) (d' : DgV w dg' q' g' h' kind' l' k m' zs') (hm : m ≤ 100000) (hm' : m' ≤ 100000) :
    Calls Tryz.prog 32 #[.pointer (some ⟨dg, 0, none⟩), .pointer (some ⟨dg', 0, none⟩)] w fun e w' => e = .returned (.bool (decide (l = l' ∧ zs = zs'))) ∧ Below w.heap.size w w' := by
  have S := hid (fun W (x : PoolV W q g h kind l m zs) (y : PoolV W q' g' h' kind' l' m' zs') => pl_same x y hm hm')
  have c0 : w.cell? ⟨dg, 0, none⟩ = some (.int .i64 k) := d.1.cell 0
  have c1 : w.cell? ⟨dg, 1, none⟩ = some (.pointer (some ⟨q, 0, none⟩)) := d.1.cell 1
  have e0 : w.cell? ⟨dg', 0, none⟩ = some (.int .i64 k) := d'.1.cell 0
  have e1 : w.cell? ⟨dg', 1, none⟩ = some (.pointer (some ⟨q', 0, none⟩)) := d'.1.cell 1
  have HX : Hid (∀ W, W.heap = w.heap → PoolV W q g h kind l m zs) := fun W e => d.pool.keepB (fun j _ _ => by rw [e])
  have HY : Hid (∀ W, W.heap = w.heap → PoolV W q' g' h' kind' l' m' zs') := fun W e => d'.pool.keepB (fun j _ _ => by rw [e])
  have bd := d.1
  have be := d'.1
  have hdl := bd.lt
  have hel := be.lt
  clear d d'
  go_enter Tryz.func32, Tryz.ntmps32
  have hq : (k == k) = true := by simp
  have HE : Hid ((decide (l = l') && decide (zs = zs')) = decide (l = l' ∧ zs = zs')) := by show _ = _; simp
  have hB0 := Below.refl w.heap.size w
  go_wp2_with fail
  go_region_held3 (fun w' => w'.cell? ⟨dg, 0, none⟩ = some (.int .i64 k) ∧ w'.cell? ⟨dg, 1, none⟩ = some (.pointer (some ⟨q, 0, none⟩)) ∧ w'.cell? ⟨dg', 0, none⟩ = some (.int .i64 k) ∧ w'.cell? ⟨dg', 1, none⟩ = some (.pointer (some ⟨q', 0, none⟩)) ∧ Below w.heap.size w w')
    (first | exact ⟨c0, c1, e0, e1, below_drewN hB0 1⟩ | exact ⟨(bd.below' hb6 hdl).cell 0, (bd.below' hb6 hdl).cell 1, (be.below' hb6 hel).cell 0, (be.below' hb6 hel).cell 1, hb6⟩)
    ((go_at_call 85; refine (S.out _ (HX.out _ (by rfl)) (HY.out _ (by rfl))).mono ?_; rintro e w5 ⟨rfl, hb5⟩; have hb6 : Below w.heap.size w w5 := (below_drewN hB0 1).trans hb5))
  go_wp2_with fail
  go_ret
  refine ⟨?_, hb6⟩
  rw [← HE.out]; rfl
end Go.Proofs.YtlciofheonbkiaaGreat

/- A digest and its like are the same. -/
namespace Go.Proofs.YtlciofheonbkiaaGreat
open Go.RowKit Nl
theorem dg_same1 {w : World} {dg q g h m dg' q' g' h' m' : Nat} {kind l k kind' : Int} {zs : List Nd} (d : DgV w dg q g h kind l k m zs) (d' : DgV w dg' q' g' h' kind' l k m' zs) (hm : m ≤ 100000) (hm' : m' ≤ 100000) :
    Calls Tryz.prog 32 #[.pointer (some ⟨dg, 0, none⟩), .pointer (some ⟨dg', 0, none⟩)] w fun e w' => e = .returned (.bool true) ∧ Below w.heap.size w w' :=
  (dg_same d d' hm hm').mono fun e w' ⟨h1, h2⟩ => ⟨by rw [h1]; simp, h2⟩
end Go.Proofs.YtlciofheonbkiaaGreat

/- The walks of a hop. -/
namespace Go.Proofs.YtlciofheonbkiaaGreat
set_option maxHeartbeats 8000000
set_option maxRecDepth 100000
open Go.RowKit Nl
theorem hp_5 {w : World} {B0 c : Nat} {l : Int} {vd vb : Value} {rs : List Rec} {X : List Int} (on ot x wt : Int) (ok : HopE.ok ⟨5, on, ot, x, wt⟩) (C : Crowd w B0 l c vd vb rs) (T : CrowdT l rs X) (hX : X.length < 150) (n1 : 1 ≤ rs.length) (n5 : rs.length ≤ 5) :
    Calls Tryz.prog 8 #[.pointer (some ⟨c, 0, none⟩), .agg #[.int .i64 5, .int .i64 on, .int .i64 ot, .int .i64 x, .int .i64 wt]] w (HopP (CB vd vb rs) B0 l c vd vb rs.length X w) := by
  obtain ⟨D, cd, E, ce, rfl, rfl, -, -⟩ := C.shape n1
  have SD : CB (.slice (some ⟨D, 0, none⟩) rs.length cd) (.slice (some ⟨E, 0, none⟩) rs.length ce) rs D := .inl rfl
  have SE : CB (.slice (some ⟨D, 0, none⟩) rs.length cd) (.slice (some ⟨E, 0, none⟩) rs.length ce) rs E := .inr (.inl rfl)
  have SR : ∀ j (h : j < rs.length) b, rs[j].B b → CB (.slice (some ⟨D, 0, none⟩) rs.length cd) (.slice (some ⟨E, 0, none⟩) rs.length ce) rs b := fun j h b p => .inr (.inr ⟨j, h, p⟩)
  generalize CB (.slice (some ⟨D, 0, none⟩) rs.length cd) (.slice (some ⟨E, 0, none⟩) rs.length ce) rs = S at *
  obtain ⟨N, eN⟩ : ∃ N, rs.length = N := ⟨_, rfl⟩
  obtain ⟨-, ok1, ok2, ok3, ok4⟩ := ok
  have hI := atV_lt on n1
  have hJ := atV_lt ot n1
  have A1 := hid (fun W => t_at on rs.length W ok1 n1 n5)
  have A2 := hid (fun W => t_at ot rs.length W ok2 n1 n5)
  obtain ⟨I, eI⟩ : ∃ I, atV on rs.length = I := ⟨_, rfl⟩
  obtain ⟨J, eJ⟩ : ∃ J, atV ot rs.length = J := ⟨_, rfl⟩
  rw [eI] at hI A1
  rw [eJ] at hJ A2
  have HCW := hid C
  have X0 := Blk.new w #[.int .i64 5, .int .i64 on, .int .i64 ot, .int .i64 x, .int .i64 wt] 30
  have hb0 : Below w.heap.size w (w.alloc (.cells #[.int .i64 5, .int .i64 on, .int .i64 ot, .int .i64 x, .int .i64 wt] 30)) := (Below.refl _ _).alloc nlr _
  have C1 := C.below hb0
  have hcw := C.blk.lt
  rw [eN] at A1 A2 n1 n5 C1 ⊢
  have EN := hid eN
  have hIN : I < N := by omega
  have hJN : J < N := by omega
  have Cw := hid (fun W (y : Crowd W B0 l c (.slice (some ⟨D, 0, none⟩) N cd) (.slice (some ⟨E, 0, none⟩) N ce) rs) => y.cells eN)
  clear eI eJ eN C
  go_enter Tryz.func8, Tryz.ntmps8
  go_upto_region 1 with fail
  generalize hW : w.alloc (.cells #[.int .i64 5, .int .i64 on, .int .i64 ot, .int .i64 x, .int .i64 wt] 30) = w1 at *
  clear hW
  have o1 : w1.cell? ⟨w.heap.size, 1, none⟩ = some (.int .i64 on) := X0.cell 1
  have o2 : w1.cell? ⟨w.heap.size, 2, none⟩ = some (.int .i64 ot) := X0.cell 2
  have c1 : w1.cell? ⟨c, 1, none⟩ = some (.slice (some ⟨D, 0, none⟩) N cd) := C1.blk.cell 1
  go_quiet ((first
    | (go_at_call_of 9 (Value.int .i64 on); exact Calls.quiet_of_same (calls_flip (A1.out _)))
    | (go_at_call_of 9 (Value.int .i64 ot); exact Calls.quiet_of_same (calls_flip (A2.out _)))))
  have hB2 := below_drewN (Below.refl w1.heap.size w1) nq
  have C2 := C1.below hB2
  have X2 := X0.below hB2 nlr
  have hs0 : B0 ≤ w.heap.size := by have := C1.base; omega
  have hb2 : ChB S w (w1.drewN nq) := ChB.of_below (hb0.trans (hB2.mono hb0.size))
  clear A1 A2 HCW C1 X0 hb0 hB2 o1 o2 c1 n5
  generalize w1.drewN nq = w2 at *
  clear w1
  obtain ⟨c1, c2, c3, c4, c5⟩ := Cw.out _ C2 I hI
  have x0 : w2.cell? ⟨w.heap.size, 0, none⟩ = some (.int .i64 5) := X2.cell 0
  have x3 : w2.cell? ⟨w.heap.size, 3, none⟩ = some (.int .i64 x) := X2.cell 3
  have x4 : w2.cell? ⟨w.heap.size, 4, none⟩ = some (.int .i64 wt) := X2.cell 4
  have OK := C2.each I hI
  have TT := T I hI
  have NS := SR I hI
  have hzl : rs[I].zs.length ≤ 7400 := by
    have h1 := TT.zlen
    have h2 := TT.dg.roll.l2
    have h3 : l.toNat + 1 ≤ 49 := by omega
    have h4 : X.length * (l.toNat + 1) ≤ 150 * 49 := Nat.mul_le_mul (by omega) h3
    omega
  have hil : rs[I].its.length ≤ 150 := by have := TT.ilen; omega
  obtain ⟨r, er⟩ : ∃ r, r = rs[I] := ⟨_, rfl⟩
  rw [← er] at OK TT NS hzl hil c3 c5
  have ER := hid er
  have HC := hid C2
  have HT := hid T
  have hs2 : B0 ≤ w2.heap.size := by have := hb2.size; omega
  clear er T
  have hB9 := Below.refl w2.heap.size w2
  have CL := hid (dg_clone (OK.d.below (below_drewN hB9 1) nlr) (by decide))
  have hnR := (HC.out.nR I hI)
  rw [← ER.out] at hnR
  have SM := hid (fun W a b cc d (y : DgV W a b cc d r.kind l r.k 20000 r.zs) (z : DgV W r.dg r.q r.g r.h r.kind l r.k 20000 r.zs) => dg_same1 y z (by decide) (by decide))
  have HK := hid OK
  clear TT OK x3 x4 hJ hJN c4 c5 c2
  go_upto_region 24 with fail
  go_region_with ((go_at_call 33; refine CL.out.mono ?_; rintro e w5 ⟨dg', q', g', h', rfl, d', p1, p2, p3, p4, hb5⟩; have hBn := (below_drewN hB9 1).trans (hb5.mono nlr); have C5 := HC.out.below hBn; have kc := (C5.cells EN.out I hI).2.2.1; have kc1 : World.cell? w5 ⟨c, 1, none⟩ = some (.slice (some ⟨D, 0, none⟩) N cd) := C5.blk.cell 1; have kf := row_free C5.rowD I; have kl := (World.ownsRow.lt C5.rowD D rfl).2; clear hb5))
  all_goals
    have hnew : ∀ b, DB dg' q' g' h' b → w2.heap.size ≤ b := fun b hb => by rcases hb with e | e | e | e <;> (subst e; assumption)
    have C6 := C5.newD EN.out I hI d' HK.out.k1 HK.out.k2 HK.out.kl (fun b hb => by
      obtain ⟨q1, q2, q3, q4, q5, q6⟩ := HC.out.off b (hnew b hb)
      exact ⟨q1, q2, fun e => q3 (Option.some.inj e).symm, q4, q5, q6⟩)
    have hl6 : (rs.set I (rs[I].swap dg' q' g' h' r.kind r.k r.zs)).length = N := by rw [List.length_set]; exact EN.out
    have hI6 : I < (rs.set I (rs[I].swap dg' q' g' h' r.kind r.k r.zs)).length := by rw [hl6]; exact hIN
    have D6 := (C6.each I hI6).d
    have e6 := C6.cells hl6 I hI6
    rw [List.getElem_set_self] at D6 e6
    obtain ⟨c1, -, c3, -, -⟩ := e6
    have D6 : DgV (w5.setCell ⟨D, I, none⟩ (.pointer (some ⟨dg', 0, none⟩))) dg' q' g' h' r.kind l r.k 20000 r.zs := D6
    have c3 : World.cell? (w5.setCell ⟨D, I, none⟩ (.pointer (some ⟨dg', 0, none⟩))) ⟨D, I, none⟩ = some (.pointer (some ⟨dg', 0, none⟩)) := c3
    have O6 : DgV (w5.setCell ⟨D, I, none⟩ (.pointer (some ⟨dg', 0, none⟩))) r.dg r.q r.g r.h r.kind l r.k 20000 r.zs :=
      (HK.out.d.below hBn nlr).keepB (fun b _ hb => Below.heap_setCell _ ⟨D, I, none⟩ _ b (fun e => (hnR b hb).2.1 (by rw [e]; rfl)))
    have T6 := HT.out.set I (r := rs[I].swap dg' q' g' h' r.kind r.k r.zs) (by have := HT.out I hI; rw [← ER.out] at this ⊢; exact this)
    have hb6 := (hb2.add hBn).setS ⟨D, I, none⟩ SD (.pointer (some ⟨dg', 0, none⟩))
    have SM6 := SM.out _ _ _ _ _ D6 O6
    have PP : Hid (∀ w4, Below (w5.setCell ⟨D, I, none⟩ (.pointer (some ⟨dg', 0, none⟩))).heap.size (w5.setCell ⟨D, I, none⟩ (.pointer (some ⟨dg', 0, none⟩))) w4 → HopP S B0 l c (.slice (some ⟨D, 0, none⟩) N cd) (.slice (some ⟨E, 0, none⟩) N ce) N X w (.returned (.bool true)) w4) := fun w4 hb4 =>
      ⟨rfl, _, X, hl6, by omega, C6.below hb4, T6, hb6.add hb4⟩
    generalize hW : w5.setCell ⟨D, I, none⟩ (.pointer (some ⟨dg', 0, none⟩)) = w6 at *
    clear hW C6 T6 hb6 D6 O6 C5 d' hBn kc kc1 kf kl CL SM HC HT HK X2 hb2 Cw NS hl6 hI6 hnew
    go_wp2_with fail
    refine SM6.mono ?_
    rintro e w7 ⟨rfl, hb7⟩
    have PP7 := hid (PP.out _ hb7)
    go_wp2_with fail
    go_ret
    exact PP7.out
theorem hp_7 {w : World} {B0 c : Nat} {l : Int} {vd vb : Value} {rs : List Rec} {X : List Int} (on ot x wt : Int) (ok : HopE.ok ⟨7, on, ot, x, wt⟩) (C : Crowd w B0 l c vd vb rs) (T : CrowdT l rs X) (hX : X.length < 150) (n1 : 1 ≤ rs.length) (n5 : rs.length ≤ 5) :
    Calls Tryz.prog 8 #[.pointer (some ⟨c, 0, none⟩), .agg #[.int .i64 7, .int .i64 on, .int .i64 ot, .int .i64 x, .int .i64 wt]] w (HopP (CB vd vb rs) B0 l c vd vb rs.length X w) := by
  obtain ⟨D, cd, E, ce, rfl, rfl, -, -⟩ := C.shape n1
  have SD : CB (.slice (some ⟨D, 0, none⟩) rs.length cd) (.slice (some ⟨E, 0, none⟩) rs.length ce) rs D := .inl rfl
  have SE : CB (.slice (some ⟨D, 0, none⟩) rs.length cd) (.slice (some ⟨E, 0, none⟩) rs.length ce) rs E := .inr (.inl rfl)
  have SR : ∀ j (h : j < rs.length) b, rs[j].B b → CB (.slice (some ⟨D, 0, none⟩) rs.length cd) (.slice (some ⟨E, 0, none⟩) rs.length ce) rs b := fun j h b p => .inr (.inr ⟨j, h, p⟩)
  generalize CB (.slice (some ⟨D, 0, none⟩) rs.length cd) (.slice (some ⟨E, 0, none⟩) rs.length ce) rs = S at *
  obtain ⟨N, eN⟩ : ∃ N, rs.length = N := ⟨_, rfl⟩
  obtain ⟨-, ok1, ok2, ok3, ok4⟩ := ok
  have hI := atV_lt on n1
  have hJ := atV_lt ot n1
  have A1 := hid (fun W => t_at on rs.length W ok1 n1 n5)
  have A2 := hid (fun W => t_at ot rs.length W ok2 n1 n5)
  obtain ⟨I, eI⟩ : ∃ I, atV on rs.length = I := ⟨_, rfl⟩
  obtain ⟨J, eJ⟩ : ∃ J, atV ot rs.length = J := ⟨_, rfl⟩
  rw [eI] at hI A1
  rw [eJ] at hJ A2
  have HCW := hid C
  have X0 := Blk.new w #[.int .i64 7, .int .i64 on, .int .i64 ot, .int .i64 x, .int .i64 wt] 30
  have hb0 : Below w.heap.size w (w.alloc (.cells #[.int .i64 7, .int .i64 on, .int .i64 ot, .int .i64 x, .int .i64 wt] 30)) := (Below.refl _ _).alloc nlr _
  have C1 := C.below hb0
  have hcw := C.blk.lt
  rw [eN] at A1 A2 n1 n5 C1 ⊢
  have EN := hid eN
  have hIN : I < N := by omega
  have hJN : J < N := by omega
  have Cw := hid (fun W (y : Crowd W B0 l c (.slice (some ⟨D, 0, none⟩) N cd) (.slice (some ⟨E, 0, none⟩) N ce) rs) => y.cells eN)
  clear eI eJ eN C
  go_enter Tryz.func8, Tryz.ntmps8
  go_upto_region 1 with fail
  generalize hW : w.alloc (.cells #[.int .i64 7, .int .i64 on, .int .i64 ot, .int .i64 x, .int .i64 wt] 30) = w1 at *
  clear hW
  have o1 : w1.cell? ⟨w.heap.size, 1, none⟩ = some (.int .i64 on) := X0.cell 1
  have o2 : w1.cell? ⟨w.heap.size, 2, none⟩ = some (.int .i64 ot) := X0.cell 2
  have c1 : w1.cell? ⟨c, 1, none⟩ = some (.slice (some ⟨D, 0, none⟩) N cd) := C1.blk.cell 1
  go_quiet ((first
    | (go_at_call_of 9 (Value.int .i64 on); exact Calls.quiet_of_same (calls_flip (A1.out _)))
    | (go_at_call_of 9 (Value.int .i64 ot); exact Calls.quiet_of_same (calls_flip (A2.out _)))))
  have hB2 := below_drewN (Below.refl w1.heap.size w1) nq
  have C2 := C1.below hB2
  have X2 := X0.below hB2 nlr
  have hs0 : B0 ≤ w.heap.size := by have := C1.base; omega
  have hb2 : ChB S w (w1.drewN nq) := ChB.of_below (hb0.trans (hB2.mono hb0.size))
  clear A1 A2 HCW C1 X0 hb0 hB2 o1 o2 c1 n5
  generalize w1.drewN nq = w2 at *
  clear w1
  obtain ⟨c1, c2, c3, c4, c5⟩ := Cw.out _ C2 I hI
  have x0 : w2.cell? ⟨w.heap.size, 0, none⟩ = some (.int .i64 7) := X2.cell 0
  have x3 : w2.cell? ⟨w.heap.size, 3, none⟩ = some (.int .i64 x) := X2.cell 3
  have x4 : w2.cell? ⟨w.heap.size, 4, none⟩ = some (.int .i64 wt) := X2.cell 4
  have OK := C2.each I hI
  have TT := T I hI
  have NS := SR I hI
  have hzl : rs[I].zs.length ≤ 7400 := by
    have h1 := TT.zlen
    have h2 := TT.dg.roll.l2
    have h3 : l.toNat + 1 ≤ 49 := by omega
    have h4 : X.length * (l.toNat + 1) ≤ 150 * 49 := Nat.mul_le_mul (by omega) h3
    omega
  have hil : rs[I].its.length ≤ 150 := by have := TT.ilen; omega
  obtain ⟨r, er⟩ : ∃ r, r = rs[I] := ⟨_, rfl⟩
  rw [← er] at OK TT NS hzl hil c3 c5
  have ER := hid er
  have HC := hid C2
  have HT := hid T
  have hs2 : B0 ≤ w2.heap.size := by have := hb2.size; omega
  clear er T
  have k1 := TT.dg.k1
  have k2 := TT.dg.k2
  have hnR := (HC.out.nR I hI)
  rw [← ER.out] at hnR
  have HK := hid OK
  by_cases hx : 1 ≤ x ∧ x ≤ r.k
  · have LW := hid (bl_lower x OK.d (by decide) (by omega) hx.1 hx.2)
    have TI2 := TT.low hx.1 hx.2
    clear TT OK x4 hJ hJN c4 c5 c2 k1 k2
    go_wp2_with fail
    refine LW.out.mono ?_
    rintro e w5 ⟨dg', q', g', h', rfl, d', p1, p2, p3, p4, hb5⟩
    have C5 := HC.out.below hb5
    have kc := (C5.cells EN.out I hI).2.2.1
    have c1 : w5.cell? ⟨c, 1, none⟩ = some (.slice (some ⟨D, 0, none⟩) N cd) := C5.blk.cell 1
    have kf := row_free C5.rowD I
    have kl := (World.ownsRow.lt C5.rowD D rfl).2
    have hnew : ∀ b, DB dg' q' g' h' b → w2.heap.size ≤ b := fun b hb => by rcases hb with e | e | e | e <;> omega
    have C6 := C5.newD EN.out I hI d' HK.out.k1 HK.out.k2 HK.out.kl (fun b hb => by
      obtain ⟨q1, q2, q3, q4, q5, q6⟩ := HC.out.off b (hnew b hb)
      exact ⟨q1, q2, fun e => q3 (Option.some.inj e).symm, q4, q5, q6⟩)
    have hl6 : (rs.set I (rs[I].swap dg' q' g' h' r.kind x (lowL l x r.zs))).length = N := by rw [List.length_set]; exact EN.out
    have T6 := HT.out.set I (r := rs[I].swap dg' q' g' h' r.kind x (lowL l x r.zs)) (by rw [← ER.out]; exact TI2)
    have hb6 := (hb2.add hb5).setS ⟨D, I, none⟩ SD (.pointer (some ⟨dg', 0, none⟩))
    have PP : Hid (HopP S B0 l c (.slice (some ⟨D, 0, none⟩) N cd) (.slice (some ⟨E, 0, none⟩) N ce) N X w (.returned (.bool true)) (w5.setCell ⟨D, I, none⟩ (.pointer (some ⟨dg', 0, none⟩)))) :=
      ⟨rfl, _, X, hl6, by omega, C6, T6, hb6⟩
    clear C6 T6 hb6 C5 d' LW HC HT HK X2 hb2 Cw NS hl6 hnew TI2 p1 p2 p3 p4 hb5
    go_wp2_with fail
    go_ret
    exact PP.out
  · have LN := hid (bl_lower_no x OK.d (by omega))
    have CF := hid (fun W (y : DgV W r.dg r.q r.g r.h r.kind l r.k 20000 r.zs) => dg_conf y)
    have hfl := fun W : World => conf_k l r.k r.kind W
    have PP : Hid (∀ w4, Below w2.heap.size w2 w4 → HopP S B0 l c (.slice (some ⟨D, 0, none⟩) N cd) (.slice (some ⟨E, 0, none⟩) N ce) N X w (.returned (.bool true)) w4) := fun w4 hb4 =>
      ⟨rfl, _, X, EN.out, by omega, HC.out.below hb4, HT.out, hb2.add hb4⟩
    clear TT OK x4 hJ hJN c2 c4 c5
    go_wp2_with fail
    refine LN.out.mono ?_
    rintro e w5 ⟨rfl, hb5⟩
    have X5 := X2.below hb5 nlr
    have x3 : w5.cell? ⟨w.heap.size, 3, none⟩ = some (.int .i64 x) := X5.cell 3
    have d5 := HK.out.d.below hb5 nlr
    clear LN HC HT Cw NS X2 hb2
    by_cases hx1 : x < 1
    · have z1 : decide (x < 1) = true := decide_eq_true hx1
      have PP5 := hid (fun n => PP.out (w5.drewN n) (hb5.trans (below_drewN (Below.refl _ _) n)))
      clear d5 X5 HK PP
      go_upto_region 29 with fail
      go_quiet (fail)
      go_wp2_with fail
      go_ret
      exact PP5.out _
    · have z1 : decide (x < 1) = false := decide_eq_false hx1
      have z2 : decide (r.k < x) = true := decide_eq_true (by omega)
      have hB9 := Below.refl w5.heap.size w5
      have CF5 := hid (CF.out _ (d5.below (below_drewN hB9 1) nlr))
      go_upto_region 29 with fail
      go_region_with ((go_at_call 28; refine CF5.out.mono ?_; rintro e w6 ⟨rfl, hb6⟩; have hBn := (below_drewN hB9 1).trans (hb6.mono nlr); have X6 := X5.below hBn nlr; have x3' : World.cell? w6 ⟨w.heap.size, 3, none⟩ = some (.int .i64 x) := X6.cell 3))
      all_goals
        have PP6 := hid (PP.out _ (hb5.trans (hBn.mono hb5.size)))
        clear X5 X6 hBn hb6 CF5 CF PP d5
        go_wp2_with fail
        go_ret
        exact PP6.out
end Go.Proofs.YtlciofheonbkiaaGreat

/- Decimal digits, and the number that a text begins with (no program in sight). -/
namespace Go.Proofs.YtlciofheonbkiaaGreat
namespace Sh
def decL (n : Nat) : List UInt8 := if _h : n < 10 then [UInt8.ofNat (48 + n)] else decL (n / 10) ++ [UInt8.ofNat (48 + n % 10)]
termination_by n
decreasing_by omega
theorem decL_low {n : Nat} (h : n < 10) : decL n = [UInt8.ofNat (48 + n)] := by rw [decL]; rw [dif_pos h]
theorem decL_big {n : Nat} (h : ¬ n < 10) : decL n = decL (n / 10) ++ [UInt8.ofNat (48 + n % 10)] := by rw [decL]; rw [dif_neg h]
theorem decL_ne (n : Nat) : decL n ≠ [] := by
  by_cases h : n < 10
  · rw [decL_low h]; simp
  · rw [decL_big h]; simp
theorem decL_len (k : Nat) : ∀ n : Nat, n < 10 ^ (k + 1) → (decL n).length ≤ k + 1 := by
  induction k with
  | zero => intro n h; rw [decL_low (by simpa using h)]; simp
  | succ k ih =>
    intro n h
    by_cases h10 : n < 10
    · rw [decL_low h10]; simp
    · rw [decL_big h10, List.length_append]
      have := ih (n / 10) (by rw [Nat.pow_succ] at h; omega)
      simp; omega
theorem head_app {l r : List UInt8} (h : l ≠ []) : (l ++ r).head? = l.head? := by
  cases l with
  | nil => exact absurd rfl h
  | cons c t => rfl
def isDig (c : UInt8) : Bool := decide (48 ≤ c.toNat ∧ c.toNat ≤ 57)
theorem dig_of {d : Nat} (h : d < 10) : (UInt8.ofNat (48 + d)).toNat = 48 + d := by
  simp [UInt8.toNat_ofNat']; omega
def numL (n size : Nat) : List UInt8 → Option (Nat × Nat)
  | [] => some (n, size)
  | c :: r => if isDig c then (if 9223372036854775807 < 10 * n + (c.toNat - 48) then none else numL (10 * n + (c.toNat - 48)) (size + 1) r) else some (n, size)
def numV (l : List UInt8) : Nat × Nat × Bool :=
  match numL 0 0 l with
  | none => (0, 0, false)
  | some (n, size) => if size = 0 ∨ (1 < size ∧ l.head? = some 48) then (0, 0, false) else (n, size, true)
theorem numL_dec : ∀ (m n size : Nat) (r : List UInt8), n = 0 → m ≤ 9223372036854775807 → (∀ c t, r = c :: t → isDig c = false) → numL n size (decL m ++ r) = some (m, size + (decL m).length) := by
  have key : ∀ (k m size : Nat) (r : List UInt8), m ≤ k → m ≤ 9223372036854775807 → numL 0 size (decL m ++ r) = numL m (size + (decL m).length) r := by
    intro k
    induction k with
    | zero =>
      intro m size r hm _
      obtain rfl : m = 0 := by omega
      rw [decL_low (by omega)]
      rfl
    | succ k ih =>
      intro m size r hm hb
      by_cases h : m < 10
      · rw [decL_low h]
        simp only [List.cons_append, List.nil_append, numL, List.length_singleton]
        have e := dig_of h
        rw [if_pos (by simp only [isDig, e, decide_eq_true_eq]; omega), e, if_neg (by omega)]
        rw [show 10 * 0 + (48 + m - 48) = m by omega]
      · rw [decL_big h, List.append_assoc, ih (m / 10) size _ (by omega) (by omega)]
        simp only [List.cons_append, List.nil_append, numL]
        have e := dig_of (show m % 10 < 10 by omega)
        rw [if_pos (by simp only [isDig, e, decide_eq_true_eq]; omega), e, if_neg (by omega)]
        rw [show 10 * (m / 10) + (48 + m % 10 - 48) = m by omega, List.length_append]
        simp [Nat.add_assoc]
  intro m n size r hn hm hr
  subst hn
  rw [key m m size r nlr hm]
  cases r with
  | nil => rfl
  | cons c t => rw [numL, hr c t rfl]; rfl
theorem dec_head : ∀ (k n : Nat), n ≤ k → (decL n).head? = some 48 → n = 0 := by
  intro k
  induction k with
  | zero => intro n hn _; omega
  | succ k ih =>
    intro n hn h
    by_cases h10 : n < 10
    · rw [decL_low h10] at h
      simp only [List.head?_cons, Option.some.injEq] at h
      have e := dig_of h10
      rw [h] at e
      simp at e; omega
    · rw [decL_big h10] at h
      have hne := decL_ne (n / 10)
      rw [head_app hne] at h
      have := ih (n / 10) (by omega) h
      omega
theorem numV_dec {m : Nat} {r : List UInt8} (hm : m ≤ 9223372036854775807) (hr : ∀ c t, r = c :: t → isDig c = false) : numV (decL m ++ r) = (m, (decL m).length, true) := by
  unfold numV
  rw [numL_dec m 0 0 r rfl hm hr]
  simp only [Nat.zero_add]
  have hl : 0 < (decL m).length := List.length_pos_iff.2 (decL_ne m)
  rw [if_neg]
  rintro (h | ⟨h1, h2⟩)
  · omega
  · rw [head_app (decL_ne m)] at h2
    have := dec_head m m nlr h2
    subst this
    rw [decL_low (by omega)] at h1
    simp at h1
end Sh
end Go.Proofs.YtlciofheonbkiaaGreat
