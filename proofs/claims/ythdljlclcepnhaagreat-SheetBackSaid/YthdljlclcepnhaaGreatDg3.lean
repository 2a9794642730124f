/- The walks of digest.Reset, and of the statements' Do. -/
import Derived.Test.YthdljlclcepnhaaGreatDg2
import Derived.Test.YthdljlclcepnhaaGreatPr9
namespace Go.Proofs.YthdljlclcepnhaaGreat
open Go.RowKit Nl

theorem Nl.take_head {x : Int × Int} {r : List (Int × Int)} (h : Strict (x :: r)) : (stTake (x :: r) x.1).1 = r := by
  show (x :: r).filter (fun y => y.1 ≠ x.1) = r
  rw [List.filter_cons, if_neg (by simp)]
  exact List.filter_eq_self.2 (fun y hy => by have := h.head y hy; simp; omega)
theorem Nl.strict_drop {zs : List (Int × Int)} (h : Strict zs) (k : Nat) : Strict (zs.drop k) := by
  induction k with
  | zero => simpa using h
  | succ k ih =>
    cases hz : zs.drop k with
    | nil => rw [show zs.drop (k + 1) = [] by rw [← List.drop_drop, hz]; rfl]; exact ⟨List.Pairwise.nil, by simp⟩
    | cons x r => rw [hz] at ih; rw [show zs.drop (k + 1) = r by rw [← List.drop_drop, hz]; rfl]; exact ih.tail

section
variable {w : World} {dg q g h m : Nat} {kind l k : Int} {zs : List Nd}
def RstRel (dg q g h m : Nat) (kind l k : Int) (zs : List Nd) (vs : Value) (w w1 : World) (i : Value) (wr : World) : Prop :=
  ∃ j : Nat, i = .int .i64 j ∧ j ≤ zs.length ∧ Blk wr dg #[.int .i64 k, .pointer (some ⟨q, 0, none⟩)] 104 ∧ PoolV wr q g h kind l m (zs.drop j) ∧ RdN wr vs zs ∧ ChB (DB dg q g h) w wr ∧ w1.heap.size ≤ wr.heap.size
def RstPost (dg q g h : Nat) (kind l k : Int) (m : Nat) (w : World) (e : Ending) (w' : World) : Prop :=
  e = .returned (.tuple #[]) ∧ DgV w' dg q g h kind l k m [] ∧ ChB (DB dg q g h) w w'
set_option maxRecDepth 100000 in
set_option maxHeartbeats 2000000 in
theorem dg_reset (d : DgV w dg q g h kind l k m zs) (hm : m ≤ 100000) (hz : zs.length ≤ 2000) :
    Calls Tryz.prog 61 #[.pointer (some ⟨dg, 0, none⟩)] w (RstPost dg q g h kind l k m w) := by
  have inv := d.inv
  have di : Hid (Dg l k []) := Dg.nil inv.roll.l1 inv.roll.l2 inv.k1 inv.k2
  have st := hid inv.roll.strict
  have hids : Hid (∀ x ∈ zs, In64 x.1) := fun x hx => (roll_nb inv.roll x hx).1
  have P := hid (pl_snap d.pool hm)
  have hlt := d.ltB
  have ap : Hid (dg ≠ q ∧ dg ≠ g ∧ dg ≠ h) := ⟨d.2.2.1, d.2.2.2.1, d.2.2.2.2.1⟩
  have bd := d.1
  have dp := d.pool
  have c1 : w.cell? ⟨dg, 1, none⟩ = some (.pointer (some ⟨q, 0, none⟩)) := bd.cell 1
  clear d inv
  go_enter Tryz.func61, Tryz.ntmps61
  go_wp2_with fail
  refine P.out.mono ?_
  rintro e w1 hN
  obtain ⟨vs, rfl, own, hb1⟩ := hN
  have hrd := own.rd
  have hvs : Hid (∀ j, vs.ownBlock = some j → w.heap.size ≤ j) := own.lt
  obtain ⟨ps, cs, rfl⟩ := hrd.val
  obtain ⟨N, eN⟩ : ∃ N, zs.length = N := ⟨_, rfl⟩
  rw [eN] at hrd hvs
  rw [eN]
  have EN := hid eN
  have R0 : Hid (RstRel dg q g h m kind l k zs (.slice ps N cs) w w1 (.int .i64 (0 : Nat)) w1) := ⟨0, rfl, Nat.zero_le _, bd.below hb1 (Nat.le_refl _), by rw [List.drop_zero]; exact dp.below hb1 (Nat.le_refl _), hrd, ChB.of_below hb1, Nat.le_refl _⟩
  have hN2 : N ≤ 2000 := by omega
  have hs1 := hb1.size
  clear eN hz own hrd dp bd P hb1 c1
  go_wp2_with fail
  go_loopw [13] (fun i wr => RstRel dg q g h m kind l k zs (.slice ps N cs) w w1 i wr) (fun i _ => N - (intOf i).toNat)
  case atStart => exact R0.out
  case round =>
    obtain ⟨j, rfl, hj, b2, d2, r2, ch2, hs2⟩ := hrel
    rw [EN.out] at hj
    by_cases hlt2 : j < N
    · obtain ⟨gs, off, a, c, rfl, ea, hg, q0, q1⟩ := r2.at (k := j) (by rw [EN.out]; exact hlt2)
      have EA := hid ea
      clear ea
      have hmem : Hid (In64 a) := by
        have := hids.out _ (getD_mem (d := ((0, 0) : Nd)) zs j (by rw [EN.out]; exact hlt2))
        rw [EA.out] at this; exact this
      have hia := hmem.out
      have hdrop : Hid (zs.drop j = (a, c) :: zs.drop (j + 1)) := by
        show _ = _
        rw [drop_at (d := ((0, 0) : Nd)) zs j (by rw [EN.out]; exact hlt2), EA.out]
      have hba : Below wr.heap.size wr (wr.alloc (.cells #[.int .i64 a, .int .i64 c] 55)) := (Below.refl _ _).alloc (Nat.le_refl _) _
      have X := Blk.new wr #[.int .i64 a, .int .i64 c] 55
      have b3 := b2.below hba (Nat.le_refl _)
      have d3 := d2.below hba (Nat.le_refl _)
      have r3 := r2.below hba (Nat.le_refl _)
      have hsz3 : (wr.alloc (.cells #[.int .i64 a, .int .i64 c] 55)).heap.size = wr.heap.size + 1 := by simp
      have lt2 := d2.ltB
      have hbl := b2.lt
      have CB : Hid (ChB (DB dg q g h) w (wr.alloc (.cells #[.int .i64 a, .int .i64 c] 55))) := ch2.trans (ChB.of_below (S := fun _ => False) hba) (fun _ _ h => h.elim)
      have TK := hid (fun W (y : PoolV W q g h kind l m (zs.drop j)) => pl_take a y hm hia)
      have HZ : Hid ((stTake (zs.drop j) a).1 = zs.drop (j + 1)) := by
        show _ = _
        have h1 := strict_drop st.out j
        rw [hdrop.out] at h1 ⊢
        exact take_head h1
      clear hdrop hba b2 d2 r2 ch2
      go_wp2_with fail
      generalize (wr.alloc (.cells #[.int .i64 a, .int .i64 c] 55)) = w3 at *
      have y0 : w3.cell? ⟨wr.heap.size, 0, none⟩ = some (.int .i64 a) := X.cell 0
      have c1 : w3.cell? ⟨dg, 1, none⟩ = some (.pointer (some ⟨q, 0, none⟩)) := b3.cell 1
      go_region_held3 (fun w' => w'.cell? ⟨dg, 1, none⟩ = some (.pointer (some ⟨q, 0, none⟩)) ∧ w'.cell? ⟨wr.heap.size, 0, none⟩ = some (.int .i64 a))
        (first | exact ⟨c1, y0⟩ | exact ⟨b5.cell 1, X5.cell 0⟩)
        ((go_at_call 97; refine (TK.out _ (d3.drewN 1)).mono ?_; rintro e w5 ⟨rfl, d5, t5⟩
          have ap1 := ap.out
          have b5 := b3.keep (t5.block dg (show dg < w3.heap.size from b3.lt) ap1.2.1 ap1.2.2)
          have X5 := X.keep (t5.block wr.heap.size (by show wr.heap.size < w3.heap.size; omega) (by have := lt2 g (.inr (.inl rfl)); omega) (by have := lt2 h (.inr (.inr rfl)); omega))))
      have r5 : RdN w5 (.slice (some ⟨gs, off, none⟩) N cs) zs := r3.keep (fun i hi e => t5.block i hi (by have := hvs.out i e; have := hlt g (.inr (.inr (.inl rfl))); omega) (by have := hvs.out i e; have := hlt h (.inr (.inr (.inr rfl))); omega)) t5.size
      have C5 : Hid (ChB (DB dg q g h) w w5) := CB.out.trans (ChB.of_tch (q := q) ⟨t5.os, t5.tape, t5.output, t5.size, t5.block⟩ : ChB (PB q g h) w3 w5) (fun i hi hS => .inr hS)
      have hs5 := t5.size
      rw [HZ.out] at d5
      have D5 := hid d5
      clear d5 t5 HZ CB
      go_wp2_with fail
      go_roundw
      case rel => exact ⟨j + 1, by go_num, by rw [EN.out]; omega, b5, D5.out, r5, C5.out, by have : w3.heap.size ≤ w5.heap.size := hs5; omega⟩
      case measure => simp [intOf]; omega
    · have ez : zs.drop j = [] := List.drop_eq_nil_of_le (by rw [EN.out]; omega)
      rw [ez] at d2
      clear ez
      have PP : Hid (RstPost dg q g h kind l k m w (.returned (.tuple #[])) wr) := ⟨rfl, ⟨b2, d2, ap.out.1, ap.out.2.1, ap.out.2.2, di.out⟩, ch2⟩
      go_wp2_with fail
      go_end0
      exact PP.out

set_option maxRecDepth 100000 in
set_option maxHeartbeats 2000000 in
theorem dg_do (d : DgV w dg q g h kind l k m zs) (o x wt : Int) (hm : m ≤ 100000) (hz : zs.length + 1 ≤ m) (hz2 : zs.length ≤ 2000) (bx : In64 x) (bw : In64 wt) :
    Calls Tryz.prog 36 #[.pointer (some ⟨dg, 0, none⟩), .agg #[.int .i64 o, .int .i64 x, .int .i64 wt]] w (DgPost dg q g h kind l k m (dgDo l k zs o x wt) w) := by
  have hba : Below w.heap.size w (w.alloc (.cells #[.int .i64 o, .int .i64 x, .int .i64 wt] 94)) := (Below.refl _ _).alloc (Nat.le_refl _) _
  have d1 := d.below hba (Nat.le_refl _)
  have ca := ChB.of_below (S := DB dg q g h) hba
  by_cases h1 : o = 1
  · subst h1
    have e : dgDo l k zs 1 x wt = ((comL l k zs).1, ((comL l k zs).2.length : Int)) := rfl
    have C := hid (dg_compress d1 hm hz hz2)
    rw [e]
    generalize comL l k zs = Z at *
    clear e d d1 hba
    go_enter Tryz.func36, Tryz.ntmps36
    go_wp2_with fail
    refine C.out.mono ?_
    rintro e w2 hP
    have hP2 := hid (hP.after (.inl rfl) ca)
    obtain ⟨rfl, _⟩ := hP
    go_wp2_with fail
    go_ret
    exact hP2.out
  by_cases h2 : o = 2
  · subst h2
    have e : dgDo l k zs 2 x wt = ([], 0) := rfl
    have C := hid (dg_reset d1 hm hz2)
    rw [e]
    clear e d d1 hba h1
    go_enter Tryz.func36, Tryz.ntmps36
    go_wp2_with fail
    refine C.out.mono ?_
    rintro e w2 ⟨rfl, d2, c2⟩
    have hP2 : Hid (DgPost dg q g h kind l k m ([], 0) w (.returned (.int .i64 0)) w2) := ⟨rfl, h, d2, .inl rfl, ca.trans c2 (fun _ _ e => e)⟩
    go_wp2_with fail
    go_ret
    exact hP2.out
  · have e : dgDo l k zs o x wt = dgIns l k zs x wt := by unfold dgDo; rw [if_neg h1, if_neg h2]
    have C := hid (dg_insert d1 x wt hm hz hz2 bx bw)
    rw [e]
    have q1 : (o == 1) = false := by simpa using h1
    have q2 : (o == 2) = false := by simpa using h2
    generalize dgIns l k zs x wt = Z at *
    clear e d d1 hba h1 h2
    go_enter Tryz.func36, Tryz.ntmps36
    go_wp2_with fail
    refine C.out.mono ?_
    rintro e w2 hP
    have hP2 := hid (hP.after (.inl rfl) ca)
    obtain ⟨rfl, _⟩ := hP
    go_wp2_with fail
    go_ret
    exact hP2.out
end
end Go.Proofs.YthdljlclcepnhaaGreat
