/- The walk of press.Light. -/
import Derived.Test.YtbbkfjbaocpknaaGreatPr2
namespace Go.Proofs.YtbbkfjbaocpknaaGreat
open Go.RowKit Nl

attribute [local go_sem] Oper.semAt_some

namespace Nl
def heavyB (l most : Int) (x : Int × Int) : Bool := kidsB l x.1 && decide (most < x.2)
def lightB (l : Int) (zs : List (Int × Int)) (most : Int) : Bool := zs.all (fun x => !heavyB l most x)
end Nl
def BadLast (l most : Int) (pre : List N64) : Prop := ∃ ini x, pre = ini ++ [x] ∧ heavyB l most x.1 = true

set_option maxRecDepth 100000 in
set_option maxHeartbeats 2000000 in
theorem p_Light {w : World} {q g h m : Nat} {kind l : Int} {zs : List Nd} (k : Int) (hk : isK k = true) (d : PoolV w q g h kind l m zs) (hm : m ≤ 100000) :
    Calls Tryz.prog 102 #[.pointer (some ⟨q, 0, none⟩), .int .i64 k] w fun e w' => e = .returned (.bool (lightB l zs (capV (sumL zs) k))) ∧ Below w.heap.size w w' := by
  have hroll := d.roll
  have hs := hroll.sum
  have bl : In64 l := ⟨by have := hroll.l1; omega, by have := hroll.l2; omega⟩
  have bk : In64 k := by simp only [isK, decide_eq_true_eq] at hk; exact ⟨by omega, by omega⟩
  have Wg := hid (fun W : World => p_wrong q k W)
  simp only [hk, if_true] at Wg
  have C0 := fun W : World => f_cap (sumL zs) k W ⟨by omega, by omega⟩ bk
  obtain ⟨most, emost⟩ : ∃ x, capV (sumL zs) k = x := ⟨_, rfl⟩
  simp only [emost] at C0
  rw [emost]
  have C := hid C0
  have PX := Blk.new w #[.pointer (some ⟨q, 0, none⟩)] 110
  clear emost C0 hk hs
  refine (callsIn_wide (n := 5)).1 ?_
  refine callsIn_of_wp_marks Tryz.func102 rfl trivial ?_ rfl
  simp only [Tryz.ntmps102, List.size_toArray, List.length_cons, List.length_nil, Nat.reduceAdd, Nat.reduceSub, Array.replicate_succ, Array.replicate_zero, List.push_toArray, List.append_toArray, List.nil_append, List.cons_append]
  have hba : Below w.heap.size w ((w.alloc (.cells #[.pointer (some ⟨q, 0, none⟩)] 110)).alloc (.cells #[.bool false] 4)) := ((Below.refl _ _).alloc (Nat.le_refl _) _).alloc (by simp) _
  have d1 := d.below hba (Nat.le_refl _)
  gi_wp2_with (first
    | (refine ⟨trivial, ?_⟩; gi_at_call 94; refine (callsIn_wide.2 (Wg.out _)).mono ?_; rintro e W1 ⟨rfl, rfl⟩)
    | (refine ⟨trivial, ?_⟩; gi_at_call 67; refine (callsIn_wide.2 (pl_total d1)).mono ?_; rintro e W1 ⟨rfl, rfl⟩)
    | (refine ⟨trivial, ?_⟩; gi_at_call 148; refine (callsIn_wide.2 (C.out _)).mono ?_; rintro e W1 ⟨rfl, rfl⟩)
    | (refine ⟨trivial, ?_⟩; gi_at_call 160; refine (callsIn_wide.2 (pl_each _ _)).mono ?_; rintro e W2 ⟨rfl, rfl⟩))
  have hbw : Below w.heap.size w ((((w.alloc (.cells #[.pointer (some ⟨q, 0, none⟩)] 110)).alloc (.cells #[.bool false] 4)).alloc (.cells #[.int .i64 most] 3)).alloc (.cells #[.pointer (some ⟨q, 0, none⟩)] 110)) := (hba.alloc (by simp; omega) _).alloc (by simp; omega) _
  have hsz0 : ((((w.alloc (.cells #[.pointer (some ⟨q, 0, none⟩)] 110)).alloc (.cells #[.bool false] 4)).alloc (.cells #[.int .i64 most] 3)).alloc (.cells #[.pointer (some ⟨q, 0, none⟩)] 110)).heap.size = w.heap.size + 4 := by simp
  have B0 : Blk ((((w.alloc (.cells #[.pointer (some ⟨q, 0, none⟩)] 110)).alloc (.cells #[.bool false] 4)).alloc (.cells #[.int .i64 most] 3)).alloc (.cells #[.pointer (some ⟨q, 0, none⟩)] 110)) w.heap.size #[.pointer (some ⟨q, 0, none⟩)] 110 := ((PX.alloc _).alloc _).alloc _
  have B1 : Blk ((((w.alloc (.cells #[.pointer (some ⟨q, 0, none⟩)] 110)).alloc (.cells #[.bool false] 4)).alloc (.cells #[.int .i64 most] 3)).alloc (.cells #[.pointer (some ⟨q, 0, none⟩)] 110)) (w.heap.size + 1) #[.bool false] 4 := by
    have h := ((Blk.new (w.alloc (.cells #[.pointer (some ⟨q, 0, none⟩)] 110)) #[.bool false] 4).alloc (.cells #[.int .i64 most] 3)).alloc (.cells #[.pointer (some ⟨q, 0, none⟩)] 110)
    simpa using h
  have B2 : Blk ((((w.alloc (.cells #[.pointer (some ⟨q, 0, none⟩)] 110)).alloc (.cells #[.bool false] 4)).alloc (.cells #[.int .i64 most] 3)).alloc (.cells #[.pointer (some ⟨q, 0, none⟩)] 110)) (w.heap.size + 1 + 1) #[.int .i64 most] 3 := by
    have h := (Blk.new ((w.alloc (.cells #[.pointer (some ⟨q, 0, none⟩)] 110)).alloc (.cells #[.bool false] 4)) #[.int .i64 most] 3).alloc (.cells #[.pointer (some ⟨q, 0, none⟩)] 110)
    simpa using h
  have B3 : Blk ((((w.alloc (.cells #[.pointer (some ⟨q, 0, none⟩)] 110)).alloc (.cells #[.bool false] 4)).alloc (.cells #[.int .i64 most] 3)).alloc (.cells #[.pointer (some ⟨q, 0, none⟩)] 110)) (w.heap.size + 1 + 1 + 1) #[.pointer (some ⟨q, 0, none⟩)] 110 := by
    have h := Blk.new (((w.alloc (.cells #[.pointer (some ⟨q, 0, none⟩)] 110)).alloc (.cells #[.bool false] 4)).alloc (.cells #[.int .i64 most] 3)) #[.pointer (some ⟨q, 0, none⟩)] 110
    simpa using h
  have d2 := d.below hbw (Nat.le_refl _)
  clear d d1 PX hba Wg C
  generalize ((((w.alloc (.cells #[.pointer (some ⟨q, 0, none⟩)] 110)).alloc (.cells #[.bool false] 4)).alloc (.cells #[.int .i64 most] 3)).alloc (.cells #[.pointer (some ⟨q, 0, none⟩)] 110)) = w0 at *
  have p0 : w0.cell? ⟨w.heap.size + 1 + 1 + 1, 0, none⟩ = some (.pointer (some ⟨q, 0, none⟩)) := B3.cell 0
  have st : Steady (fun _ k => w0.heap.size ≤ k) := fun _ _ _ _ _ _ _ h => h
  refine wpIn_rangeFunc_ownG (F := Fence.wide) rfl (by decide) (gf := 192) (lb := #[.pointer (some ⟨w.heap.size + 1 + 1 + 1, 0, none⟩)]) rfl trivial (enters_of Tryz.func192 (by kernel_rfl) rfl)
    (each_stops (Safe := fun _ k => w0.heap.size ≤ k) 4 (by decide) (w.heap.size + 1 + 1 + 1) (by omega) p0 d2 hm st (fun W _ k hk _ => hk)) (fun h k => h.trans k) (fun W l o o' _ h hc _ => KpS.putObj st W l o o' h hc) (Below.refl _ _) (fun _ => rfl)
    (fun pre W => (PoolV W q g h kind l m zs ∧ Blk W w.heap.size #[.pointer (some ⟨q, 0, none⟩)] 110 ∧ Blk W (w.heap.size + 1) #[.bool false] 4 ∧ Blk W (w.heap.size + 1 + 1) #[.int .i64 most] 3 ∧ ∀ x ∈ pre, heavyB l most x.1 = false) ∧ Below w.heap.size w W)
    (fun c pre W => (c = .ret ∧ BadLast l most pre ∧ Blk W (w.heap.size + 1) #[.bool false] 4) ∧ Below w.heap.size w W)
    (OwnFrom.and (Own.from (fun s A B row hs hg hr => ⟨hs.1.grown hg hr, (grownBy_keeps_cells hg hr hs.2.1 rfl).trans hs.2.1, (grownBy_keeps_cells hg hr hs.2.2.1 rfl).trans hs.2.2.1, (grownBy_keeps_cells hg hr hs.2.2.2.1 rfl).trans hs.2.2.2.1, hs.2.2.2.2⟩) _) (ownFrom_below (Nat.le_refl _) (by omega)))
    (fun c => OwnFrom.and (Own.from (fun s A B row hs hg hr => ⟨hs.1, hs.2.1, (grownBy_keeps_cells hg hr hs.2.2 rfl).trans hs.2.2⟩) _) (ownFrom_below (Nat.le_refl _) (by omega)))
    ⟨⟨d2, B0, B1, B2, by simp⟩, hbw⟩
    (fun x : N64 => { tmps := #[.pointer (some ⟨q, 0, none⟩), .int .i64 k, .pointer (some ⟨w.heap.size, 0, none⟩), undef, .pointer (some ⟨w.heap.size + 1, 0, none⟩), .pointer (some ⟨w.heap.size + 1 + 1, 0, none⟩), .int .i64 x.1.1, .int .i64 x.1.2, undef, undef, undef, .pointer (some ⟨q, 0, none⟩), .int .i64 k, .int .i64 0, .bool false, .pointer (some ⟨q, 0, none⟩), .int .i64 (sumL zs), .int .i64 k, .int .i64 most, .pointer (some ⟨q, 0, none⟩), .func (.func 192) #[] #[.pointer (some ⟨w.heap.size + 1 + 1 + 1, 0, none⟩)], .int .i64 x.1.1, .int .i64 x.1.2, undef, undef, undef, undef, undef, undef, undef, undef, undef, undef, undef, undef, undef, undef], defers := [] }) ?assign ?body ?done ?stop
  case assign =>
    intro l x W K hK
    gi_wp2
    exact hK
  case body =>
    rintro l0 pre ⟨⟨a, c⟩, hx⟩ W ⟨⟨dW, b0, b1, b2, hgood⟩, hB⟩ hpl
    have x0 : W.cell? ⟨w.heap.size, 0, none⟩ = some (.pointer (some ⟨q, 0, none⟩)) := b0.cell 0
    have x1 : W.cell? ⟨w.heap.size + 1, 0, none⟩ = some (.bool false) := b1.cell 0
    have x2 : W.cell? ⟨w.heap.size + 1 + 1, 0, none⟩ = some (.int .i64 most) := b2.cell 0
    have f1 := b1.free 0
    have K := hid (fun W : World => t_kids l a W bl hx.1)
    obtain ⟨kk, ek⟩ : ∃ kk, kidsB l a = kk := ⟨_, rfl⟩
    rw [ek] at K
    have EK := hid ek
    have hgo : ∀ y : N64, y ∈ pre ++ [(⟨(a, c), hx⟩ : N64)] → heavyB l most (a, c) = false → heavyB l most y.1 = false := fun y hy hh => by
      rcases List.mem_append.1 hy with h | h
      · exact hgood y h
      · rw [List.mem_singleton] at h; rw [h]; exact hh
    have HG := hid hgo
    dsimp only
    clear ek hgo hgood
    cases kk
    · have hh : heavyB l most (a, c) = false := by unfold heavyB; rw [EK.out]; rfl
      gi_wp2_with (first
        | (refine ⟨trivial, ?_⟩; gi_at_call 65; refine (CallsIn.inRound l0 (callsIn_wide.2 (pl_l dW))).mono ?_; rintro e W3 ⟨rfl, rfl⟩)
        | (refine ⟨trivial, ?_⟩; gi_at_call 161; refine (CallsIn.inRound l0 (callsIn_wide.2 (K.out _))).mono ?_; rintro e W3 ⟨rfl, rfl⟩))
      exact ⟨KeepsFrom.refl _ _, ⟨Nat.le_refl _, fun _ _ ho _ hs => ⟨ho, hs⟩⟩, ⟨dW, b0, b1, b2, fun y hy => HG.out y hy hh⟩, hB⟩
    · by_cases hc : most < c
      · have hh : heavyB l most (a, c) = true := by unfold heavyB; rw [EK.out]; simpa using hc
        gi_wp2_with (first
          | (refine ⟨trivial, ?_⟩; gi_at_call 65; refine (CallsIn.inRound l0 (callsIn_wide.2 (pl_l dW))).mono ?_; rintro e W3 ⟨rfl, rfl⟩)
          | (refine ⟨trivial, ?_⟩; gi_at_call 161; refine (CallsIn.inRound l0 (callsIn_wide.2 (K.out _))).mono ?_; rintro e W3 ⟨rfl, rfl⟩))
        have b1' := b1.set 0 (.bool false)
        refine ⟨(KeepsOthers.setCell _ _ _).from _, ⟨rfl, ⟨pre, ⟨(a, c), hx⟩, rfl, hh⟩, by simpa using b1'⟩, hB.setCell (p := ⟨w.heap.size + 1, 0, none⟩) (by simp) _⟩
      · have hh : heavyB l most (a, c) = false := by unfold heavyB; rw [EK.out]; simp; omega
        gi_wp2_with (first
          | (refine ⟨trivial, ?_⟩; gi_at_call 65; refine (CallsIn.inRound l0 (callsIn_wide.2 (pl_l dW))).mono ?_; rintro e W3 ⟨rfl, rfl⟩)
          | (refine ⟨trivial, ?_⟩; gi_at_call 161; refine (CallsIn.inRound l0 (callsIn_wide.2 (K.out _))).mono ?_; rintro e W3 ⟨rfl, rfl⟩))
        exact ⟨KeepsFrom.refl _ _, ⟨Nat.le_refl _, fun _ _ ho _ hs => ⟨ho, hs⟩⟩, ⟨dW, b0, b1, b2, fun y hy => HG.out y hy hh⟩, hB⟩
  case done =>
    rintro D ys W hD hys ⟨⟨dW, b0, b1, b2, hgood⟩, hB⟩ hK
    have x1 : W.cell? ⟨w.heap.size + 1, 0, none⟩ = some (.bool false) := b1.cell 0
    have f1 := b1.free 0
    have hl : Hid (lightB l zs most = true) := by
      show _ = _
      have e : ys.map (·.1) = zs := hys
      rw [← e]
      unfold lightB
      rw [List.all_eq_true]
      intro x hx
      obtain ⟨y, hy, rfl⟩ := List.mem_map.1 hx
      rw [hgood y hy]; rfl
    gi_wp2
    have hK3 : (W.setCell ⟨w.heap.size + 1, 0, none⟩ (.bool true)).heap[D]? = some (.deferred (some [])) := (KeepsOthers.setCell W ⟨w.heap.size + 1, 0, none⟩ (.bool true)).same D _ hK rfl
    refine ⟨by simp, .inl ⟨_, _, rfl, run_takeDeferred hK3, ?_⟩⟩
    have c5 := cell_kept (World.cell?_setCell_same' W ⟨w.heap.size + 1, 0, none⟩ (.bool true) (by rw [x1]; rfl)) (grownBy_putObj' _ D (.deferred none)) (fun r e => by cases e; exact ⟨_, hK3, rfl⟩)
    refine ⟨.bool true, by simp [results, Tryz.f102, go_sem, c5], by rw [hl.out], ?_⟩
    exact (hB.setCell (p := ⟨w.heap.size + 1, 0, none⟩) (by simp) _).trans (belowK_b (w := w) (Nat.le_refl _) _ D _ _ (by omega) hK3 rfl rfl)
  case stop =>
    rintro D c pre W hD hpre ⟨⟨rfl, ⟨ini, x, rfl, hx⟩, b1⟩, hB⟩ hK
    have x1 : W.cell? ⟨w.heap.size + 1, 0, none⟩ = some (.bool false) := b1.cell 0
    have hl : Hid (lightB l zs most = false) := by
      show _ = _
      obtain ⟨r, er⟩ := hpre
      unfold lightB
      rw [List.all_eq_false]
      refine ⟨x.1, ?_, by rw [hx]; decide⟩
      rw [← er]; simp
    gi_wp2
    refine ⟨by simp, .inl ⟨_, _, rfl, run_takeDeferred hK, ?_⟩⟩
    have c5 := cell_kept x1 (grownBy_putObj' _ D (.deferred none)) (fun r e => by cases e; exact ⟨_, hK, rfl⟩)
    refine ⟨.bool false, by simp [results, Tryz.f102, go_sem, c5], by rw [hl.out], ?_⟩
    exact hB.trans (belowK_b (w := w) (Nat.le_refl _) W D _ _ (by omega) hK rfl rfl)
end Go.Proofs.YtbbkfjbaocpknaaGreat
