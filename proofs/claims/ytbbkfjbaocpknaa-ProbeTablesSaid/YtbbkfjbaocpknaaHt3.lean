/- The walks of the reference's table: New, put. -/
import Derived.Test.YtbbkfjbaocpknaaHt2
namespace Go.Proofs.Ytbbkfjbaocpknaa
open Go.RowKit Nl

theorem ht_setId (xs : List Nd) (k : Nat) (c : Int) : ncells (xs.set k (c, (xs.getD k (0, 0)).2)) = (ncells xs).set (k * 2) (.int .i64 c) := by
  induction xs generalizing k with
  | nil => simp [ncells]
  | cons x r ih =>
    cases k with
    | zero => simp [ncells]
    | succ k =>
      have := ih k
      simp only [List.set_cons_succ, ncells, List.getD_cons_succ, show (k + 1) * 2 = k * 2 + 1 + 1 by omega]
      rw [this]
theorem OwnN.storeJ {w : World} {B g n cap : Nat} {xs : List Nd} (h : OwnN w B (.slice (some ⟨g, 0, none⟩) n cap) xs) (k : Nat) (a : Int) : OwnN (w.setCell ⟨g, k * 2, none⟩ (.int .i64 a)) B (.slice (some ⟨g, 0, none⟩) n cap) (xs.set k (a, cntA xs k)) := by
  unfold OwnN cntA
  rw [ht_setId, List.length_set]
  have hn : xs.length = n := h.rd.len.1
  subst hn
  exact (World.ownsRow.stored h (k * 2) (.int .i64 a)).1
theorem OwnN.storeK {w : World} {B g n cap : Nat} {xs : List Nd} {a : Int} (k : Nat) (hk : k < xs.length) (h : OwnN w B (.slice (some ⟨g, 0, none⟩) n cap) (xs.set k (a, cntA xs k))) (c : Int) : OwnN (w.setCell ⟨g, k * 2 + 1, none⟩ (.int .i64 c)) B (.slice (some ⟨g, 0, none⟩) n cap) (xs.set k (a, c)) := by
  have h2 := h.store k c
  have e : (xs.set k (a, cntA xs k)).set k (((xs.set k (a, cntA xs k)).getD k (0, 0)).1, c) = xs.set k (a, c) := by
    rw [List.set_set]
    congr 1
    simp [List.getD, hk]
  rwa [e] at h2
theorem OwnN.cells {w : World} {B g n cap : Nat} {xs : List Nd} (h : OwnN w B (.slice (some ⟨g, 0, none⟩) n cap) xs) {k : Nat} (hk : k < xs.length) : w.cell? ⟨g, k * 2, none⟩ = some (.int .i64 (idA xs k)) ∧ w.cell? ⟨g, k * 2 + 1, none⟩ = some (.int .i64 (cntA xs k)) := by
  rcases h.shape with ⟨h1, h2⟩ | ⟨g', cap', hv, -, -, -, hc⟩
  · simp at h1
  · simp only [Value.slice.injEq, Option.some.injEq, Addr.mk.injEq, and_true, true_and] at hv
    obtain ⟨rfl, -⟩ := hv
    exact hc k hk
def IsTab (l : Int) (b : Nat) (xs : List Nd) (w : World) (e : Ending) (w' : World) : Prop := ∃ v, e = .returned (.agg #[.int .i64 l, .int .i64 b, v]) ∧ OwnN w' w.heap.size v xs ∧ Below w.heap.size w w'
set_option maxRecDepth 100000 in
set_option maxHeartbeats 2000000 in
theorem h_put {w : World} {l : Int} {b : Nat} {v : Value} {xs : List Nd} (a c : Int) (hr : RdN w v xs) (T : Tab b xs) (hb1 : 1 ≤ b) (hb : b ≤ 40) {e : Nat} (he : e < xs.length) (hs : stopB xs a e = true) (bi : 1 ≤ a ∧ a ≤ 9223372036854775807) (bc : In64 c) (bs : In64 (cntA xs (lookI xs b a) + c)) (hcl : xs.length < 1000000) :
    Calls Try.prog 50 #[.agg #[.int .i64 l, .int .i64 b, v], .agg #[.int .i64 a, .int .i64 c]] w (IsTab l b (hput b xs (a, c)) w) := by
  obtain ⟨p, cap, rfl⟩ := hr.val
  have h0 := T.pos_len
  have hli := (look_spec T a he hs).2.2.1
  have HP : Hid (hput b xs (a, c) = xs.set (lookI xs b a) (a, cntA xs (lookI xs b a) + c)) := rfl
  have F := hid (fun W (y : RdN W (.slice p xs.length cap) xs) => h_find (l := l) a y T hb1 hb he hs bi)
  have X1 := ((Blk.new w #[.int .i64 l, .int .i64 b, .slice p xs.length cap] 31).alloc (.cells #[.int .i64 a, .int .i64 c] 40)).alloc (.cells #[.int .i64 0, .int .i64 0, .slice none 0 0] 31)
  have Y1 := (Blk.new (w.alloc (.cells #[.int .i64 l, .int .i64 b, .slice p xs.length cap] 31)) #[.int .i64 a, .int .i64 c] 40).alloc (.cells #[.int .i64 0, .int .i64 0, .slice none 0 0] 31)
  have Z1 := Blk.new ((w.alloc (.cells #[.int .i64 l, .int .i64 b, .slice p xs.length cap] 31)).alloc (.cells #[.int .i64 a, .int .i64 c] 40)) #[.int .i64 0, .int .i64 0, .slice none 0 0] 31
  have hba : Below w.heap.size w (((w.alloc (.cells #[.int .i64 l, .int .i64 b, .slice p xs.length cap] 31)).alloc (.cells #[.int .i64 a, .int .i64 c] 40)).alloc (.cells #[.int .i64 0, .int .i64 0, .slice none 0 0] 31)) := (((Below.refl _ _).alloc (Nat.le_refl _) _).alloc (by simp) _).alloc (by simp; omega) _
  have r1 := hr.below hba (Nat.le_refl _)
  simp only [World.size_alloc] at Y1 Z1
  generalize eq : lookI xs b a = q at *
  generalize lookD xs b a = dd at *
  clear hr hs he T eq
  go_enter Try.func50, Try.ntmps50
  go_wp2_with fail
  generalize (((w.alloc (.cells #[.int .i64 l, .int .i64 b, .slice p xs.length cap] 31)).alloc (.cells #[.int .i64 a, .int .i64 c] 40)).alloc (.cells #[.int .i64 0, .int .i64 0, .slice none 0 0] 31)) = w1 at *
  refine (F.out _ r1).mono ?_
  rintro e w2 ⟨rfl, hb2⟩
  have X2 := X1.below hb2 (Nat.le_refl _)
  have Y2 := Y1.below hb2 (Nat.le_refl _)
  have Z2 := Z1.below hb2 (Nat.le_refl _)
  have r2 := r1.below hb2 (Nat.le_refl _)
  have hbw := hba.trans (hb2.mono hba.size)
  have hz2 := Z2.lt
  clear X1 Y1 Z1 r1 hba F hb2
  have x0 : w2.cell? ⟨w.heap.size, 0, none⟩ = some (.int .i64 l) := X2.cell 0
  have x1 : w2.cell? ⟨w.heap.size, 1, none⟩ = some (.int .i64 b) := X2.cell 1
  have x2 : w2.cell? ⟨w.heap.size, 2, none⟩ = some (.slice p xs.length cap) := X2.cell 2
  go_upto_region 3 with fail
  go_upto_region 4 with (at_builtin; refine appendsN (B := w2.heap.size) (xs := []) _ _ (OwnN.nil _ _) r2 (by simp; omega) (Nat.le_refl _) rfl rfl rfl rfl ?_; intro v3 w3 ho3 hg3)
  have hb3 : Below w2.heap.size w2 w3 := (Below.refl w2.heap.size w2).grown hg3 (Nat.le_refl _) (OwnN.nil w2 w2.heap.size).lt
  rw [List.nil_append] at ho3
  have X3 := X2.below hb3 (Nat.le_refl _)
  have Y3 := Y2.below hb3 (Nat.le_refl _)
  have Z3 := Z2.below hb3 (Nat.le_refl _)
  have hbw3 := hbw.trans (hb3.mono hbw.size)
  rcases ho3.shape with ⟨-, hz⟩ | ⟨g3, cap3, rfl, hg3B, hg3l, hcap3, -⟩
  · exfalso; rw [hz] at h0; simp at h0
  have f3 := fun k => World.ownsRow.frozenAt ho3 k
  obtain ⟨c0, c1⟩ := ho3.cells hli
  clear X2 Y2 Z2 r2 hbw hg3 hb3 x0 x1 x2
  have y0 : w3.cell? ⟨w.heap.size + 1, 0, none⟩ = some (.int .i64 a) := Y3.cell 0
  have fz := f3 (q * 2)
  have ne1 : w.heap.size ≠ g3 := by omega
  have ne2 : w.heap.size + 1 ≠ g3 := by omega
  have ne3 : w.heap.size + 1 + 1 ≠ g3 := by omega
  have hB3 : w.heap.size ≤ g3 := by omega
  have hlq : (q : Int) < (xs.length : Int) := by omega
  clear hb1 hb h0 hcl bi bc hg3l hcap3
  as_aux_lemma =>
    go_upto_region 5 with fail
    have o4 := ho3.storeJ q a
    have f4 := World.ownsRow.frozenAt (show OwnN _ _ (.slice (some ⟨g3, 0, none⟩) (xs.set q (a, cntA xs q)).length cap3) (xs.set q (a, cntA xs q)) by rw [List.length_set]; exact o4) (q * 2 + 1)
    obtain ⟨d0, d1⟩ := o4.cells (k := q) (by simpa using hli)
    have e1 : cntA (xs.set q (a, cntA xs q)) q = cntA xs q := by rw [cntA_set _ _ _ _ hli, if_pos rfl]
    rw [e1] at d1
    have X4 := X3.set_other (q * 2) (.int .i64 a) ne1
    have Y4 := Y3.set_other (q * 2) (.int .i64 a) ne2
    have Z4 := Z3.set_other (q * 2) (.int .i64 a) ne3
    have hbw4 := hbw3.setCell (p := ⟨g3, q * 2, none⟩) hB3 (.int .i64 a)
    clear ho3 c0 c1 fz f3 X3 Y3 Z3 y0 hbw3 e1 d0
    obtain ⟨cc, ecc⟩ : ∃ cc, cntA xs q = cc := ⟨_, rfl⟩
    have HPC := hid (show hput b xs (a, c) = xs.set q (a, cc + c) by rw [HP.out, ecc])
    have o5 := fun u => o4.storeK q hli u
    rw [ecc] at d1 bs
    clear ecc HP o4
    generalize (w3.setCell ⟨g3, q * 2, none⟩ (.int .i64 a)) = w4 at *
    have y1 : w4.cell? ⟨w.heap.size + 1, 1, none⟩ = some (.int .i64 c) := Y4.cell 1
    have hw5 := IntWalk.i64_in (cc + c) bs
    have X5 := (X4.set_other (q * 2 + 1) (.int .i64 (cc + c)) ne1).drewN 1
    have Z5 := (Z4.set_other (q * 2 + 1) (.int .i64 (cc + c)) ne3).drewN 1
    have o6 := (o5 (cc + c)).drewN 1
    have hbw5 := (hbw4.setCell (p := ⟨g3, q * 2 + 1, none⟩) hB3 (.int .i64 (cc + c))).trans (below_drewN (Below.refl w.heap.size _) 1)
    clear X4 Z4 o5 hbw4
    as_aux_lemma =>
      go_region
      clear y1 d1 f4 Y4 hw5
      obtain ⟨w5, hw5⟩ : ∃ x, x = (w4.setCell ⟨g3, q * 2 + 1, none⟩ (.int .i64 (cc + c))).drewN 1 := ⟨_, rfl⟩
      rw [← hw5] at X5 Z5 o6 hbw5
      have hw5' : (w4.setCell ⟨g3, q * 2 + 1, none⟩ (.int .i64 (cc + c))).drew = w5 := hw5.symm
      rw [hw5']
      clear hw5 hw5'
      have x2 : w5.cell? ⟨w.heap.size, 2, none⟩ = some (.slice p xs.length cap) := X5.cell 2
      have x0 : w5.cell? ⟨w.heap.size, 0, none⟩ = some (.int .i64 l) := X5.cell 0
      have x1 : w5.cell? ⟨w.heap.size, 1, none⟩ = some (.int .i64 b) := X5.cell 1
      have fx := X5.free 2
      have z0 : w5.cell? ⟨w.heap.size + 1 + 1, 0, none⟩ = some (.int .i64 0) := Z5.cell 0
      have z1 : w5.cell? ⟨w.heap.size + 1 + 1, 1, none⟩ = some (.int .i64 0) := Z5.cell 1
      have z2 : w5.cell? ⟨w.heap.size + 1 + 1, 2, none⟩ = some (.slice none 0 0) := Z5.cell 2
      have g0 := Z5.free 0
      have g1 := Z5.free 1
      have g2 := Z5.free 2
      have V2 := (((Z5.set_other 2 (.slice (some ⟨g3, 0, none⟩) xs.length cap3) (g' := w.heap.size) (by omega)).set 0 (.int .i64 l)).set 1 (.int .i64 b)).set 2 (.slice (some ⟨g3, 0, none⟩) xs.length cap3)
      have q0 : World.cell? _ ⟨w.heap.size + 1 + 1, 0, none⟩ = some (.int .i64 l) := V2.cell 0
      have q1 : World.cell? _ ⟨w.heap.size + 1 + 1, 1, none⟩ = some (.int .i64 b) := V2.cell 1
      have q2 : World.cell? _ ⟨w.heap.size + 1 + 1, 2, none⟩ = some (.slice (some ⟨g3, 0, none⟩) xs.length cap3) := V2.cell 2
      have hK : ∀ W : World, (∀ k, k ≠ w.heap.size → k ≠ w.heap.size + 1 + 1 → W.heap[k]? = w5.heap[k]?) → OwnN W w2.heap.size (.slice (some ⟨g3, 0, none⟩) xs.length cap3) (xs.set q (a, cc + c)) := fun W h => o6.keep (fun k hk => by
        simp only [Value.ownBlock, Option.some.injEq] at hk
        exact h k (by omega) (by omega))
      have o9 := hK _ (fun k h1 h2 => (Below.heap_setCell _ ⟨w.heap.size + 1 + 1, 2, none⟩ (.slice (some ⟨g3, 0, none⟩) xs.length cap3) k h2).trans ((Below.heap_setCell _ ⟨w.heap.size + 1 + 1, 1, none⟩ (.int .i64 b) k h2).trans ((Below.heap_setCell _ ⟨w.heap.size + 1 + 1, 0, none⟩ (.int .i64 l) k h2).trans (Below.heap_setCell w5 ⟨w.heap.size, 2, none⟩ (.slice (some ⟨g3, 0, none⟩) xs.length cap3) k h1))))
      have hbz := (((hbw5.setCell (p := ⟨w.heap.size, 2, none⟩) (Nat.le_refl _) (.slice (some ⟨g3, 0, none⟩) xs.length cap3)).setCell (p := ⟨w.heap.size + 1 + 1, 0, none⟩) (by show w.heap.size ≤ w.heap.size + 1 + 1; omega) (.int .i64 l)).setCell (p := ⟨w.heap.size + 1 + 1, 1, none⟩) (by show w.heap.size ≤ w.heap.size + 1 + 1; omega) (.int .i64 b)).setCell (p := ⟨w.heap.size + 1 + 1, 2, none⟩) (by show w.heap.size ≤ w.heap.size + 1 + 1; omega) (.slice (some ⟨g3, 0, none⟩) xs.length cap3)
      go_wp2_with fail
      refine bodyPost_ret (v := .agg #[.int .i64 l, .int .i64 b, .slice (some ⟨g3, 0, none⟩) xs.length cap3]) (by simp [results, Try.results50, go_sem, q0, q1, q2]) rfl ⟨_, rfl, ?_, hbz⟩
      rw [HPC.out]
      exact o9.mono (by omega)
end Go.Proofs.Ytbbkfjbaocpknaa
