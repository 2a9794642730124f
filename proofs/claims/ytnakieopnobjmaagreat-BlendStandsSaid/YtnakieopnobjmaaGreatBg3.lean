/- The walks of the reference's Add of a bag, of Ends, and of Above. -/
import Derived.Test.YtnakieopnobjmaaGreatBg2
import Derived.Test.YtnakieopnobjmaaGreatPr8
namespace Go.Proofs.YtnakieopnobjmaaGreat
open Go.RowKit Nl

def BAddPost (l : Int) (r : List Nd × Int) (v0 : Value) (w : World) (e : Ending) (w' : World) : Prop :=
  ∃ v, e = .returned (.tuple #[.agg #[.int .i64 l, v], .int .i64 r.2]) ∧ RdN w' v r.1 ∧ (v = v0 ∨ ∀ k, v.ownBlock = some k → w.heap.size ≤ k) ∧ Below w.heap.size w w'

set_option maxRecDepth 100000 in
set_option maxHeartbeats 2000000 in
theorem b_add {w : World} {its : List Nd} {v : Value} (l x c : Int) (hr : RdN w v its) (hl : its.length ≤ 90000) (hb : Bag l its) (l1 : 1 ≤ l) (l2 : l ≤ 48) (bx : In64 x) (bc : In64 c) :
    Calls Tryz.prog 61 #[.agg #[.int .i64 l, v], .int .i64 x, .int .i64 c] w (BAddPost l (badd l its x c) v w) := by
  obtain ⟨x1, x2⟩ := bx
  obtain ⟨c1, c2⟩ := bc
  obtain ⟨p, cap, rfl⟩ := hr.val
  have Tt := hid (fun W (q : RdN W (.slice p its.length cap) its) => b_total l q hl hb.pos' hb.most)
  have hs0 := sumL_nonneg hb.pos'
  have hsm := hb.most
  obtain ⟨s, es⟩ : ∃ s, sumL its = s := ⟨_, rfl⟩
  have HB : Hid (badd l its x c = if leafB l x = false then (its, 3) else if c < 1 then (its, 4) else if 72057594037927935 - s < c then (its, 5) else (putR x c its, 0)) := by show _ = _; unfold badd; rw [es]
  have Pt := hid (fun W (q : RdN W (.slice p its.length cap) its) (h1 : 1 ≤ c) (h2 : s + c ≤ 72057594037927935) => b_put l x c q hl hb.pos' hb.rise hb.most ⟨by omega, by omega⟩)
  rw [es] at Tt hs0 hsm
  obtain ⟨P, eP⟩ : ∃ P, (2 : Int) ^ l.toNat = P := ⟨_, rfl⟩
  have hlf : leafB l x = decide (0 ≤ x ∧ x < P) := by
    unfold leafB; rw [eP]
    by_cases h : 0 ≤ x ∧ x < P
    · simp [h, l1, l2]
    · rw [decide_eq_false h]; exact decide_eq_false (fun q => h ⟨q.2.2.1, q.2.2.2⟩)
  have hPb : 1 ≤ P ∧ P ≤ 281474976710656 := by
    obtain ⟨n, rfl⟩ := Int.eq_ofNat_of_zero_le (show 0 ≤ l by omega)
    rw [← eP]; exact pow48 (by omega)
  have Pw := hid (fun W : World => r_power l W (by omega) l2)
  rw [eP] at Pw
  obtain ⟨N, eN⟩ : ∃ N, its.length = N := ⟨_, rfl⟩
  rw [eN] at hr Tt Pt ⊢
  have EN := hid eN
  clear hb eP es eN
  by_cases h1 : 0 ≤ x ∧ x < P
  · have hlf2 : leafB l x = true := by rw [hlf]; simpa using h1
    obtain ⟨h1, h2⟩ := h1
    rw [hlf2] at HB
    clear hlf hlf2
    by_cases h3 : c < 1
    · rw [show badd l its x c = (its, 4) by rw [HB.out]; simp [h3]]
      clear HB
      go_enter Tryz.func61, Tryz.ntmps61
      go_wp2_with fail
      refine (Pw.out _).mono ?_
      rintro e w' ⟨rfl, rfl⟩
      go_wp2_with fail
      exact bodyPost_ret (v := .tuple #[.agg #[.int .i64 l, .slice p N cap], .int .i64 4]) (by simp [results, Tryz.results61, go_sem]) rfl ⟨_, rfl, hr.below (((Below.refl _ _).alloc (Nat.le_refl _) _).alloc (by simp) _) (Nat.le_refl _), .inl rfl, ((Below.refl _ _).alloc (Nat.le_refl _) _).alloc (by simp) _⟩
    · have X := (Blk.new w #[.int .i64 l, .slice p N cap] 49).alloc (.cells #[.int .i64 0, .slice none 0 0] 49)
      have Y : Blk ((w.alloc (.cells #[.int .i64 l, .slice p N cap] 49)).alloc (.cells #[.int .i64 0, .slice none 0 0] 49)) (w.heap.size + 1) #[.int .i64 0, .slice none 0 0] 49 := by
        have h := Blk.new (w.alloc (.cells #[.int .i64 l, .slice p N cap] 49)) #[.int .i64 0, .slice none 0 0] 49
        simpa using h
      have hba : Below w.heap.size w ((w.alloc (.cells #[.int .i64 l, .slice p N cap] 49)).alloc (.cells #[.int .i64 0, .slice none 0 0] 49)) := ((Below.refl _ _).alloc (Nat.le_refl _) _).alloc (by simp) _
      have hsx : ((w.alloc (.cells #[.int .i64 l, .slice p N cap] 49)).alloc (.cells #[.int .i64 0, .slice none 0 0] 49)).heap.size = w.heap.size + 2 := by simp
      have hr1 := hr.below hba (Nat.le_refl _)
      by_cases h4 : 72057594037927935 - s < c
      · rw [show badd l its x c = (its, 5) by rw [HB.out]; simp [h3, h4]]
        clear HB Pt
        go_enter Tryz.func61, Tryz.ntmps61
        go_wp2_with fail
        refine (Pw.out _).mono ?_
        rintro e w' ⟨rfl, rfl⟩
        go_wp2_with fail
        refine (Tt.out _ hr1).mono ?_
        rintro e w1 ⟨rfl, hb1⟩
        have hs1 := hb1.size
        have hw1 : w.heap.size < w1.heap.size := by omega
        have hw2 : w.heap.size + 1 < w1.heap.size := by omega
        have X1 := X.below hb1 (Nat.le_refl _)
        have Y1 := Y.below hb1 (Nat.le_refl _)
        have hx0 : w1.cell? ⟨w.heap.size, 0, none⟩ = some (.int .i64 l) := X1.cell 0
        have hx1 : w1.cell? ⟨w.heap.size, 1, none⟩ = some (.slice p N cap) := X1.cell 1
        have hy0 : w1.cell? ⟨w.heap.size + 1, 0, none⟩ = some (.int .i64 0) := Y1.cell 0
        have hy1 : w1.cell? ⟨w.heap.size + 1, 1, none⟩ = some (.slice none 0 0) := Y1.cell 1
        have hf0 := X1.free 0
        have hf1 := X1.free 1
        have hg0 := Y1.free 0
        have hg1 := Y1.free 1
        have hbw : Below w.heap.size w w1 := hba.trans (hb1.mono (by omega))
        go_wp2_with fail
        have Z := (Y1.set 0 (.int .i64 l)).set 1 (.slice p N cap)
        have z0 : World.cell? _ ⟨w.heap.size + 1, 0, none⟩ = some (.int .i64 l) := Z.cell 0
        have z1 : World.cell? _ ⟨w.heap.size + 1, 1, none⟩ = some (.slice p N cap) := Z.cell 1
        have hbz := (hbw.setCell (p := ⟨w.heap.size + 1, 0, none⟩) (Nat.le_succ _) (.int .i64 l)).setCell (p := ⟨w.heap.size + 1, 1, none⟩) (Nat.le_succ _) (.slice p N cap)
        exact bodyPost_ret (v := .tuple #[.agg #[.int .i64 l, .slice p N cap], .int .i64 5]) (by simp [results, Tryz.results61, go_sem, z0, z1]) rfl ⟨_, rfl, hr.below hbz (Nat.le_refl _), .inl rfl, hbz⟩
      · rw [show badd l its x c = (putR x c its, 0) by rw [HB.out]; simp [h3, h4]]
        clear HB
        have Pt2 := hid (fun W q => Pt.out W q (by omega) (by omega))
        clear Pt
        go_enter Tryz.func61, Tryz.ntmps61
        go_wp2_with fail
        refine (Pw.out _).mono ?_
        rintro e w' ⟨rfl, rfl⟩
        go_wp2_with fail
        refine (Tt.out _ hr1).mono ?_
        rintro e w1 ⟨rfl, hb1⟩
        have hs1 := hb1.size
        have hw1 : w.heap.size < w1.heap.size := by omega
        have X1 := X.below hb1 (Nat.le_refl _)
        have Y1 := Y.below hb1 (Nat.le_refl _)
        have hx0 : w1.cell? ⟨w.heap.size, 0, none⟩ = some (.int .i64 l) := X1.cell 0
        have hx1 : w1.cell? ⟨w.heap.size, 1, none⟩ = some (.slice p N cap) := X1.cell 1
        have hf0 := X1.free 0
        have hf1 := X1.free 1
        have hbw : Below w.heap.size w w1 := hba.trans (hb1.mono (by omega))
        have hr2 := hr1.below hb1 (Nat.le_refl _)
        go_wp2_with fail
        refine (Pt2.out _ hr2).mono ?_
        rintro e w2 ⟨v2, rfl, ho2, hb2⟩
        obtain ⟨zs, ez⟩ : ∃ zs, putR x c its = zs := ⟨_, rfl⟩
        rw [ez] at ho2
        have Ez := hid ez
        clear ez hx0 hx1 hf0 hf1
        obtain ⟨p2, cap2, rfl⟩ := ho2.val
        have hs2 := hb2.size
        have hw1 : w.heap.size < w2.heap.size := by omega
        have hw2 : w.heap.size + 1 < w2.heap.size := by omega
        have Y2 := Y1.below hb2 (Nat.le_refl _)
        have hy0 : w2.cell? ⟨w.heap.size + 1, 0, none⟩ = some (.int .i64 0) := Y2.cell 0
        have hy1 : w2.cell? ⟨w.heap.size + 1, 1, none⟩ = some (.slice none 0 0) := Y2.cell 1
        have hg0 := Y2.free 0
        have hg1 := Y2.free 1
        have hbw2 : Below w.heap.size w w2 := hbw.trans (hb2.mono (by omega))
        go_wp2_with fail
        have Z := (Y2.set 0 (.int .i64 l)).set 1 (.slice p2 zs.length cap2)
        have z0 : World.cell? _ ⟨w.heap.size + 1, 0, none⟩ = some (.int .i64 l) := Z.cell 0
        have z1 : World.cell? _ ⟨w.heap.size + 1, 1, none⟩ = some (.slice p2 zs.length cap2) := Z.cell 1
        have hbz := (hbw2.setCell (p := ⟨w.heap.size + 1, 0, none⟩) (Nat.le_succ _) (.int .i64 l)).setCell (p := ⟨w.heap.size + 1, 1, none⟩) (Nat.le_succ _) (.slice p2 zs.length cap2)
        refine bodyPost_ret (v := .tuple #[.agg #[.int .i64 l, .slice p2 zs.length cap2], .int .i64 0]) (by simp [results, Tryz.results61, go_sem, z0, z1]) rfl ⟨_, rfl, ?_, .inr (fun j hj => by have := ho2.lt j hj; omega), hbz⟩
        have ho5 := ho2.keep (w' := (w2.setCell ⟨w.heap.size + 1, 0, none⟩ (.int .i64 l)).setCell ⟨w.heap.size + 1, 1, none⟩ (.slice p2 zs.length cap2)) (fun j hj => by
          have h := ho2.lt j hj
          rw [Below.heap_setCell _ _ _ _ (by show j ≠ w.heap.size + 1; omega), Below.heap_setCell _ _ _ _ (by show j ≠ w.heap.size + 1; omega)])
        show RdN _ _ (putR x c its)
        rw [Ez.out]
        exact ho5.rd
  · have hlf2 : leafB l x = false := by rw [hlf]; simpa using h1
    rw [show badd l its x c = (its, 3) by rw [HB.out, hlf2]; rfl]
    have hc2 : x < 0 ∨ (0 ≤ x ∧ P ≤ x) := by omega
    clear HB hlf hlf2 h1
    rcases hc2 with h1 | ⟨h1, h2⟩
    · go_enter Tryz.func61, Tryz.ntmps61
      go_wp2_with fail
      exact bodyPost_ret (v := .tuple #[.agg #[.int .i64 l, .slice p N cap], .int .i64 3]) (by simp [results, Tryz.results61, go_sem]) rfl ⟨_, rfl, hr.below (((Below.refl _ _).alloc (Nat.le_refl _) _).alloc (by simp) _) (Nat.le_refl _), .inl rfl, ((Below.refl _ _).alloc (Nat.le_refl _) _).alloc (by simp) _⟩
    · go_enter Tryz.func61, Tryz.ntmps61
      go_wp2_with fail
      refine (Pw.out _).mono ?_
      rintro e w' ⟨rfl, rfl⟩
      go_wp2_with fail
      exact bodyPost_ret (v := .tuple #[.agg #[.int .i64 l, .slice p N cap], .int .i64 3]) (by simp [results, Tryz.results61, go_sem]) rfl ⟨_, rfl, hr.below (((Below.refl _ _).alloc (Nat.le_refl _) _).alloc (by simp) _) (Nat.le_refl _), .inl rfl, ((Below.refl _ _).alloc (Nat.le_refl _) _).alloc (by simp) _⟩
end Go.Proofs.YtnakieopnobjmaaGreat
