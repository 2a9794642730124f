/- The walk of law 16's Load. -/
import Derived.Test.YtbbkfjbaocpknaaDr1
import Derived.Test.YtbbkfjbaocpknaaDr5
namespace Go.Proofs.Ytbbkfjbaocpknaa
open Go.RowKit Nl

def LoadedPost (kind l k : Int) (zs : List Nd) (v : Value) (w : World) (e : Ending) (w' : World) : Prop :=
  (e = .returned (.tuple #[.pointer none, .agg #[.int .i64 0, .int .i64 0, .slice none 0 0]]) ∧ Below w.heap.size w w') ∨
  (∃ dg q g h, e = .returned (.tuple #[.pointer (some ⟨dg, 0, none⟩), .agg #[.int .i64 k, .int .i64 l, v]]) ∧ DgV w' dg q g h kind l k 2000 zs ∧ RdN w' v zs ∧ zs.length ≤ 150 ∧ Below w.heap.size w w')
set_option maxRecDepth 100000 in
set_option maxHeartbeats 1000000 in
theorem s_loaded {w : World} {zs : List Nd} {p : Option Addr} {cap : Nat} (kind l k : Int) (hr : RdN w (.slice p zs.length cap) zs) (hn : NB zs) (bl : In64 l) (bk : In64 k) (bd : In64 kind) (hlen : zs.length ≤ 9223372036854775807) :
    Calls Try.prog 17 #[.agg #[.int .i64 l, .int .i64 k, .int .i64 kind, .slice p zs.length cap]] w (LoadedPost kind l k zs (.slice p zs.length cap) w) := by
  have X1 : Blk (w.alloc (.cells #[.int .i64 l, .int .i64 k, .int .i64 kind, .slice p zs.length cap] 48)) w.heap.size #[.int .i64 l, .int .i64 k, .int .i64 kind, .slice p zs.length cap] 48 := Blk.new w _ _
  have hb1 : Below w.heap.size w (w.alloc (.cells #[.int .i64 l, .int .i64 k, .int .i64 kind, .slice p zs.length cap] 48)) := (Below.refl _ _).alloc (Nat.le_refl _) _
  have hs1 : (w.alloc (.cells #[.int .i64 l, .int .i64 k, .int .i64 kind, .slice p zs.length cap] 48)).heap.size = w.heap.size + 1 := by simp
  have r1 := hr.below hb1 (Nat.le_refl _)
  have Y2 := Blk.new (w.alloc (.cells #[.int .i64 l, .int .i64 k, .int .i64 kind, .slice p zs.length cap] 48)) #[.int .i64 0, .int .i64 0, .slice none 0 0] 55
  have hb2 : Below (w.alloc (.cells #[.int .i64 l, .int .i64 k, .int .i64 kind, .slice p zs.length cap] 48)).heap.size _ ((w.alloc (.cells #[.int .i64 l, .int .i64 k, .int .i64 kind, .slice p zs.length cap] 48)).alloc (.cells #[.int .i64 0, .int .i64 0, .slice none 0 0] 55)) := (Below.refl _ _).alloc (Nat.le_refl _) _
  have X2 := X1.below hb2 (Nat.le_refl _)
  have r2 := r1.below hb2 (Nat.le_refl _)
  have hbw := hb1.trans (hb2.mono hb1.size)
  rw [hs1] at Y2
  have n0 : NotIn (.slice p zs.length cap) zs (w.heap.size + 1) := by
    rcases hr.ltE with h | h
    · exact .inl h
    · exact .inr fun i hi e => by have := h i hi; omega
  clear X1 hb1 hb2 r1 hr
  go_enter Try.func17, Try.ntmps17
  go_upto_region 1 with fail
  generalize ((w.alloc (.cells #[.int .i64 l, .int .i64 k, .int .i64 kind, .slice p zs.length cap] 48)).alloc (.cells #[.int .i64 0, .int .i64 0, .slice none 0 0] 55)) = w2 at *
  have x0 : w2.cell? ⟨w.heap.size, 0, none⟩ = some (.int .i64 l) := X2.cell 0
  have x1 : w2.cell? ⟨w.heap.size, 1, none⟩ = some (.int .i64 k) := X2.cell 1
  have x2 : w2.cell? ⟨w.heap.size, 2, none⟩ = some (.int .i64 kind) := X2.cell 2
  have x3 : w2.cell? ⟨w.heap.size, 3, none⟩ = some (.slice p zs.length cap) := X2.cell 3
  have y0 : w2.cell? ⟨w.heap.size + 1, 0, none⟩ = some (.int .i64 0) := Y2.cell 0
  have y1 : w2.cell? ⟨w.heap.size + 1, 1, none⟩ = some (.int .i64 0) := Y2.cell 1
  have y2 : w2.cell? ⟨w.heap.size + 1, 2, none⟩ = some (.slice none 0 0) := Y2.cell 2
  have f0 := Y2.free 0
  have f1 := Y2.free 1
  have f2 := Y2.free 2
  have hyl := Y2.lt
  have hw5 : w.heap.size ≤ w.heap.size + 1 := by omega
  by_cases h150 : 150 < zs.length
  · have g1 : decide ((150 : Int) < (zs.length : Int)) = true := decide_eq_true (by omega)
    have Y6 := ((Y2.set 0 (.int .i64 0)).set 1 (.int .i64 0)).set 2 (.slice none 0 0)
    have hbz := ((hbw.setCell (p := ⟨w.heap.size + 1, 0, none⟩) hw5 (.int .i64 0)).setCell (p := ⟨w.heap.size + 1, 1, none⟩) hw5 (.int .i64 0)).setCell (p := ⟨w.heap.size + 1, 2, none⟩) hw5 (.slice none 0 0)
    have z0 : World.cell? _ ⟨w.heap.size + 1, 0, none⟩ = some (.int .i64 0) := Y6.cell 0
    have z1 : World.cell? _ ⟨w.heap.size + 1, 1, none⟩ = some (.int .i64 0) := Y6.cell 1
    have z2 : World.cell? _ ⟨w.heap.size + 1, 2, none⟩ = some (.slice none 0 0) := Y6.cell 2
    go_wp2_with fail
    exact bodyPost_ret (v := .tuple #[.pointer none, .agg #[.int .i64 0, .int .i64 0, .slice none 0 0]]) (by simp [results, Try.results17, go_sem, z0, z1, z2]) rfl (.inl ⟨rfl, hbz⟩)
  · have g1 : decide ((150 : Int) < (zs.length : Int)) = false := decide_eq_false (by omega)
    by_cases hq : kind = 1 ∧ 10 < l
    · obtain ⟨rfl, hl10⟩ := hq
      have g3 : decide (10 < l) = true := decide_eq_true hl10
      have Y6 := ((Y2.set 0 (.int .i64 0)).set 1 (.int .i64 0)).set 2 (.slice none 0 0)
      have hbz := ((hbw.setCell (p := ⟨w.heap.size + 1, 0, none⟩) hw5 (.int .i64 0)).setCell (p := ⟨w.heap.size + 1, 1, none⟩) hw5 (.int .i64 0)).setCell (p := ⟨w.heap.size + 1, 2, none⟩) hw5 (.slice none 0 0)
      have z0 : World.cell? _ ⟨w.heap.size + 1, 0, none⟩ = some (.int .i64 0) := Y6.cell 0
      have z1 : World.cell? _ ⟨w.heap.size + 1, 1, none⟩ = some (.int .i64 0) := Y6.cell 1
      have z2 : World.cell? _ ⟨w.heap.size + 1, 2, none⟩ = some (.slice none 0 0) := Y6.cell 2
      go_wp2_with fail
      exact bodyPost_ret (v := .tuple #[.pointer none, .agg #[.int .i64 0, .int .i64 0, .slice none 0 0]]) (by simp [results, Try.results17, go_sem, z0, z1, z2]) rfl (.inl ⟨rfl, hbz⟩)
    · have hg : ((kind == 1) = true ∧ decide (10 < l) = false) ∨ (kind == 1) = false := by
        by_cases h1 : kind = 1
        · exact .inl ⟨by simpa using h1, decide_eq_false (fun h => hq ⟨h1, h⟩)⟩
        · exact .inr (by simpa using h1)
      clear hq
      by_cases he : loadE kind l k zs = 0
      · have LD := hid (dg_load kind l k r2 hn (by omega) he)
        have RL := hid (fun (W : World) (y : RdN W (.slice p zs.length cap) zs) => r_dload kind l k y hn (by omega) bl he)
        rcases hg with ⟨g3, g4⟩ | g3
        all_goals
          go_wp2_with fail
          refine LD.out.mono ?_
          rintro e w3 ⟨dg, q, g, h, rfl, d3, m1, m2, m3, m4, hb3⟩
          have hdb : ∀ i, DB dg q g h i → w2.heap.size ≤ i := by
            intro i hi; rcases hi with e | e | e | e <;> omega
          have hyl2 := hyl
          have X3 := X2.below hb3 (Nat.le_refl _)
          have Y3 := Y2.below hb3 (Nat.le_refl _)
          have r3 := r2.below hb3 (Nat.le_refl _)
          have hbw3 := hbw.trans (hb3.mono hbw.size)
          clear y0 y1 y2 f0 f1 f2 hyl x0 x1 x2 x3 LD m1 m2 m3 m4 hb3
          have x0 : w3.cell? ⟨w.heap.size, 0, none⟩ = some (.int .i64 l) := X3.cell 0
          have x1 : w3.cell? ⟨w.heap.size, 1, none⟩ = some (.int .i64 k) := X3.cell 1
          have x2 : w3.cell? ⟨w.heap.size, 2, none⟩ = some (.int .i64 kind) := X3.cell 2
          have x3 : w3.cell? ⟨w.heap.size, 3, none⟩ = some (.slice p zs.length cap) := X3.cell 3
          go_wp2_with fail
          refine (RL.out _ r3).mono ?_
          rintro e w4 ⟨rfl, hb4⟩
          have Y4 := Y3.below hb4 (Nat.le_refl _)
          have d4 := d3.below hb4 (Nat.le_refl _)
          have r4 := r3.below hb4 (Nat.le_refl _)
          have hbw4 := hbw3.trans (hb4.mono hbw3.size)
          clear x0 x1 x2 x3 RL Y3 d3 r3 hbw3 hb4 X3
          have hba : Below w4.heap.size w4 (w4.alloc (.cells #[.int .i64 k, .int .i64 l, .slice p zs.length cap] 55)) := (Below.refl _ _).alloc (Nat.le_refl _) _
          have T5 := Blk.new w4 #[.int .i64 k, .int .i64 l, .slice p zs.length cap] 55
          have Y5 := Y4.below hba (Nat.le_refl _)
          have d5 := d4.below hba (Nat.le_refl _)
          have r5 := r4.below hba (Nat.le_refl _)
          have hbw5 := hbw4.trans (hba.mono hbw4.size)
          go_upto_region 7 with fail
          generalize (w4.alloc (.cells #[.int .i64 k, .int .i64 l, .slice p zs.length cap] 55)) = w5 at *
          have T0 : w5.cell? ⟨w4.heap.size, 0, none⟩ = some (.int .i64 k) := T5.cell 0
          have T1 : w5.cell? ⟨w4.heap.size, 1, none⟩ = some (.int .i64 l) := T5.cell 1
          have T2 : w5.cell? ⟨w4.heap.size, 2, none⟩ = some (.slice p zs.length cap) := T5.cell 2
          have y0 : w5.cell? ⟨w.heap.size + 1, 0, none⟩ = some (.int .i64 0) := Y5.cell 0
          have y1 : w5.cell? ⟨w.heap.size + 1, 1, none⟩ = some (.int .i64 0) := Y5.cell 1
          have y2 : w5.cell? ⟨w.heap.size + 1, 2, none⟩ = some (.slice none 0 0) := Y5.cell 2
          have f0 : w5.frozen? ⟨w.heap.size + 1, 0, none⟩ = false := Y5.free 0
          have f1 : w5.frozen? ⟨w.heap.size + 1, 1, none⟩ = false := Y5.free 1
          have f2 : w5.frozen? ⟨w.heap.size + 1, 2, none⟩ = false := Y5.free 2
          have hyl : w.heap.size + 1 < w5.heap.size := Y5.lt
          have hyl5 : w.heap.size + 1 < w5.heap.size := Y5.lt
          have Y6 := ((Y5.set 0 (.int .i64 k)).set 1 (.int .i64 l)).set 2 (.slice p zs.length cap)
          have hbz := ((hbw5.setCell (p := ⟨w.heap.size + 1, 0, none⟩) hw5 (.int .i64 k)).setCell (p := ⟨w.heap.size + 1, 1, none⟩) hw5 (.int .i64 l)).setCell (p := ⟨w.heap.size + 1, 2, none⟩) hw5 (.slice p zs.length cap)
          have z0 : World.cell? _ ⟨w.heap.size + 1, 0, none⟩ = some (.int .i64 k) := Y6.cell 0
          have z1 : World.cell? _ ⟨w.heap.size + 1, 1, none⟩ = some (.int .i64 l) := Y6.cell 1
          have z2 : World.cell? _ ⟨w.heap.size + 1, 2, none⟩ = some (.slice p zs.length cap) := Y6.cell 2
          have r6 := ((r5.set_off n0 0 (.int .i64 k)).set_off n0 1 (.int .i64 l)).set_off n0 2 (.slice p zs.length cap)
          have d6 : DgV (((w5.setCell ⟨w.heap.size + 1, 0, none⟩ (.int .i64 k)).setCell ⟨w.heap.size + 1, 1, none⟩ (.int .i64 l)).setCell ⟨w.heap.size + 1, 2, none⟩ (.slice p zs.length cap)) dg q g h kind l k 2000 zs := d5.keepB (fun i _ hi => by
            have h1 := hdb i hi
            have h2 : i ≠ w.heap.size + 1 := by omega
            exact ((Below.heap_setCell _ ⟨w.heap.size + 1, 2, none⟩ _ i h2).trans (Below.heap_setCell _ ⟨w.heap.size + 1, 1, none⟩ _ i h2)).trans (Below.heap_setCell _ ⟨w.heap.size + 1, 0, none⟩ _ i h2))
          clear Y5 d5 r5 hbw5
          go_region
          go_wp2_with fail
          exact bodyPost_ret (v := .tuple #[.pointer (some ⟨dg, 0, none⟩), .agg #[.int .i64 k, .int .i64 l, .slice p zs.length cap]]) (by simp [results, Try.results17, go_sem, z0, z1, z2]) rfl (.inr ⟨dg, q, g, h, rfl, d6.keepB (fun _ _ _ => rfl), r6.drewN 1, by omega, hbz.trans (below_drewN (Below.refl w.heap.size _) 1)⟩)
      · have LD := hid (dg_load_no kind l k r2 hn (by omega) bl bk he)
        have hz : (loadE kind l k zs != 0) = true := by simpa using he
        generalize loadE kind l k zs = E at *
        rcases hg with ⟨g3, g4⟩ | g3
        all_goals
          go_wp2_with fail
          refine LD.out.mono ?_
          rintro e w3 ⟨rfl, hb3⟩
          have Y3 := Y2.below hb3 (Nat.le_refl _)
          have hbw3 := hbw.trans (hb3.mono hbw.size)
          clear y0 y1 y2 f0 f1 f2 hyl x0 x1 x2 x3 LD
          have y0 : w3.cell? ⟨w.heap.size + 1, 0, none⟩ = some (.int .i64 0) := Y3.cell 0
          have y1 : w3.cell? ⟨w.heap.size + 1, 1, none⟩ = some (.int .i64 0) := Y3.cell 1
          have y2 : w3.cell? ⟨w.heap.size + 1, 2, none⟩ = some (.slice none 0 0) := Y3.cell 2
          have f0 := Y3.free 0
          have f1 := Y3.free 1
          have f2 := Y3.free 2
          have hyl := Y3.lt
          have Y6 := ((Y3.set 0 (.int .i64 0)).set 1 (.int .i64 0)).set 2 (.slice none 0 0)
          have hbz := ((hbw3.setCell (p := ⟨w.heap.size + 1, 0, none⟩) hw5 (.int .i64 0)).setCell (p := ⟨w.heap.size + 1, 1, none⟩) hw5 (.int .i64 0)).setCell (p := ⟨w.heap.size + 1, 2, none⟩) hw5 (.slice none 0 0)
          have z0 : World.cell? _ ⟨w.heap.size + 1, 0, none⟩ = some (.int .i64 0) := Y6.cell 0
          have z1 : World.cell? _ ⟨w.heap.size + 1, 1, none⟩ = some (.int .i64 0) := Y6.cell 1
          have z2 : World.cell? _ ⟨w.heap.size + 1, 2, none⟩ = some (.slice none 0 0) := Y6.cell 2
          go_wp2_with fail
          exact bodyPost_ret (v := .tuple #[.pointer none, .agg #[.int .i64 0, .int .i64 0, .slice none 0 0]]) (by simp [results, Try.results17, go_sem, z0, z1, z2]) rfl (.inl ⟨rfl, hbz⟩)
end Go.Proofs.Ytbbkfjbaocpknaa
