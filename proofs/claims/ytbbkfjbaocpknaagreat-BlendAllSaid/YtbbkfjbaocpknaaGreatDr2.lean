/- The walks of the reference's Insert and Do, of layer 13. -/
import Derived.Test.YtbbkfjbaocpknaaGreatDr1
namespace Go.Proofs.YtbbkfjbaocpknaaGreat
open Go.RowKit Nl

set_option maxRecDepth 100000 in
set_option maxHeartbeats 4000000 in
theorem r_dinsert {w : World} {l k : Int} {zs : List Nd} {v : Value} (x wt : Int) (hr : RdN w v zs) (hl : zs.length ≤ 2000) (inv : Dg l k zs) (bx : In64 x) (bw : In64 wt) :
    Calls Tryz.prog 136 #[.agg #[.int .i64 k, .int .i64 l, v], .int .i64 x, .int .i64 wt] w (RDgPost l k (dgIns l k zs x wt) v w) := by
  obtain ⟨p, cap, rfl⟩ := hr.val
  have X := (Blk.new w #[.int .i64 k, .int .i64 l, .slice p zs.length cap] 37).alloc (.cells #[.int .i64 0, .int .i64 0, .slice none 0 0] 37)
  have Z := Blk.new (w.alloc (.cells #[.int .i64 k, .int .i64 l, .slice p zs.length cap] 37)) #[.int .i64 0, .int .i64 0, .slice none 0 0] 37
  rw [World.size_alloc] at Z
  have hb0 : Below w.heap.size w ((w.alloc (.cells #[.int .i64 k, .int .i64 l, .slice p zs.length cap] 37)).alloc (.cells #[.int .i64 0, .int .i64 0, .slice none 0 0] 37)) := ((Below.refl _ _).alloc (Nat.le_refl _) _).alloc (by simp) _
  have hsz : ((w.alloc (.cells #[.int .i64 k, .int .i64 l, .slice p zs.length cap] 37)).alloc (.cells #[.int .i64 0, .int .i64 0, .slice none 0 0] 37)).heap.size = w.heap.size + 2 := by simp
  have hr1 := hr.below hb0 (Nat.le_refl _)
  have o1 : NotIn (.slice p zs.length cap) zs w.heap.size := NotIn.of_lt hr (Nat.le_refl _)
  have o2 : NotIn (.slice p zs.length cap) zs (w.heap.size + 1) := NotIn.of_lt hr (by omega)
  have fv0 : FrV (.slice p zs.length cap) (.slice p zs.length cap) w.heap.size := .inl rfl
  have hroll := inv.roll
  have bl : In64 l := ⟨by have := hroll.l1; omega, by have := hroll.l2; omega⟩
  have hs := hroll.sum
  have k1 := inv.k1
  have k2 := inv.k2
  have TL := hid (fun W : World => r_leaf l x W bl bx)
  have WT := hid (fun W (q : RdN W (.slice p zs.length cap) zs) => r_dweight k q (by omega) hroll)
  obtain ⟨b1, b2⟩ := bw
  cases hx : leafB l x
  · have e : dgIns l k zs x wt = (zs, 3) := by unfold dgIns; rw [if_pos hx]
    rw [hx] at TL
    rw [e]
    clear e hx inv hroll
    go_enter Tryz.func136, Tryz.ntmps136
    go_wp2_with fail
    refine (TL.out _).mono ?_
    rintro e w' ⟨rfl, rfl⟩
    generalize ((w.alloc (.cells #[.int .i64 k, .int .i64 l, .slice p zs.length cap] 37)).alloc (.cells #[.int .i64 0, .int .i64 0, .slice none 0 0] 37)) = w1 at *
    have tx0 : World.cell? w1 ⟨w.heap.size, 0, none⟩ = some (.int .i64 k) := X.cell 0
    have tx1 : World.cell? w1 ⟨w.heap.size, 1, none⟩ = some (.int .i64 l) := X.cell 1
    have tx2 : World.cell? w1 ⟨w.heap.size, 2, none⟩ = some (.slice p zs.length cap) := X.cell 2
    have tz0 : World.cell? w1 ⟨w.heap.size + 1, 0, none⟩ = some (.int .i64 0) := Z.cell 0
    have tzf0 := Z.free 0
    have tz1 : World.cell? w1 ⟨w.heap.size + 1, 1, none⟩ = some (.int .i64 0) := Z.cell 1
    have tzf1 := Z.free 1
    have tz2 : World.cell? w1 ⟨w.heap.size + 1, 2, none⟩ = some (.slice none 0 0) := Z.cell 2
    have tzf2 := Z.free 2
    go_wp2_with fail
    have Z9 := ((Z.set 0 (.int .i64 k)).set 1 (.int .i64 l)).set 2 (.slice p zs.length cap)
    have z90 : World.cell? _ ⟨w.heap.size + 1, 0, none⟩ = some (.int .i64 k) := Z9.cell 0
    have z91 : World.cell? _ ⟨w.heap.size + 1, 1, none⟩ = some (.int .i64 l) := Z9.cell 1
    have z92 : World.cell? _ ⟨w.heap.size + 1, 2, none⟩ = some (.slice p zs.length cap) := Z9.cell 2
    refine bodyPost_ret (v := .tuple #[.agg #[.int .i64 k, .int .i64 l, .slice p zs.length cap], .int .i64 3]) (by simp [results, Tryz.results136, go_sem, z90, z91, z92]) rfl ⟨_, rfl, ((hr1.set_off o2 _ _).set_off o2 _ _).set_off o2 _ _, fv0, ?_⟩
    exact ((hb0.setCell (p := ⟨w.heap.size + 1, 0, none⟩) (by show w.heap.size ≤ w.heap.size + 1; omega) _).setCell (p := ⟨w.heap.size + 1, 1, none⟩) (by show w.heap.size ≤ w.heap.size + 1; omega) _).setCell (p := ⟨w.heap.size + 1, 2, none⟩) (by show w.heap.size ≤ w.heap.size + 1; omega) _
  rw [hx] at TL
  obtain ⟨lf1, lf2, lf3, lf4, -⟩ := leaf_bd hx
  by_cases h1 : wt < 1
  · have e : dgIns l k zs x wt = (zs, 4) := by unfold dgIns; rw [if_neg (by simp [hx]), if_pos h1]
    rw [e]
    clear e hx inv hroll lf1 lf2
    generalize leafV l x = lf at *
    go_enter Tryz.func136, Tryz.ntmps136
    go_wp2_with fail
    refine (TL.out _).mono ?_
    rintro e w' ⟨rfl, rfl⟩
    generalize ((w.alloc (.cells #[.int .i64 k, .int .i64 l, .slice p zs.length cap] 37)).alloc (.cells #[.int .i64 0, .int .i64 0, .slice none 0 0] 37)) = w1 at *
    have tx0 : World.cell? w1 ⟨w.heap.size, 0, none⟩ = some (.int .i64 k) := X.cell 0
    have tx1 : World.cell? w1 ⟨w.heap.size, 1, none⟩ = some (.int .i64 l) := X.cell 1
    have tx2 : World.cell? w1 ⟨w.heap.size, 2, none⟩ = some (.slice p zs.length cap) := X.cell 2
    have tz0 : World.cell? w1 ⟨w.heap.size + 1, 0, none⟩ = some (.int .i64 0) := Z.cell 0
    have tzf0 := Z.free 0
    have tz1 : World.cell? w1 ⟨w.heap.size + 1, 1, none⟩ = some (.int .i64 0) := Z.cell 1
    have tzf1 := Z.free 1
    have tz2 : World.cell? w1 ⟨w.heap.size + 1, 2, none⟩ = some (.slice none 0 0) := Z.cell 2
    have tzf2 := Z.free 2
    go_wp2_with fail
    have Z9 := ((Z.set 0 (.int .i64 k)).set 1 (.int .i64 l)).set 2 (.slice p zs.length cap)
    have z90 : World.cell? _ ⟨w.heap.size + 1, 0, none⟩ = some (.int .i64 k) := Z9.cell 0
    have z91 : World.cell? _ ⟨w.heap.size + 1, 1, none⟩ = some (.int .i64 l) := Z9.cell 1
    have z92 : World.cell? _ ⟨w.heap.size + 1, 2, none⟩ = some (.slice p zs.length cap) := Z9.cell 2
    refine bodyPost_ret (v := .tuple #[.agg #[.int .i64 k, .int .i64 l, .slice p zs.length cap], .int .i64 4]) (by simp [results, Tryz.results136, go_sem, z90, z91, z92]) rfl ⟨_, rfl, ((hr1.set_off o2 _ _).set_off o2 _ _).set_off o2 _ _, fv0, ?_⟩
    exact ((hb0.setCell (p := ⟨w.heap.size + 1, 0, none⟩) (by show w.heap.size ≤ w.heap.size + 1; omega) _).setCell (p := ⟨w.heap.size + 1, 1, none⟩) (by show w.heap.size ≤ w.heap.size + 1; omega) _).setCell (p := ⟨w.heap.size + 1, 2, none⟩) (by show w.heap.size ≤ w.heap.size + 1; omega) _
  by_cases h2 : 72057594037927935 - sumL zs < wt
  · have e : dgIns l k zs x wt = (zs, 5) := by unfold dgIns; rw [if_neg (by simp [hx]), if_neg h1, if_pos h2]
    rw [e]
    clear e hx inv hroll lf1 lf2
    generalize leafV l x = lf at *
    generalize sumL zs = S at *
    go_enter Tryz.func136, Tryz.ntmps136
    go_wp2_with fail
    refine (TL.out _).mono ?_
    rintro e w' ⟨rfl, rfl⟩
    generalize ((w.alloc (.cells #[.int .i64 k, .int .i64 l, .slice p zs.length cap] 37)).alloc (.cells #[.int .i64 0, .int .i64 0, .slice none 0 0] 37)) = w1 at *
    have x0 : World.cell? w1 ⟨w.heap.size, 0, none⟩ = some (.int .i64 k) := X.cell 0
    have x1 : World.cell? w1 ⟨w.heap.size, 1, none⟩ = some (.int .i64 l) := X.cell 1
    have x2 : World.cell? w1 ⟨w.heap.size, 2, none⟩ = some (.slice p zs.length cap) := X.cell 2
    go_wp2_with fail
    refine (WT.out _ hr1).mono ?_
    rintro e w2 ⟨rfl, hb2⟩
    have X2 := X.below hb2 (Nat.le_refl _)
    have Z2 := Z.below hb2 (Nat.le_refl _)
    have hr2 := hr1.below hb2 (Nat.le_refl _)
    have hs2 := hb2.size
    have hbw2 := hb0.trans (hb2.mono (by omega))
    have tx0 : World.cell? w2 ⟨w.heap.size, 0, none⟩ = some (.int .i64 k) := X2.cell 0
    have tx1 : World.cell? w2 ⟨w.heap.size, 1, none⟩ = some (.int .i64 l) := X2.cell 1
    have tx2 : World.cell? w2 ⟨w.heap.size, 2, none⟩ = some (.slice p zs.length cap) := X2.cell 2
    have tz0 : World.cell? w2 ⟨w.heap.size + 1, 0, none⟩ = some (.int .i64 0) := Z2.cell 0
    have tzf0 := Z2.free 0
    have tz1 : World.cell? w2 ⟨w.heap.size + 1, 1, none⟩ = some (.int .i64 0) := Z2.cell 1
    have tzf1 := Z2.free 1
    have tz2 : World.cell? w2 ⟨w.heap.size + 1, 2, none⟩ = some (.slice none 0 0) := Z2.cell 2
    have tzf2 := Z2.free 2
    go_wp2_with fail
    have Z9 := ((Z2.set 0 (.int .i64 k)).set 1 (.int .i64 l)).set 2 (.slice p zs.length cap)
    have z90 : World.cell? _ ⟨w.heap.size + 1, 0, none⟩ = some (.int .i64 k) := Z9.cell 0
    have z91 : World.cell? _ ⟨w.heap.size + 1, 1, none⟩ = some (.int .i64 l) := Z9.cell 1
    have z92 : World.cell? _ ⟨w.heap.size + 1, 2, none⟩ = some (.slice p zs.length cap) := Z9.cell 2
    refine bodyPost_ret (v := .tuple #[.agg #[.int .i64 k, .int .i64 l, .slice p zs.length cap], .int .i64 5]) (by simp [results, Tryz.results136, go_sem, z90, z91, z92]) rfl ⟨_, rfl, ((hr2.set_off o2 _ _).set_off o2 _ _).set_off o2 _ _, fv0, ?_⟩
    exact ((hbw2.setCell (p := ⟨w.heap.size + 1, 0, none⟩) (by show w.heap.size ≤ w.heap.size + 1; omega) _).setCell (p := ⟨w.heap.size + 1, 1, none⟩) (by show w.heap.size ≤ w.heap.size + 1; omega) _).setCell (p := ⟨w.heap.size + 1, 2, none⟩) (by show w.heap.size ≤ w.heap.size + 1; omega) _
  have e : dgIns l k zs x wt = (addS (if fullB k zs (leafV l x) then (comL l k zs).1 else zs) (leafV l x) wt, 0) := by unfold dgIns; rw [if_neg (by simp [hx]), if_neg h1, if_neg h2]
  rw [e]
  have GT := hid (fun W (q : RdN W (.slice p zs.length cap) zs) => r_stget l (leafV l x) W q (by omega))
  obtain ⟨f1, f2, f3, f4, -⟩ := inv.com
  have hroom := inv.room
  have bl2 : In64 (leafV l x) := ⟨by omega, by omega⟩
  have wk : IntKind.i64.wrap (8 * k) = 8 * k := IntWalk.i64_in _ ⟨by omega, by omega⟩
  have WK := hid wk
  clear e wk
  cases hF : fullB k zs (leafV l x)
  · simp only [Bool.false_eq_true, if_false]
    have AD0 := fun W v (q : RdB W 0 v zs) => r_stadd l (leafV l x) wt W q (Nat.zero_le _) (by omega) bl bl2 ⟨b1, b2⟩ ⟨by rw [hroll.tot]; exact hs.1, by rw [hroll.tot]; exact hs.2⟩
    simp only [stAdd_ok hroll lf1 (show 0 ≤ wt by omega) (by omega)] at AD0
    have AD := hid AD0
    have hcond : findL (leafV l x) zs ≠ 0 ∨ ((zs.length : Int) == 8 * k) = false := by
      simp only [fullB, Bool.and_eq_false_iff, beq_eq_false_iff_ne, decide_eq_false_iff_not] at hF
      rcases hF with h | h
      · exact .inl h
      · right; simp; omega
    generalize addS zs (leafV l x) wt = zsR at *
    generalize findL (leafV l x) zs = fl at *
    generalize leafV l x = lf at *
    generalize sumL zs = S at *
    clear AD0 hF lf1 lf2 hx f1 f2 f3 f4 inv hroll
    rcases hcond with hc | hc
    · have hfl : (fl == 0) = false := by simpa using hc
      clear hc
      go_enter Tryz.func136, Tryz.ntmps136
      go_wp2_with fail
      refine (TL.out _).mono ?_
      rintro e w' ⟨rfl, rfl⟩
      generalize ((w.alloc (.cells #[.int .i64 k, .int .i64 l, .slice p zs.length cap] 37)).alloc (.cells #[.int .i64 0, .int .i64 0, .slice none 0 0] 37)) = w1 at *
      have x0 : World.cell? w1 ⟨w.heap.size, 0, none⟩ = some (.int .i64 k) := X.cell 0
      have x1 : World.cell? w1 ⟨w.heap.size, 1, none⟩ = some (.int .i64 l) := X.cell 1
      have x2 : World.cell? w1 ⟨w.heap.size, 2, none⟩ = some (.slice p zs.length cap) := X.cell 2
      go_wp2_with fail
      refine (WT.out _ hr1).mono ?_
      rintro e w2 ⟨rfl, hb2⟩
      have X2 := X.below hb2 (Nat.le_refl _)
      have Z2 := Z.below hb2 (Nat.le_refl _)
      have hr2 := hr1.below hb2 (Nat.le_refl _)
      have hs2 := hb2.size
      have hbw2 := hb0.trans (hb2.mono (by omega))
      have y0 : World.cell? w2 ⟨w.heap.size, 0, none⟩ = some (.int .i64 k) := X2.cell 0
      have y1 : World.cell? w2 ⟨w.heap.size, 1, none⟩ = some (.int .i64 l) := X2.cell 1
      have y2 : World.cell? w2 ⟨w.heap.size, 2, none⟩ = some (.slice p zs.length cap) := X2.cell 2
      go_wp2_with fail
      refine (GT.out _ hr2).mono ?_
      rintro e w3 ⟨rfl, hb3⟩
      have X3 := X2.below hb3 (Nat.le_refl _)
      have Z3 := Z2.below hb3 (Nat.le_refl _)
      have hr3 := hr2.below hb3 (Nat.le_refl _)
      have hs3 := hb3.size
      have hbw3 := hbw2.trans (hb3.mono (by omega))
      have u0 : World.cell? w3 ⟨w.heap.size, 0, none⟩ = some (.int .i64 k) := X3.cell 0
      have u1 : World.cell? w3 ⟨w.heap.size, 1, none⟩ = some (.int .i64 l) := X3.cell 1
      have u2 : World.cell? w3 ⟨w.heap.size, 2, none⟩ = some (.slice p zs.length cap) := X3.cell 2
      go_wp2_with fail
      refine (AD.out _ _ ⟨hr3, fun _ _ => Nat.zero_le _⟩).mono ?_
      rintro e w7 ⟨v7, rfl, hr7, fv7, hb7⟩
      obtain ⟨p7, c7, rfl⟩ := hr7.1.val
      have o17 := o1.next hr3 hr7.1 fv7 (by omega)
      have o27 := o2.next hr3 hr7.1 fv7 (by omega)
      have X7 := X3.below hb7 (Nat.le_refl _)
      have Z7 := Z3.below hb7 (Nat.le_refl _)
      have hs7 := hb7.size
      have hbw7 := hbw3.trans (hb7.mono (by omega))
      have fv9 := FrV.trans fv0 fv7 (by omega)
      have v0 : World.cell? w7 ⟨w.heap.size, 0, none⟩ = some (.int .i64 k) := X7.cell 0
      have vf0 := X7.free 0
      have v1 : World.cell? w7 ⟨w.heap.size, 1, none⟩ = some (.int .i64 l) := X7.cell 1
      have vf1 := X7.free 1
      have v2 : World.cell? w7 ⟨w.heap.size, 2, none⟩ = some (.slice p zs.length cap) := X7.cell 2
      have vf2 := X7.free 2
      have hne : w.heap.size + 1 ≠ w.heap.size := by omega
      have X8 := (X7.set 1 (.int .i64 l)).set 2 (.slice p7 zsR.length c7)
      have Z8 := (Z7.set_other 1 (.int .i64 l) hne).set_other 2 (.slice p7 zsR.length c7) hne
      have hr8 := (hr7.1.set_off o17 1 (.int .i64 l)).set_off o17 2 (.slice p7 zsR.length c7)
      have hbw8 := (hbw7.setCell (p := ⟨w.heap.size, 1, none⟩) (Nat.le_refl _) (.int .i64 l)).setCell (p := ⟨w.heap.size, 2, none⟩) (Nat.le_refl _) (.slice p7 zsR.length c7)
      have tx0 : World.cell? _ ⟨w.heap.size, 0, none⟩ = some (.int .i64 k) := X8.cell 0
      have tx1 : World.cell? _ ⟨w.heap.size, 1, none⟩ = some (.int .i64 l) := X8.cell 1
      have tx2 : World.cell? _ ⟨w.heap.size, 2, none⟩ = some (.slice p7 zsR.length c7) := X8.cell 2
      have tz0 : World.cell? _ ⟨w.heap.size + 1, 0, none⟩ = some (.int .i64 0) := Z8.cell 0
      have tzf0 := Z8.free 0
      have tz1 : World.cell? _ ⟨w.heap.size + 1, 1, none⟩ = some (.int .i64 0) := Z8.cell 1
      have tzf1 := Z8.free 1
      have tz2 : World.cell? _ ⟨w.heap.size + 1, 2, none⟩ = some (.slice none 0 0) := Z8.cell 2
      have tzf2 := Z8.free 2
      go_wp2_with fail
      have Z9 := ((Z8.set 0 (.int .i64 k)).set 1 (.int .i64 l)).set 2 (.slice p7 zsR.length c7)
      have z90 : World.cell? _ ⟨w.heap.size + 1, 0, none⟩ = some (.int .i64 k) := Z9.cell 0
      have z91 : World.cell? _ ⟨w.heap.size + 1, 1, none⟩ = some (.int .i64 l) := Z9.cell 1
      have z92 : World.cell? _ ⟨w.heap.size + 1, 2, none⟩ = some (.slice p7 zsR.length c7) := Z9.cell 2
      refine bodyPost_ret (v := .tuple #[.agg #[.int .i64 k, .int .i64 l, .slice p7 zsR.length c7], .int .i64 0]) (by simp [results, Tryz.results136, go_sem, z90, z91, z92]) rfl ⟨_, rfl, ((hr8.set_off o27 _ _).set_off o27 _ _).set_off o27 _ _, fv9, ?_⟩
      exact ((hbw8.setCell (p := ⟨w.heap.size + 1, 0, none⟩) (by show w.heap.size ≤ w.heap.size + 1; omega) _).setCell (p := ⟨w.heap.size + 1, 1, none⟩) (by show w.heap.size ≤ w.heap.size + 1; omega) _).setCell (p := ⟨w.heap.size + 1, 2, none⟩) (by show w.heap.size ≤ w.heap.size + 1; omega) _
    · by_cases hc0 : fl = 0
      · subst hc0
        go_enter Tryz.func136, Tryz.ntmps136
        go_wp2_with fail
        refine (TL.out _).mono ?_
        rintro e w' ⟨rfl, rfl⟩
        generalize ((w.alloc (.cells #[.int .i64 k, .int .i64 l, .slice p zs.length cap] 37)).alloc (.cells #[.int .i64 0, .int .i64 0, .slice none 0 0] 37)) = w1 at *
        have x0 : World.cell? w1 ⟨w.heap.size, 0, none⟩ = some (.int .i64 k) := X.cell 0
        have x1 : World.cell? w1 ⟨w.heap.size, 1, none⟩ = some (.int .i64 l) := X.cell 1
        have x2 : World.cell? w1 ⟨w.heap.size, 2, none⟩ = some (.slice p zs.length cap) := X.cell 2
        go_wp2_with fail
        refine (WT.out _ hr1).mono ?_
        rintro e w2 ⟨rfl, hb2⟩
        have X2 := X.below hb2 (Nat.le_refl _)
        have Z2 := Z.below hb2 (Nat.le_refl _)
        have hr2 := hr1.below hb2 (Nat.le_refl _)
        have hs2 := hb2.size
        have hbw2 := hb0.trans (hb2.mono (by omega))
        have y0 : World.cell? w2 ⟨w.heap.size, 0, none⟩ = some (.int .i64 k) := X2.cell 0
        have y1 : World.cell? w2 ⟨w.heap.size, 1, none⟩ = some (.int .i64 l) := X2.cell 1
        have y2 : World.cell? w2 ⟨w.heap.size, 2, none⟩ = some (.slice p zs.length cap) := X2.cell 2
        go_wp2_with fail
        refine (GT.out _ hr2).mono ?_
        rintro e w3 ⟨rfl, hb3⟩
        have X3 := X2.below hb3 (Nat.le_refl _)
        have Z3 := Z2.below hb3 (Nat.le_refl _)
        have hr3 := hr2.below hb3 (Nat.le_refl _)
        have hs3 := hb3.size
        have hbw3 := hbw2.trans (hb3.mono (by omega))
        have u0 : World.cell? w3 ⟨w.heap.size, 0, none⟩ = some (.int .i64 k) := X3.cell 0
        have u1 : World.cell? w3 ⟨w.heap.size, 1, none⟩ = some (.int .i64 l) := X3.cell 1
        have u2 : World.cell? w3 ⟨w.heap.size, 2, none⟩ = some (.slice p zs.length cap) := X3.cell 2
        go_wp2_with fail
        refine (AD.out _ _ ⟨hr3, fun _ _ => Nat.zero_le _⟩).mono ?_
        rintro e w7 ⟨v7, rfl, hr7, fv7, hb7⟩
        obtain ⟨p7, c7, rfl⟩ := hr7.1.val
        have o17 := o1.next hr3 hr7.1 fv7 (by omega)
        have o27 := o2.next hr3 hr7.1 fv7 (by omega)
        have X7 := X3.below hb7 (Nat.le_refl _)
        have Z7 := Z3.below hb7 (Nat.le_refl _)
        have hs7 := hb7.size
        have hbw7 := hbw3.trans (hb7.mono (by omega))
        have fv9 := FrV.trans fv0 fv7 (by omega)
        have v0 : World.cell? w7 ⟨w.heap.size, 0, none⟩ = some (.int .i64 k) := X7.cell 0
        have vf0 := X7.free 0
        have v1 : World.cell? w7 ⟨w.heap.size, 1, none⟩ = some (.int .i64 l) := X7.cell 1
        have vf1 := X7.free 1
        have v2 : World.cell? w7 ⟨w.heap.size, 2, none⟩ = some (.slice p zs.length cap) := X7.cell 2
        have vf2 := X7.free 2
        have hne : w.heap.size + 1 ≠ w.heap.size := by omega
        have X8 := (X7.set 1 (.int .i64 l)).set 2 (.slice p7 zsR.length c7)
        have Z8 := (Z7.set_other 1 (.int .i64 l) hne).set_other 2 (.slice p7 zsR.length c7) hne
        have hr8 := (hr7.1.set_off o17 1 (.int .i64 l)).set_off o17 2 (.slice p7 zsR.length c7)
        have hbw8 := (hbw7.setCell (p := ⟨w.heap.size, 1, none⟩) (Nat.le_refl _) (.int .i64 l)).setCell (p := ⟨w.heap.size, 2, none⟩) (Nat.le_refl _) (.slice p7 zsR.length c7)
        have tx0 : World.cell? _ ⟨w.heap.size, 0, none⟩ = some (.int .i64 k) := X8.cell 0
        have tx1 : World.cell? _ ⟨w.heap.size, 1, none⟩ = some (.int .i64 l) := X8.cell 1
        have tx2 : World.cell? _ ⟨w.heap.size, 2, none⟩ = some (.slice p7 zsR.length c7) := X8.cell 2
        have tz0 : World.cell? _ ⟨w.heap.size + 1, 0, none⟩ = some (.int .i64 0) := Z8.cell 0
        have tzf0 := Z8.free 0
        have tz1 : World.cell? _ ⟨w.heap.size + 1, 1, none⟩ = some (.int .i64 0) := Z8.cell 1
        have tzf1 := Z8.free 1
        have tz2 : World.cell? _ ⟨w.heap.size + 1, 2, none⟩ = some (.slice none 0 0) := Z8.cell 2
        have tzf2 := Z8.free 2
        go_wp2_with fail
        have Z9 := ((Z8.set 0 (.int .i64 k)).set 1 (.int .i64 l)).set 2 (.slice p7 zsR.length c7)
        have z90 : World.cell? _ ⟨w.heap.size + 1, 0, none⟩ = some (.int .i64 k) := Z9.cell 0
        have z91 : World.cell? _ ⟨w.heap.size + 1, 1, none⟩ = some (.int .i64 l) := Z9.cell 1
        have z92 : World.cell? _ ⟨w.heap.size + 1, 2, none⟩ = some (.slice p7 zsR.length c7) := Z9.cell 2
        refine bodyPost_ret (v := .tuple #[.agg #[.int .i64 k, .int .i64 l, .slice p7 zsR.length c7], .int .i64 0]) (by simp [results, Tryz.results136, go_sem, z90, z91, z92]) rfl ⟨_, rfl, ((hr8.set_off o27 _ _).set_off o27 _ _).set_off o27 _ _, fv9, ?_⟩
        exact ((hbw8.setCell (p := ⟨w.heap.size + 1, 0, none⟩) (by show w.heap.size ≤ w.heap.size + 1; omega) _).setCell (p := ⟨w.heap.size + 1, 1, none⟩) (by show w.heap.size ≤ w.heap.size + 1; omega) _).setCell (p := ⟨w.heap.size + 1, 2, none⟩) (by show w.heap.size ≤ w.heap.size + 1; omega) _
      · have hfl : (fl == 0) = false := by simpa using hc0
        clear hc0
        go_enter Tryz.func136, Tryz.ntmps136
        go_wp2_with fail
        refine (TL.out _).mono ?_
        rintro e w' ⟨rfl, rfl⟩
        generalize ((w.alloc (.cells #[.int .i64 k, .int .i64 l, .slice p zs.length cap] 37)).alloc (.cells #[.int .i64 0, .int .i64 0, .slice none 0 0] 37)) = w1 at *
        have x0 : World.cell? w1 ⟨w.heap.size, 0, none⟩ = some (.int .i64 k) := X.cell 0
        have x1 : World.cell? w1 ⟨w.heap.size, 1, none⟩ = some (.int .i64 l) := X.cell 1
        have x2 : World.cell? w1 ⟨w.heap.size, 2, none⟩ = some (.slice p zs.length cap) := X.cell 2
        go_wp2_with fail
        refine (WT.out _ hr1).mono ?_
        rintro e w2 ⟨rfl, hb2⟩
        have X2 := X.below hb2 (Nat.le_refl _)
        have Z2 := Z.below hb2 (Nat.le_refl _)
        have hr2 := hr1.below hb2 (Nat.le_refl _)
        have hs2 := hb2.size
        have hbw2 := hb0.trans (hb2.mono (by omega))
        have y0 : World.cell? w2 ⟨w.heap.size, 0, none⟩ = some (.int .i64 k) := X2.cell 0
        have y1 : World.cell? w2 ⟨w.heap.size, 1, none⟩ = some (.int .i64 l) := X2.cell 1
        have y2 : World.cell? w2 ⟨w.heap.size, 2, none⟩ = some (.slice p zs.length cap) := X2.cell 2
        go_wp2_with fail
        refine (GT.out _ hr2).mono ?_
        rintro e w3 ⟨rfl, hb3⟩
        have X3 := X2.below hb3 (Nat.le_refl _)
        have Z3 := Z2.below hb3 (Nat.le_refl _)
        have hr3 := hr2.below hb3 (Nat.le_refl _)
        have hs3 := hb3.size
        have hbw3 := hbw2.trans (hb3.mono (by omega))
        have u0 : World.cell? w3 ⟨w.heap.size, 0, none⟩ = some (.int .i64 k) := X3.cell 0
        have u1 : World.cell? w3 ⟨w.heap.size, 1, none⟩ = some (.int .i64 l) := X3.cell 1
        have u2 : World.cell? w3 ⟨w.heap.size, 2, none⟩ = some (.slice p zs.length cap) := X3.cell 2
        go_wp2_with fail
        refine (AD.out _ _ ⟨hr3, fun _ _ => Nat.zero_le _⟩).mono ?_
        rintro e w7 ⟨v7, rfl, hr7, fv7, hb7⟩
        obtain ⟨p7, c7, rfl⟩ := hr7.1.val
        have o17 := o1.next hr3 hr7.1 fv7 (by omega)
        have o27 := o2.next hr3 hr7.1 fv7 (by omega)
        have X7 := X3.below hb7 (Nat.le_refl _)
        have Z7 := Z3.below hb7 (Nat.le_refl _)
        have hs7 := hb7.size
        have hbw7 := hbw3.trans (hb7.mono (by omega))
        have fv9 := FrV.trans fv0 fv7 (by omega)
        have v0 : World.cell? w7 ⟨w.heap.size, 0, none⟩ = some (.int .i64 k) := X7.cell 0
        have vf0 := X7.free 0
        have v1 : World.cell? w7 ⟨w.heap.size, 1, none⟩ = some (.int .i64 l) := X7.cell 1
        have vf1 := X7.free 1
        have v2 : World.cell? w7 ⟨w.heap.size, 2, none⟩ = some (.slice p zs.length cap) := X7.cell 2
        have vf2 := X7.free 2
        have hne : w.heap.size + 1 ≠ w.heap.size := by omega
        have X8 := (X7.set 1 (.int .i64 l)).set 2 (.slice p7 zsR.length c7)
        have Z8 := (Z7.set_other 1 (.int .i64 l) hne).set_other 2 (.slice p7 zsR.length c7) hne
        have hr8 := (hr7.1.set_off o17 1 (.int .i64 l)).set_off o17 2 (.slice p7 zsR.length c7)
        have hbw8 := (hbw7.setCell (p := ⟨w.heap.size, 1, none⟩) (Nat.le_refl _) (.int .i64 l)).setCell (p := ⟨w.heap.size, 2, none⟩) (Nat.le_refl _) (.slice p7 zsR.length c7)
        have tx0 : World.cell? _ ⟨w.heap.size, 0, none⟩ = some (.int .i64 k) := X8.cell 0
        have tx1 : World.cell? _ ⟨w.heap.size, 1, none⟩ = some (.int .i64 l) := X8.cell 1
        have tx2 : World.cell? _ ⟨w.heap.size, 2, none⟩ = some (.slice p7 zsR.length c7) := X8.cell 2
        have tz0 : World.cell? _ ⟨w.heap.size + 1, 0, none⟩ = some (.int .i64 0) := Z8.cell 0
        have tzf0 := Z8.free 0
        have tz1 : World.cell? _ ⟨w.heap.size + 1, 1, none⟩ = some (.int .i64 0) := Z8.cell 1
        have tzf1 := Z8.free 1
        have tz2 : World.cell? _ ⟨w.heap.size + 1, 2, none⟩ = some (.slice none 0 0) := Z8.cell 2
        have tzf2 := Z8.free 2
        go_wp2_with fail
        have Z9 := ((Z8.set 0 (.int .i64 k)).set 1 (.int .i64 l)).set 2 (.slice p7 zsR.length c7)
        have z90 : World.cell? _ ⟨w.heap.size + 1, 0, none⟩ = some (.int .i64 k) := Z9.cell 0
        have z91 : World.cell? _ ⟨w.heap.size + 1, 1, none⟩ = some (.int .i64 l) := Z9.cell 1
        have z92 : World.cell? _ ⟨w.heap.size + 1, 2, none⟩ = some (.slice p7 zsR.length c7) := Z9.cell 2
        refine bodyPost_ret (v := .tuple #[.agg #[.int .i64 k, .int .i64 l, .slice p7 zsR.length c7], .int .i64 0]) (by simp [results, Tryz.results136, go_sem, z90, z91, z92]) rfl ⟨_, rfl, ((hr8.set_off o27 _ _).set_off o27 _ _).set_off o27 _ _, fv9, ?_⟩
        exact ((hbw8.setCell (p := ⟨w.heap.size + 1, 0, none⟩) (by show w.heap.size ≤ w.heap.size + 1; omega) _).setCell (p := ⟨w.heap.size + 1, 1, none⟩) (by show w.heap.size ≤ w.heap.size + 1; omega) _).setCell (p := ⟨w.heap.size + 1, 2, none⟩) (by show w.heap.size ≤ w.heap.size + 1; omega) _
  · simp only [if_true]
    have AD0 := fun W v (q : RdB W 0 v (comL l k zs).1) => r_stadd l (leafV l x) wt W q (Nat.zero_le _) (by omega) bl bl2 ⟨b1, b2⟩ ⟨by rw [f1.roll.tot, f2]; exact hs.1, by rw [f1.roll.tot, f2]; exact hs.2⟩
    simp only [stAdd_ok f1.roll lf1 (show 0 ≤ wt by omega) (show sumL (comL l k zs).1 + wt ≤ 72057594037927935 by omega)] at AD0
    have AD := hid AD0
    have CM := hid (fun W (q : RdN W (.slice p zs.length cap) zs) => r_dcompress k q hl hroll ⟨by omega, by omega⟩)
    have hcond : findL (leafV l x) zs = 0 ∧ ((zs.length : Int) == 8 * k) = true := by
      simp only [fullB, Bool.and_eq_true, beq_iff_eq, decide_eq_true_eq] at hF
      exact ⟨hF.1, by simp; omega⟩
    obtain ⟨hc0, hc⟩ := hcond
    rw [hc0] at GT
    generalize addS (comL l k zs).1 (leafV l x) wt = zsR at *
    generalize comL l k zs = C at *
    obtain ⟨zsC, stC⟩ := C
    simp only at AD CM
    generalize leafV l x = lf at *
    generalize sumL zs = S at *
    clear AD0 hF lf1 lf2 hx f1 f2 f3 f4 inv hroll hc0
    go_enter Tryz.func136, Tryz.ntmps136
    go_wp2_with fail
    refine (TL.out _).mono ?_
    rintro e w' ⟨rfl, rfl⟩
    generalize ((w.alloc (.cells #[.int .i64 k, .int .i64 l, .slice p zs.length cap] 37)).alloc (.cells #[.int .i64 0, .int .i64 0, .slice none 0 0] 37)) = w1 at *
    have x0 : World.cell? w1 ⟨w.heap.size, 0, none⟩ = some (.int .i64 k) := X.cell 0
    have x1 : World.cell? w1 ⟨w.heap.size, 1, none⟩ = some (.int .i64 l) := X.cell 1
    have x2 : World.cell? w1 ⟨w.heap.size, 2, none⟩ = some (.slice p zs.length cap) := X.cell 2
    go_wp2_with fail
    refine (WT.out _ hr1).mono ?_
    rintro e w2 ⟨rfl, hb2⟩
    have X2 := X.below hb2 (Nat.le_refl _)
    have Z2 := Z.below hb2 (Nat.le_refl _)
    have hr2 := hr1.below hb2 (Nat.le_refl _)
    have hs2 := hb2.size
    have hbw2 := hb0.trans (hb2.mono (by omega))
    have y0 : World.cell? w2 ⟨w.heap.size, 0, none⟩ = some (.int .i64 k) := X2.cell 0
    have y1 : World.cell? w2 ⟨w.heap.size, 1, none⟩ = some (.int .i64 l) := X2.cell 1
    have y2 : World.cell? w2 ⟨w.heap.size, 2, none⟩ = some (.slice p zs.length cap) := X2.cell 2
    go_wp2_with fail
    refine (GT.out _ hr2).mono ?_
    rintro e w3 ⟨rfl, hb3⟩
    have X3 := X2.below hb3 (Nat.le_refl _)
    have Z3 := Z2.below hb3 (Nat.le_refl _)
    have hr3 := hr2.below hb3 (Nat.le_refl _)
    have hs3 := hb3.size
    have hbw3 := hbw2.trans (hb3.mono (by omega))
    have u0 : World.cell? w3 ⟨w.heap.size, 0, none⟩ = some (.int .i64 k) := X3.cell 0
    have u1 : World.cell? w3 ⟨w.heap.size, 1, none⟩ = some (.int .i64 l) := X3.cell 1
    have u2 : World.cell? w3 ⟨w.heap.size, 2, none⟩ = some (.slice p zs.length cap) := X3.cell 2
    go_wp2_with fail
    refine (CM.out _ hr3).mono ?_
    rintro e w4 ⟨v4, rfl, hr4, fv4, hb4⟩
    obtain ⟨p4, c4, rfl⟩ := hr4.val
    have o14 := o1.next hr3 hr4 fv4 (by omega)
    have o24 := o2.next hr3 hr4 fv4 (by omega)
    have X4 := X3.below hb4 (Nat.le_refl _)
    have Z4 := Z3.below hb4 (Nat.le_refl _)
    have hs4 := hb4.size
    have hbw4 := hbw3.trans (hb4.mono (by omega))
    have fv5 := FrV.trans fv0 fv4 (by omega)
    have hne0 : w.heap.size + 1 ≠ w.heap.size := by omega
    have s0 : World.cell? w4 ⟨w.heap.size, 0, none⟩ = some (.int .i64 k) := X4.cell 0
    have sf0 := X4.free 0
    have s1 : World.cell? w4 ⟨w.heap.size, 1, none⟩ = some (.int .i64 l) := X4.cell 1
    have sf1 := X4.free 1
    have s2 : World.cell? w4 ⟨w.heap.size, 2, none⟩ = some (.slice p zs.length cap) := X4.cell 2
    have sf2 := X4.free 2
    have X5 := ((X4.set 0 (.int .i64 k)).set 1 (.int .i64 l)).set 2 (.slice p4 zsC.length c4)
    have Z5 := ((Z4.set_other 0 (.int .i64 k) hne0).set_other 1 (.int .i64 l) hne0).set_other 2 (.slice p4 zsC.length c4) hne0
    have hr5 := ((hr4.set_off o14 0 (.int .i64 k)).set_off o14 1 (.int .i64 l)).set_off o14 2 (.slice p4 zsC.length c4)
    have hbw5 := ((hbw4.setCell (p := ⟨w.heap.size, 0, none⟩) (Nat.le_refl _) (.int .i64 k)).setCell (p := ⟨w.heap.size, 1, none⟩) (Nat.le_refl _) (.int .i64 l)).setCell (p := ⟨w.heap.size, 2, none⟩) (Nat.le_refl _) (.slice p4 zsC.length c4)
    have hs5 : (((w4.setCell ⟨w.heap.size, 0, none⟩ (.int .i64 k)).setCell ⟨w.heap.size, 1, none⟩ (.int .i64 l)).setCell ⟨w.heap.size, 2, none⟩ (.slice p4 zsC.length c4)).heap.size = w4.heap.size := by simp
    have q0 : World.cell? _ ⟨w.heap.size, 0, none⟩ = some (.int .i64 k) := X5.cell 0
    have q1 : World.cell? _ ⟨w.heap.size, 1, none⟩ = some (.int .i64 l) := X5.cell 1
    have q2 : World.cell? _ ⟨w.heap.size, 2, none⟩ = some (.slice p4 zsC.length c4) := X5.cell 2
    go_wp2_with fail
    refine (AD.out _ _ ⟨hr5, fun _ _ => Nat.zero_le _⟩).mono ?_
    rintro e w7 ⟨v7, rfl, hr7, fv7, hb7⟩
    obtain ⟨p7, c7, rfl⟩ := hr7.1.val
    have o17 := o14.next hr5 hr7.1 fv7 (by omega)
    have o27 := o24.next hr5 hr7.1 fv7 (by omega)
    have X7 := X5.below hb7 (Nat.le_refl _)
    have Z7 := Z5.below hb7 (Nat.le_refl _)
    have hs7 := hb7.size
    have hbw7 := hbw5.trans (hb7.mono (by omega))
    have fv9 := FrV.trans fv5 fv7 (by omega)
    have v0 : World.cell? w7 ⟨w.heap.size, 0, none⟩ = some (.int .i64 k) := X7.cell 0
    have vf0 := X7.free 0
    have v1 : World.cell? w7 ⟨w.heap.size, 1, none⟩ = some (.int .i64 l) := X7.cell 1
    have vf1 := X7.free 1
    have v2 : World.cell? w7 ⟨w.heap.size, 2, none⟩ = some (.slice p4 zsC.length c4) := X7.cell 2
    have vf2 := X7.free 2
    have hne : w.heap.size + 1 ≠ w.heap.size := by omega
    have X8 := (X7.set 1 (.int .i64 l)).set 2 (.slice p7 zsR.length c7)
    have Z8 := (Z7.set_other 1 (.int .i64 l) hne).set_other 2 (.slice p7 zsR.length c7) hne
    have hr8 := (hr7.1.set_off o17 1 (.int .i64 l)).set_off o17 2 (.slice p7 zsR.length c7)
    have hbw8 := (hbw7.setCell (p := ⟨w.heap.size, 1, none⟩) (Nat.le_refl _) (.int .i64 l)).setCell (p := ⟨w.heap.size, 2, none⟩) (Nat.le_refl _) (.slice p7 zsR.length c7)
    have tx0 : World.cell? _ ⟨w.heap.size, 0, none⟩ = some (.int .i64 k) := X8.cell 0
    have tx1 : World.cell? _ ⟨w.heap.size, 1, none⟩ = some (.int .i64 l) := X8.cell 1
    have tx2 : World.cell? _ ⟨w.heap.size, 2, none⟩ = some (.slice p7 zsR.length c7) := X8.cell 2
    have tz0 : World.cell? _ ⟨w.heap.size + 1, 0, none⟩ = some (.int .i64 0) := Z8.cell 0
    have tzf0 := Z8.free 0
    have tz1 : World.cell? _ ⟨w.heap.size + 1, 1, none⟩ = some (.int .i64 0) := Z8.cell 1
    have tzf1 := Z8.free 1
    have tz2 : World.cell? _ ⟨w.heap.size + 1, 2, none⟩ = some (.slice none 0 0) := Z8.cell 2
    have tzf2 := Z8.free 2
    go_wp2_with fail
    have Z9 := ((Z8.set 0 (.int .i64 k)).set 1 (.int .i64 l)).set 2 (.slice p7 zsR.length c7)
    have z90 : World.cell? _ ⟨w.heap.size + 1, 0, none⟩ = some (.int .i64 k) := Z9.cell 0
    have z91 : World.cell? _ ⟨w.heap.size + 1, 1, none⟩ = some (.int .i64 l) := Z9.cell 1
    have z92 : World.cell? _ ⟨w.heap.size + 1, 2, none⟩ = some (.slice p7 zsR.length c7) := Z9.cell 2
    refine bodyPost_ret (v := .tuple #[.agg #[.int .i64 k, .int .i64 l, .slice p7 zsR.length c7], .int .i64 0]) (by simp [results, Tryz.results136, go_sem, z90, z91, z92]) rfl ⟨_, rfl, ((hr8.set_off o27 _ _).set_off o27 _ _).set_off o27 _ _, fv9, ?_⟩
    exact ((hbw8.setCell (p := ⟨w.heap.size + 1, 0, none⟩) (by show w.heap.size ≤ w.heap.size + 1; omega) _).setCell (p := ⟨w.heap.size + 1, 1, none⟩) (by show w.heap.size ≤ w.heap.size + 1; omega) _).setCell (p := ⟨w.heap.size + 1, 2, none⟩) (by show w.heap.size ≤ w.heap.size + 1; omega) _

set_option maxRecDepth 100000 in
set_option maxHeartbeats 4000000 in
theorem r_ddo {w : World} {l k : Int} {zs : List Nd} {v : Value} (o x wt : Int) (hr : RdN w v zs) (hl : zs.length ≤ 2000) (inv : Dg l k zs) (bx : In64 x) (bw : In64 wt) :
    Calls Tryz.prog 78 #[.agg #[.int .i64 k, .int .i64 l, v], .agg #[.int .i64 o, .int .i64 x, .int .i64 wt]] w (RDgPost l k (dgDo l k zs o x wt) v w) := by
  obtain ⟨p, cap, rfl⟩ := hr.val
  have X := ((Blk.new w #[.int .i64 k, .int .i64 l, .slice p zs.length cap] 37).alloc (.cells #[.int .i64 o, .int .i64 x, .int .i64 wt] 94)).alloc (.cells #[.int .i64 0, .int .i64 0, .slice none 0 0] 37)
  have Y := (Blk.new (w.alloc (.cells #[.int .i64 k, .int .i64 l, .slice p zs.length cap] 37)) #[.int .i64 o, .int .i64 x, .int .i64 wt] 94).alloc (.cells #[.int .i64 0, .int .i64 0, .slice none 0 0] 37)
  have Z := Blk.new ((w.alloc (.cells #[.int .i64 k, .int .i64 l, .slice p zs.length cap] 37)).alloc (.cells #[.int .i64 o, .int .i64 x, .int .i64 wt] 94)) #[.int .i64 0, .int .i64 0, .slice none 0 0] 37
  simp only [World.size_alloc] at Y Z
  have hb0 : Below w.heap.size w (((w.alloc (.cells #[.int .i64 k, .int .i64 l, .slice p zs.length cap] 37)).alloc (.cells #[.int .i64 o, .int .i64 x, .int .i64 wt] 94)).alloc (.cells #[.int .i64 0, .int .i64 0, .slice none 0 0] 37)) := (((Below.refl _ _).alloc (Nat.le_refl _) _).alloc (by simp) _).alloc (by simp; omega) _
  have hsz : (((w.alloc (.cells #[.int .i64 k, .int .i64 l, .slice p zs.length cap] 37)).alloc (.cells #[.int .i64 o, .int .i64 x, .int .i64 wt] 94)).alloc (.cells #[.int .i64 0, .int .i64 0, .slice none 0 0] 37)).heap.size = w.heap.size + 3 := by simp
  have hr1 := hr.below hb0 (Nat.le_refl _)
  have o2 : NotIn (.slice p zs.length cap) zs (w.heap.size + 1 + 1) := NotIn.of_lt hr (by omega)
  have o1 : NotIn (.slice p zs.length cap) zs w.heap.size := NotIn.of_lt hr (Nat.le_refl _)
  have k1 := inv.k1
  have k2 := inv.k2
  by_cases h1 : o = 1
  · subst h1
    have C := hid (fun W (q : RdN W (.slice p zs.length cap) zs) => r_dcompress k q hl inv.roll ⟨by omega, by omega⟩)
    have e : dgDo l k zs 1 x wt = ((comL l k zs).1, ((comL l k zs).2.length : Int)) := rfl
    rw [e]
    generalize comL l k zs = R at *
    obtain ⟨zsR, st⟩ := R
    simp only at C
    clear e inv
    go_enter Tryz.func78, Tryz.ntmps78
    go_wp2_with fail
    refine (C.out _ hr1).mono ?_
    rintro e w2 ⟨v2, rfl, hr2, fv2, hb2⟩
    obtain ⟨p2, c2, rfl⟩ := hr2.val
    generalize (((w.alloc (.cells #[.int .i64 k, .int .i64 l, .slice p zs.length cap] 37)).alloc (.cells #[.int .i64 1, .int .i64 x, .int .i64 wt] 94)).alloc (.cells #[.int .i64 0, .int .i64 0, .slice none 0 0] 37)) = w1 at *
    have o22 := o2.next hr1 hr2 fv2 (by omega)
    have Z2 := Z.below hb2 (Nat.le_refl _)
    have hbw2 := hb0.trans (hb2.mono (by omega))
    have fvw := FrV.trans (.inl rfl : FrV (.slice p zs.length cap) (.slice p zs.length cap) w.heap.size) fv2 (by omega)
    have tz0 : World.cell? w2 ⟨w.heap.size + 1 + 1, 0, none⟩ = some (.int .i64 0) := Z2.cell 0
    have tzf0 := Z2.free 0
    have tz1 : World.cell? w2 ⟨w.heap.size + 1 + 1, 1, none⟩ = some (.int .i64 0) := Z2.cell 1
    have tzf1 := Z2.free 1
    have tz2 : World.cell? w2 ⟨w.heap.size + 1 + 1, 2, none⟩ = some (.slice none 0 0) := Z2.cell 2
    have tzf2 := Z2.free 2
    go_wp2_with fail
    have Z9 := ((Z2.set 0 (.int .i64 k)).set 1 (.int .i64 l)).set 2 (.slice p2 zsR.length c2)
    have z90 : World.cell? _ ⟨w.heap.size + 1 + 1, 0, none⟩ = some (.int .i64 k) := Z9.cell 0
    have z91 : World.cell? _ ⟨w.heap.size + 1 + 1, 1, none⟩ = some (.int .i64 l) := Z9.cell 1
    have z92 : World.cell? _ ⟨w.heap.size + 1 + 1, 2, none⟩ = some (.slice p2 zsR.length c2) := Z9.cell 2
    refine bodyPost_ret (v := .tuple #[.agg #[.int .i64 k, .int .i64 l, .slice p2 zsR.length c2], .int .i64 st.length]) (by simp [results, Tryz.results78, go_sem, z90, z91, z92]) rfl ⟨_, rfl, ((hr2.set_off o22 _ _).set_off o22 _ _).set_off o22 _ _, fvw, ?_⟩
    exact ((hbw2.setCell (p := ⟨w.heap.size + 1 + 1, 0, none⟩) (by show w.heap.size ≤ w.heap.size + 1 + 1; omega) _).setCell (p := ⟨w.heap.size + 1 + 1, 1, none⟩) (by show w.heap.size ≤ w.heap.size + 1 + 1; omega) _).setCell (p := ⟨w.heap.size + 1 + 1, 2, none⟩) (by show w.heap.size ≤ w.heap.size + 1 + 1; omega) _
  by_cases h2 : o = 2
  · subst h2
    have e : dgDo l k zs 2 x wt = ([], 0) := rfl
    rw [e]
    clear e inv h1
    go_enter Tryz.func78, Tryz.ntmps78
    go_wp2_with fail
    exact bodyPost_ret (v := .tuple #[.agg #[.int .i64 k, .int .i64 l, .slice none 0 0], .int .i64 0]) (by simp [results, Tryz.results78, go_sem]) rfl ⟨_, rfl, RdN.nil _, .inr none_lt, (((Below.refl _ _).alloc (Nat.le_refl _) _).alloc (by simp) _).alloc (by simp; omega) _⟩
  · have e : dgDo l k zs o x wt = dgIns l k zs x wt := by unfold dgDo; rw [if_neg h1, if_neg h2]
    have C := hid (fun W (q : RdN W (.slice p zs.length cap) zs) => r_dinsert x wt q hl inv bx bw)
    have q1 : (o == 1) = false := by simpa using h1
    have q2 : (o == 2) = false := by simpa using h2
    rw [e]
    generalize dgIns l k zs x wt = R at *
    obtain ⟨zsR, cd⟩ := R
    clear e inv h1 h2
    go_enter Tryz.func78, Tryz.ntmps78
    go_wp2_with fail
    refine (C.out _ hr1).mono ?_
    rintro e w2 ⟨v2, rfl, hr2, fv2, hb2⟩
    obtain ⟨p2, c2, rfl⟩ := hr2.val
    generalize (((w.alloc (.cells #[.int .i64 k, .int .i64 l, .slice p zs.length cap] 37)).alloc (.cells #[.int .i64 o, .int .i64 x, .int .i64 wt] 94)).alloc (.cells #[.int .i64 0, .int .i64 0, .slice none 0 0] 37)) = w1 at *
    have o22 := o2.next hr1 hr2 fv2 (by omega)
    have Z2 := Z.below hb2 (Nat.le_refl _)
    have hbw2 := hb0.trans (hb2.mono (by omega))
    have fvw := FrV.trans (.inl rfl : FrV (.slice p zs.length cap) (.slice p zs.length cap) w.heap.size) fv2 (by omega)
    have tz0 : World.cell? w2 ⟨w.heap.size + 1 + 1, 0, none⟩ = some (.int .i64 0) := Z2.cell 0
    have tzf0 := Z2.free 0
    have tz1 : World.cell? w2 ⟨w.heap.size + 1 + 1, 1, none⟩ = some (.int .i64 0) := Z2.cell 1
    have tzf1 := Z2.free 1
    have tz2 : World.cell? w2 ⟨w.heap.size + 1 + 1, 2, none⟩ = some (.slice none 0 0) := Z2.cell 2
    have tzf2 := Z2.free 2
    go_wp2_with fail
    have Z9 := ((Z2.set 0 (.int .i64 k)).set 1 (.int .i64 l)).set 2 (.slice p2 zsR.length c2)
    have z90 : World.cell? _ ⟨w.heap.size + 1 + 1, 0, none⟩ = some (.int .i64 k) := Z9.cell 0
    have z91 : World.cell? _ ⟨w.heap.size + 1 + 1, 1, none⟩ = some (.int .i64 l) := Z9.cell 1
    have z92 : World.cell? _ ⟨w.heap.size + 1 + 1, 2, none⟩ = some (.slice p2 zsR.length c2) := Z9.cell 2
    refine bodyPost_ret (v := .tuple #[.agg #[.int .i64 k, .int .i64 l, .slice p2 zsR.length c2], .int .i64 cd]) (by simp [results, Tryz.results78, go_sem, z90, z91, z92]) rfl ⟨_, rfl, ((hr2.set_off o22 _ _).set_off o22 _ _).set_off o22 _ _, fvw, ?_⟩
    exact ((hbw2.setCell (p := ⟨w.heap.size + 1 + 1, 0, none⟩) (by show w.heap.size ≤ w.heap.size + 1 + 1; omega) _).setCell (p := ⟨w.heap.size + 1 + 1, 1, none⟩) (by show w.heap.size ≤ w.heap.size + 1 + 1; omega) _).setCell (p := ⟨w.heap.size + 1 + 1, 2, none⟩) (by show w.heap.size ≤ w.heap.size + 1 + 1; omega) _
end Go.Proofs.YtbbkfjbaocpknaaGreat
