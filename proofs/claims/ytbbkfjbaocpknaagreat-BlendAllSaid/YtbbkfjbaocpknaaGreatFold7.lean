/- The walks of the reference's Do, and of its Same of ints. -/
import Derived.Test.YtbbkfjbaocpknaaGreatFold6
namespace Go.Proofs.YtbbkfjbaocpknaaGreat
open Go.RowKit Nl

/-- The same slice, or one from B on. -/
def FrV (v v' : Value) (B : Nat) : Prop := v' = v ∨ ∀ k, v'.ownBlock = some k → B ≤ k
theorem FrV.trans {v v1 v2 : Value} {B n : Nat} (h : FrV v v1 B) (k : FrV v1 v2 n) (hn : B ≤ n) : FrV v v2 B := by
  rcases k with rfl | k
  · exact h
  · exact .inr fun q hq => Nat.le_trans hn (k q hq)
def FdoPost (l : Int) (r : List Nd × Int) (B : Nat) (v0 : Value) (w : World) (e : Ending) (w' : World) : Prop :=
  ∃ v, e = .returned (.tuple #[.agg #[.int .i64 l, v], .int .i64 r.2]) ∧ RdB w' B v r.1 ∧ FrV v0 v w.heap.size ∧ Below w.heap.size w w'

def ISameRel (xs ys : List Int) (w1 : World) (i : Value) (wr : World) : Prop := ∃ k : Nat, i = .int .i64 k ∧ k ≤ xs.length ∧ Hid (∀ j, j < k → xs.getD j 0 = ys.getD j 0) ∧ ∃ n, wr = w1.drewN n
theorem Nl.ext_getD {xs ys : List Int} (hl : xs.length = ys.length) (h : ∀ j, j < xs.length → xs.getD j 0 = ys.getD j 0) : xs = ys := by
  apply List.ext_getElem hl
  intro i h1 h2
  have := h i h1
  simpa [List.getD, List.getElem?_eq_getElem h1, List.getElem?_eq_getElem h2] using this
/-- A list's slice does not lie in a block. -/
def NotIn (v : Value) (xs : List Nd) (g : Nat) : Prop := xs = [] ∨ ∀ k, v.ownBlock = some k → k ≠ g
theorem RdN.set_off {w : World} {v : Value} {xs : List Nd} {g : Nat} (h : RdN w v xs) (o : NotIn v xs g) (j : Nat) (u : Value) : RdN (w.setCell ⟨g, j, Option.none⟩ u) v xs := by
  rcases o with rfl | o
  · exact h.any
  · exact h.keep (fun k _ hk => Below.heap_setCell _ ⟨g, j, Option.none⟩ _ k (o k hk)) (by simp)
theorem RdN.tch2 {w w' : World} {v : Value} {xs : List Nd} {g h : Nat} (r : RdN w v xs) (o1 : NotIn v xs g) (o2 : NotIn v xs h) (t : Tch g h w w') : RdN w' v xs := by
  rcases o1 with rfl | o1
  · exact r.any
  · rcases o2 with rfl | o2
    · exact r.any
    · exact r.keep (fun k hk hb => t.block k hk (o1 k hb) (o2 k hb)) t.size
theorem NotIn.of_lt {w : World} {v : Value} {xs : List Nd} {g : Nat} (h : RdN w v xs) (hg : w.heap.size ≤ g) : NotIn v xs g := by
  rcases h.ltE with h | h
  · exact .inl h
  · exact .inr fun k hk => by have := h k hk; omega
theorem NotIn.next {w w' : World} {v v' : Value} {xs xs' : List Nd} {g n : Nat} (o : NotIn v xs g) (h : RdN w v xs) (h' : RdN w' v' xs') (hv : v' = v ∨ ∀ k, v'.ownBlock = some k → n ≤ k) (hg : g < n) : NotIn v' xs' g := by
  rcases hv with rfl | hv
  · rcases o with rfl | o
    · obtain ⟨p, c, e⟩ := h.val
      obtain ⟨p', c', e'⟩ := h'.val
      rw [e] at e'
      simp only [List.length_nil, Value.slice.injEq] at e'
      exact .inl (List.eq_nil_of_length_eq_zero e'.2.1.symm)
    · exact .inr o
  · exact .inr fun k hk => by have := hv k hk; omega

set_option maxRecDepth 100000 in
set_option maxHeartbeats 1000000 in
theorem r_fdo {l : Int} {v : Value} {zs : List Nd} {B : Nat} (p : Int) (w : World) (hr : RdB w B v zs) (hB : B ≤ w.heap.size) (hl : zs.length ≤ 90000) (hroll : Roll l zs) (bp : In64 p) :
    Calls Tryz.prog 139 #[.agg #[.int .i64 l, v], .int .i64 p] w (FdoPost l (foldDo l zs p) B v w) := by
  obtain ⟨pp, cap, rfl⟩ := hr.1.val
  have hrw := hr
  have M := hid (fun W (x : RdN W (.slice pp zs.length cap) zs) => r_mass p x (by omega) hroll bp)
  have X := (Blk.new w #[.int .i64 l, .slice pp zs.length cap] 35).alloc (.cells #[.int .i64 0, .slice none 0 0] 35)
  have Z := Blk.new (w.alloc (.cells #[.int .i64 l, .slice pp zs.length cap] 35)) #[.int .i64 0, .slice none 0 0] 35
  rw [World.size_alloc] at Z
  have hb0 : Below w.heap.size w ((w.alloc (.cells #[.int .i64 l, .slice pp zs.length cap] 35)).alloc (.cells #[.int .i64 0, .slice none 0 0] 35)) := ((Below.refl _ _).alloc (Nat.le_refl _) _).alloc (by simp) _
  have hsz : ((w.alloc (.cells #[.int .i64 l, .slice pp zs.length cap] 35)).alloc (.cells #[.int .i64 0, .slice none 0 0] 35)).heap.size = w.heap.size + 2 := by simp
  have hr0 := hr.below hb0 (Nat.le_refl _)
  have o1 : NotIn (.slice pp zs.length cap) zs w.heap.size := NotIn.of_lt hr.1 (Nat.le_refl _)
  have o2 : NotIn (.slice pp zs.length cap) zs (w.heap.size + 1) := NotIn.of_lt hr.1 (by omega)
  have hpv := hroll.find (2 * p)
  by_cases h0 : pairV l zs p = 0
  · have e1 := fold_zero hroll h0
    rw [h0] at M
    have E1 := hid e1
    clear e1 h0
    go_enter Tryz.func139, Tryz.ntmps139
    go_wp2_with fail
    refine (M.out _ hr0.1).mono ?_
    rintro e w2 ⟨rfl, hb2⟩
    generalize ((w.alloc (.cells #[.int .i64 l, .slice pp zs.length cap] 35)).alloc (.cells #[.int .i64 0, .slice none 0 0] 35)) = w1 at *
    have X2 := X.below hb2 (Nat.le_refl _)
    have Z2 := Z.below hb2 (Nat.le_refl _)
    have x0 : w2.cell? ⟨w.heap.size, 0, none⟩ = some (.int .i64 l) := X2.cell 0
    have x1 : w2.cell? ⟨w.heap.size, 1, none⟩ = some (.slice pp zs.length cap) := X2.cell 1
    have z0 : w2.cell? ⟨w.heap.size + 1, 0, none⟩ = some (.int .i64 0) := Z2.cell 0
    have z1 : w2.cell? ⟨w.heap.size + 1, 1, none⟩ = some (.slice none 0 0) := Z2.cell 1
    have f0 := Z2.free 0
    have f1 := Z2.free 1
    have hs2 := hb2.size
    have hr2 := hr0.below hb2 (Nat.le_refl _)
    go_wp2_with fail
    have Z3 := (Z2.set 0 (.int .i64 l)).set 1 (.slice pp zs.length cap)
    have z30 : World.cell? _ ⟨w.heap.size + 1, 0, none⟩ = some (.int .i64 l) := Z3.cell 0
    have z31 : World.cell? _ ⟨w.heap.size + 1, 1, none⟩ = some (.slice pp zs.length cap) := Z3.cell 1
    refine bodyPost_ret (v := .tuple #[.agg #[.int .i64 l, .slice pp zs.length cap], .int .i64 0]) (by simp [results, Tryz.results139, go_sem, z30, z31]) rfl ⟨.slice pp zs.length cap, by rw [E1.out], ?_, .inl rfl, ?_⟩
    · rw [E1.out]
      exact ⟨(hr2.1.set_off o2 _ _).set_off o2 _ _, hr2.2⟩
    · exact ((hb0.trans (hb2.mono (by omega))).setCell (p := ⟨w.heap.size + 1, 0, none⟩) (by show w.heap.size ≤ w.heap.size + 1; omega) _).setCell (p := ⟨w.heap.size + 1, 1, none⟩) (by show w.heap.size ≤ w.heap.size + 1; omega) _
  · have hk : kidsB l p = true := by
      cases hk : kidsB l p
      · exact absurd (by unfold pairV; rw [hk]; rfl) h0
      · rfl
    obtain ⟨kb1, kb2⟩ := kids_bound hk
    have e3 : foldDo l zs p = ((stAdd l (stTake (stTake zs (2 * p)).1 (2 * p + 1)).1 p ((stTake zs (2 * p)).2 + (stTake (stTake zs (2 * p)).1 (2 * p + 1)).2)).1, (stTake zs (2 * p)).2 + (stTake (stTake zs (2 * p)).1 (2 * p + 1)).2) := by unfold foldDo; rw [hk]; rfl
    have e4 := fold_pair l zs p
    rw [e3] at e4 ⊢
    have r1 := hroll.take (2 * p)
    have r2 := r1.take (2 * p + 1)
    have b1 := hroll.find (2 * p)
    have b2 := r1.find (2 * p + 1)
    have b3 := r1.most
    have b4 := hroll.most
    have b5 := r2.sum
    have t5 := r2.tot
    have l1 := stTake_len zs (2 * p)
    have l2 := stTake_len (stTake zs (2 * p)).1 (2 * p + 1)
    have n1 : (stTake zs (2 * p)).2 = findL (2 * p) zs := rfl
    have n2 : (stTake (stTake zs (2 * p)).1 (2 * p + 1)).2 = findL (2 * p + 1) (stTake zs (2 * p)).1 := rfl
    rw [← n1] at b1
    rw [← n2] at b2
    have T1 := hid (fun W (x : RdB W B (.slice pp zs.length cap) zs) (h : B ≤ W.heap.size) => r_sttake l (2 * p) W x h (by omega))
    have bl : -9223372036854775808 ≤ l ∧ l ≤ 9223372036854775807 := ⟨by have := hroll.l1; omega, by have := hroll.l2; omega⟩
    simp only at e4
    rw [← e4] at h0 M
    clear n1 n2 e3 e4 hk r1 r2 hroll hpv
    generalize stTake zs (2 * p) = z1 at *
    obtain ⟨zs1, y1⟩ := z1
    simp only at *
    have T2 := hid (fun W v (x : RdB W B v zs1) (h : B ≤ W.heap.size) => r_sttake l (2 * p + 1) W x h (by omega))
    generalize stTake zs1 (2 * p + 1) = z2 at *
    obtain ⟨zs2, y2⟩ := z2
    simp only at *
    have Ad := hid (fun W v (x : RdB W B v zs2) (h : B ≤ W.heap.size) => r_stadd l p (y1 + y2) W x h (by omega) bl bp ⟨by omega, by omega⟩ (by omega))
    have hy0 : (y1 + y2 == 0) = false := by simpa using h0
    have hyb : 0 ≤ y1 + y2 ∧ y1 + y2 ≤ 144115188075855870 := by omega
    generalize y1 + y2 = y at *
    generalize stAdd l zs2 p y = z3 at *
    obtain ⟨zs3, y3⟩ := z3
    simp only at *
    clear b1 b2 b3 b4 b5 t5 l1 l2 h0
    go_enter Tryz.func139, Tryz.ntmps139
    go_wp2_with fail
    refine (M.out _ hr0.1).mono ?_
    rintro e w2 ⟨rfl, hb2⟩
    generalize ((w.alloc (.cells #[.int .i64 l, .slice pp zs.length cap] 35)).alloc (.cells #[.int .i64 0, .slice none 0 0] 35)) = w1 at *
    have X2 := X.below hb2 (Nat.le_refl _)
    have Z2 := Z.below hb2 (Nat.le_refl _)
    have x0 : w2.cell? ⟨w.heap.size, 0, none⟩ = some (.int .i64 l) := X2.cell 0
    have x1 : w2.cell? ⟨w.heap.size, 1, none⟩ = some (.slice pp zs.length cap) := X2.cell 1
    have hs2 := hb2.size
    have hr2 := hr0.below hb2 (Nat.le_refl _)
    have hbw2 := hb0.trans (hb2.mono (by omega))
    clear X Z hr0 hr hb2
    go_wp2_with fail
    refine (T1.out w2 hr2 (by omega)).mono ?_
    rintro e w3 ⟨v3, rfl, hr3, hv3, hb3⟩
    obtain ⟨p3, c3, rfl⟩ := hr3.1.val
    have o13 := o1.next hr2.1 hr3.1 hv3 (by omega)
    have o23 := o2.next hr2.1 hr3.1 hv3 (by omega)
    have X3 := X2.below hb3 (Nat.le_refl _)
    have Z3 := Z2.below hb3 (Nat.le_refl _)
    have x30 : w3.cell? ⟨w.heap.size, 0, none⟩ = some (.int .i64 l) := X3.cell 0
    have x31 : w3.cell? ⟨w.heap.size, 1, none⟩ = some (.slice pp zs.length cap) := X3.cell 1
    have f30 := X3.free 0
    have f31 := X3.free 1
    have hs3 := hb3.size
    have hbw3 := hbw2.trans (hb3.mono (by omega))
    have fv3 : FrV (.slice pp zs.length cap) (.slice p3 zs1.length c3) w.heap.size := FrV.trans (.inl rfl) hv3 (by omega)
    clear x0 x1 X2 Z2 hb3 hv3 o1 o2
    go_wp2_with fail
    have X4 := (X3.set 0 (.int .i64 l)).set 1 (.slice p3 zs1.length c3)
    have Z4 := (Z3.set_other 0 (.int .i64 l) (show w.heap.size + 1 ≠ w.heap.size by omega)).set_other 1 (.slice p3 zs1.length c3) (show w.heap.size + 1 ≠ w.heap.size by omega)
    have hr4 : RdB ((w3.setCell ⟨w.heap.size, 0, none⟩ (.int .i64 l)).setCell ⟨w.heap.size, 1, none⟩ (.slice p3 zs1.length c3)) B (.slice p3 zs1.length c3) zs1 := ⟨(hr3.1.set_off o13 _ _).set_off o13 _ _, hr3.2⟩
    have hbw4 := (hbw3.setCell (p := ⟨w.heap.size, 0, none⟩) (Nat.le_refl _) (.int .i64 l)).setCell (p := ⟨w.heap.size, 1, none⟩) (Nat.le_refl _) (.slice p3 zs1.length c3)
    have hs4 : ((w3.setCell ⟨w.heap.size, 0, none⟩ (.int .i64 l)).setCell ⟨w.heap.size, 1, none⟩ (.slice p3 zs1.length c3)).heap.size = w3.heap.size := by simp
    clear x30 x31 f30 f31 X3 Z3 hr3
    generalize ((w3.setCell ⟨w.heap.size, 0, none⟩ (.int .i64 l)).setCell ⟨w.heap.size, 1, none⟩ (.slice p3 zs1.length c3)) = w4 at *
    refine (T2.out w4 _ hr4 (by omega)).mono ?_
    rintro e w5 ⟨v5, rfl, hr5, hv5, hb5⟩
    obtain ⟨p5, c5, rfl⟩ := hr5.1.val
    have o15 := o13.next hr4.1 hr5.1 hv5 (by omega)
    have o25 := o23.next hr4.1 hr5.1 hv5 (by omega)
    have X5 : Blk w5 w.heap.size #[.int .i64 l, .slice p3 zs1.length c3] 35 := X4.below hb5 (Nat.le_refl _)
    have Z5 := Z4.below hb5 (Nat.le_refl _)
    have x50 : w5.cell? ⟨w.heap.size, 0, none⟩ = some (.int .i64 l) := X5.cell 0
    have x51 : w5.cell? ⟨w.heap.size, 1, none⟩ = some (.slice p3 zs1.length c3) := X5.cell 1
    have f50 := X5.free 0
    have f51 := X5.free 1
    have hs5 := hb5.size
    have hbw5 := hbw4.trans (hb5.mono (by omega))
    have fv5 := FrV.trans fv3 hv5 (by omega)
    clear X4 Z4 hb5 hv5 o13 o23 hr4
    go_wp2_with fail
    have X6 := (X5.set 0 (.int .i64 l)).set 1 (.slice p5 zs2.length c5)
    have Z6 := (Z5.set_other 0 (.int .i64 l) (show w.heap.size + 1 ≠ w.heap.size by omega)).set_other 1 (.slice p5 zs2.length c5) (show w.heap.size + 1 ≠ w.heap.size by omega)
    have hr6 : RdB ((w5.setCell ⟨w.heap.size, 0, none⟩ (.int .i64 l)).setCell ⟨w.heap.size, 1, none⟩ (.slice p5 zs2.length c5)) B (.slice p5 zs2.length c5) zs2 := ⟨(hr5.1.set_off o15 _ _).set_off o15 _ _, hr5.2⟩
    have hbw6 := (hbw5.setCell (p := ⟨w.heap.size, 0, none⟩) (Nat.le_refl _) (.int .i64 l)).setCell (p := ⟨w.heap.size, 1, none⟩) (Nat.le_refl _) (.slice p5 zs2.length c5)
    have hs6 : ((w5.setCell ⟨w.heap.size, 0, none⟩ (.int .i64 l)).setCell ⟨w.heap.size, 1, none⟩ (.slice p5 zs2.length c5)).heap.size = w5.heap.size := by simp
    clear x50 x51 f50 f51 X5 Z5 hr5
    generalize ((w5.setCell ⟨w.heap.size, 0, none⟩ (.int .i64 l)).setCell ⟨w.heap.size, 1, none⟩ (.slice p5 zs2.length c5)) = w6 at *
    refine (Ad.out w6 _ hr6 (by omega)).mono ?_
    rintro e w7 ⟨v7, rfl, hr7, hv7, hb7⟩
    obtain ⟨p7, c7, rfl⟩ := hr7.1.val
    have o17 := o15.next hr6.1 hr7.1 hv7 (by omega)
    have o27 := o25.next hr6.1 hr7.1 hv7 (by omega)
    have X7 : Blk w7 w.heap.size #[.int .i64 l, .slice p5 zs2.length c5] 35 := X6.below hb7 (Nat.le_refl _)
    have Z7 := Z6.below hb7 (Nat.le_refl _)
    have x70 : w7.cell? ⟨w.heap.size, 0, none⟩ = some (.int .i64 l) := X7.cell 0
    have x71 : w7.cell? ⟨w.heap.size, 1, none⟩ = some (.slice p5 zs2.length c5) := X7.cell 1
    have z70 : w7.cell? ⟨w.heap.size + 1, 0, none⟩ = some (.int .i64 0) := Z7.cell 0
    have z71 : w7.cell? ⟨w.heap.size + 1, 1, none⟩ = some (.slice none 0 0) := Z7.cell 1
    have f70 := X7.free 0
    have f71 := X7.free 1
    have g70 := Z7.free 0
    have g71 := Z7.free 1
    have hs7 := hb7.size
    have hbw7 := hbw6.trans (hb7.mono (by omega))
    have fv7 := FrV.trans fv5 hv7 (by omega)
    clear X6 Z6 hb7 hv7 o15 o25 hr6
    go_wp2_with fail
    have hne1 : w.heap.size + 1 ≠ w.heap.size := by omega
    have Z8 := (((Z7.set_other 0 (.int .i64 l) hne1).set_other 1 (.slice p7 zs3.length c7) hne1).set 0 (.int .i64 l)).set 1 (.slice p7 zs3.length c7)
    have z80 : World.cell? _ ⟨w.heap.size + 1, 0, none⟩ = some (.int .i64 l) := Z8.cell 0
    have z81 : World.cell? _ ⟨w.heap.size + 1, 1, none⟩ = some (.slice p7 zs3.length c7) := Z8.cell 1
    refine bodyPost_ret (v := .tuple #[.agg #[.int .i64 l, .slice p7 zs3.length c7], .int .i64 y]) (by simp [results, Tryz.results139, go_sem, z80, z81]) rfl ⟨.slice p7 zs3.length c7, rfl, ⟨(((hr7.1.set_off o17 _ _).set_off o17 _ _).set_off o27 _ _).set_off o27 _ _, hr7.2⟩, fv7, ?_⟩
    exact (((hbw7.setCell (p := ⟨w.heap.size, 0, none⟩) (Nat.le_refl _) _).setCell (p := ⟨w.heap.size, 1, none⟩) (Nat.le_refl _) _).setCell (p := ⟨w.heap.size + 1, 0, none⟩) (by show w.heap.size ≤ w.heap.size + 1; omega) _).setCell (p := ⟨w.heap.size + 1, 1, none⟩) (by show w.heap.size ≤ w.heap.size + 1; omega) _
end Go.Proofs.YtbbkfjbaocpknaaGreat
