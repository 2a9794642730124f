/- The walks of the reference's layer 7: Take, Do. -/
import Derived.Test.YtipnnogafanemaaStore
import Derived.Deep.RegionHeld3
namespace Go.Proofs.Ytipnnogafanemaa
open Go.RowKit Nl

def TakeRel (w1 : World) (B : Nat) (xs : List Nd) (id : Int) (out i : Value) (wr : World) : Prop :=
  ∃ k : Nat, i = .int .i64 k ∧ k ≤ xs.length ∧ OwnN wr B out ((xs.take k).filter (fun x => x.1 ≠ id)) ∧ Below B w1 wr

theorem filter_step {xs : List Nd} {k : Nat} {a c id : Int} (hk : k < xs.length) (ex : xs.getD k (0, 0) = (a, c)) :
    (xs.take (k + 1)).filter (fun x => x.1 ≠ id) = (xs.take k).filter (fun x => x.1 ≠ id) ++ (if a = id then [] else [(a, c)]) := by
  rw [take_at (d := ((0, 0) : Nd)) xs k hk, ex, List.filter_append]
  by_cases h : a = id <;> simp [h]

set_option maxHeartbeats 2000000 in
theorem r_sttake {v : Value} {xs : List Nd} {B : Nat} (l id : Int) (w : World) (hr : RdB w B v xs) (hB : B ≤ w.heap.size) (hl : xs.length < 1000000) :
    Calls Try.prog 78 #[.agg #[.int .i64 l, v], .int .i64 id] w (StPost l (stTake xs id) B v w) := by
  obtain ⟨p, cap, rfl⟩ := hr.1.val
  obtain ⟨f, ef⟩ : ∃ t, findL id xs = t := ⟨_, rfl⟩
  have Ef := hid ef
  clear ef
  go_enter Try.func78, Try.ntmps78
  go_wp2_with fail
  refine (r_stget l id _ ((hr.1.alloc _).alloc _) (by omega)).mono ?_
  rintro e w1 ⟨rfl, hb1⟩
  rw [Ef.out]
  have hs1 := hb1.size
  simp at hs1
  have X : Blk w1 w.heap.size #[.int .i64 l, .slice p xs.length cap] 34 := ((Blk.new _ _ _).alloc _).below hb1 (Nat.le_refl _)
  have Y : Blk w1 (w.heap.size + 1) #[.int .i64 0, .slice none 0 0] 34 := by
    have h := Blk.new (w.alloc (.cells #[.int .i64 l, .slice p xs.length cap] 34)) #[.int .i64 0, .slice none 0 0] 34
    exact Blk.below (by simpa using h) hb1 (Nat.le_refl _)
  have hbw : Below w.heap.size w w1 := (((Below.refl _ _).alloc (Nat.le_refl _) _).alloc (by simp) _).trans (hb1.mono (by simp <;> omega))
  have hr1 := hr.below hbw (Nat.le_refl _)
  go_wp2_with fail
  go_loopw [7, 8] (fun out i wr => TakeRel w1 (w.heap.size + 2) xs id out i wr) (fun _ i _ => xs.length - (intOf i).toNat)
  case atStart => exact ⟨0, rfl, by omega, OwnN.nil _ _, Below.refl _ _⟩
  case round =>
    obtain ⟨k, rfl, hk, hown, hbl⟩ := hrel
    have hwr := hbl.size
    have hx1 : wr.cell? ⟨w.heap.size, 1, none⟩ = some (.slice p xs.length cap) := (X.below' hbl (by omega)).cell 1
    have hw1 : w.heap.size < wr.heap.size := by omega
    by_cases h1 : k < xs.length
    · have hr2 : RdN wr (.slice p xs.length cap) xs := hr.1.below (hbw.trans (hbl.mono (by omega))) (Nat.le_refl _)
      obtain ⟨g, off, a, c, rfl, ex, hg, c1, c2⟩ := hr2.at h1
      have hfs := filter_step (id := id) h1 ex
      have hln : ((xs.take k).filter (fun x => x.1 ≠ id)).length < 1048576 := by
        have := List.length_filter_le (fun x : Nd => decide (x.1 ≠ id)) (xs.take k)
        simp at this ⊢; omega
      obtain ⟨zs, ez⟩ : ∃ zs, (xs.take k).filter (fun x => x.1 ≠ id) = zs := ⟨_, rfl⟩
      rw [ez] at hown hfs hln
      by_cases h2 : a = id
      · have h3 : (a != id) = false := by simp [h2]
        rw [if_pos h2] at hfs
        have Hf := hid hfs
        clear hfs ez ex hr2 h2 hr hr1
        go_wp2_with fail
        go_roundw
        case rel => exact ⟨k + 1, by go_num, by omega, by rw [Hf.out]; simpa using hown, hbl⟩
        case measure => simp [intOf]; omega
      · have h3 : (a != id) = true := by simp [h2]
        rw [if_neg h2] at hfs
        have Hf := hid hfs
        clear hfs ez ex hr2 h2 hr hr1
        go_wp2_with (at_builtin; refine appendN (wr := wr) (b := a) (c := c) _ _ hown (by omega) (by omega) rfl rfl rfl rfl rfl ?_; intro v3 w3 ho3 hg3 hnn)
        go_roundw
        case rel => exact ⟨k + 1, by go_num, by omega, by rw [Hf.out]; exact ho3, hbl.trans (below_grown hg3 (by omega) hown.lt)⟩
        case measure => simp [intOf]; omega
    · have e : xs.take k = xs := List.take_of_length_le (by omega)
      rw [e] at hown
      obtain ⟨zs, ez⟩ : ∃ zs, xs.filter (fun x => x.1 ≠ id) = zs := ⟨_, rfl⟩
      rw [ez] at hown
      have Ez := hid ez
      have X4 := X.below' hbl (by omega)
      have Y4 := Y.below' hbl (by omega)
      have hx0 : wr.cell? ⟨w.heap.size, 0, none⟩ = some (.int .i64 l) := X4.cell 0
      have hy0 : wr.cell? ⟨w.heap.size + 1, 0, none⟩ = some (.int .i64 0) := Y4.cell 0
      have hy1 : wr.cell? ⟨w.heap.size + 1, 1, none⟩ = some (.slice none 0 0) := Y4.cell 1
      have hf0 := X4.free 0
      have hf1 := X4.free 1
      have hg0 := Y4.free 0
      have hg1 := Y4.free 1
      clear e ez
      obtain ⟨p4, cap4, rfl⟩ := hown.val
      go_wp2_with fail
      have hbv : Below w.heap.size w wr := hbw.trans (hbl.mono (by omega))
      have Z := (((Y4.set_other (g' := w.heap.size) 1 (.slice p4 zs.length cap4) (by omega)).set 0 (.int .i64 l)).set 1 (.slice p4 zs.length cap4))
      have z0 : World.cell? _ ⟨w.heap.size + 1, 0, none⟩ = some (.int .i64 l) := Z.cell 0
      have z1 : World.cell? _ ⟨w.heap.size + 1, 1, none⟩ = some (.slice p4 zs.length cap4) := Z.cell 1
      have hbz := (((hbv.setCell (p := ⟨w.heap.size, 1, none⟩) (Nat.le_refl _) (.slice p4 zs.length cap4)).setCell (p := ⟨w.heap.size + 1, 0, none⟩) (Nat.le_succ _) (.int .i64 l)).setCell (p := ⟨w.heap.size + 1, 1, none⟩) (Nat.le_succ _) (.slice p4 zs.length cap4))
      refine bodyPost_ret (v := .tuple #[.agg #[.int .i64 l, .slice p4 zs.length cap4], .int .i64 f]) (by simp [results, Try.results78, go_sem, z0, z1]) rfl ⟨.slice p4 zs.length cap4, ?_, ?_, .inr (fun k hk => by have := hown.lt k hk; omega), hbz⟩
      · unfold stTake; rw [Ef.out]
      · have ho5 : OwnN _ (w.heap.size + 2) (.slice p4 zs.length cap4) zs := hown.keep (w' := ((wr.setCell ⟨w.heap.size, 1, none⟩ (.slice p4 zs.length cap4)).setCell ⟨w.heap.size + 1, 0, none⟩ (.int .i64 l)).setCell ⟨w.heap.size + 1, 1, none⟩ (.slice p4 zs.length cap4)) (fun k hk => by
          have h := hown.lt k hk
          rw [Below.heap_setCell _ _ _ _ (by show k ≠ w.heap.size + 1; omega), Below.heap_setCell _ _ _ _ (by show k ≠ w.heap.size + 1; omega), Below.heap_setCell _ _ _ _ (by show k ≠ w.heap.size; omega)])
        show RdB _ B _ (xs.filter (fun x => x.1 ≠ id))
        rw [Ez.out]
        exact RdB.of_own (ho5.mono (by omega))

set_option maxHeartbeats 2000000 in
theorem r_stdo {v : Value} {xs : List Nd} {B : Nat} (l kind id c : Int) (w : World) (hr : RdB w B v xs) (hB : B ≤ w.heap.size) (hl : xs.length < 1000000)
    (bl : -9223372036854775808 ≤ l ∧ l ≤ 9223372036854775807) (bi : -9223372036854775808 ≤ id ∧ id ≤ 9223372036854775807) (bc : -9223372036854775808 ≤ c ∧ c ≤ 9223372036854775807) (ht : 0 ≤ totV xs ∧ totV xs ≤ 72057594037927935) :
    Calls Try.prog 35 #[.agg #[.int .i64 l, v], .agg #[.int .i64 kind, .int .i64 id, .int .i64 c]] w (StPost l (stDo l xs kind id c) B v w) := by
  obtain ⟨p, cap, rfl⟩ := hr.1.val
  by_cases hk0 : kind = 0
  · subst hk0
    have e : stDo l xs 0 id c = stAdd l xs id c := rfl
    rw [e]
    clear e
    go_enter Try.func35, Try.ntmps35
    go_wp2_with fail
    refine (r_stadd l id c _ (hr.below (((Below.refl _ _).alloc (Nat.le_refl _) _).alloc (by simp) _ |>.alloc (by simp; omega) _) (Nat.le_refl _)) (by simp; omega) hl bl bi bc ht).mono ?_
    rintro e w4 ⟨v4, rfl, hr4, hv4, hb4⟩
    obtain ⟨⟨xs', code⟩, est⟩ : ∃ r, stAdd l xs id c = r := ⟨_, rfl⟩
    rw [est] at hr4 ⊢
    obtain ⟨p4, cap4, rfl⟩ : ∃ p cap, v4 = .slice p xs'.length cap := hr4.1.val
    have hs4 := hb4.size
    simp at hs4
    have hw2 : w.heap.size + 1 + 1 < w4.heap.size := by omega
    have Y4 : Blk w4 (w.heap.size + 1 + 1) #[.int .i64 0, .slice none 0 0] 34 := by
      refine Blk.below ?_ hb4 (Nat.le_refl _)
      have h := Blk.new ((w.alloc (.cells #[.int .i64 l, .slice p xs.length cap] 34)).alloc (.cells #[.int .i64 0, .int .i64 id, .int .i64 c] 52)) #[.int .i64 0, .slice none 0 0] 34
      simpa using h
    have hbv : Below w.heap.size w w4 := ((((Below.refl _ _).alloc (Nat.le_refl _) _).alloc (by simp) _).alloc (by simp; omega) _).trans (hb4.mono (by simp; omega))
    have hne : xs' = [] ∨ ∀ k, (Value.slice p4 xs'.length cap4).ownBlock = some k → k ≠ w.heap.size + 1 + 1 := by
      rcases hv4 with hv4 | hv4
      · rcases hr.1.ltE with q | q
        · left; rw [q] at hv4; simp only [Value.slice.injEq, List.length_nil] at hv4; exact List.eq_nil_of_length_eq_zero hv4.2.1
        · right; intro k hk; rw [hv4] at hk; have := q k hk; omega
      · right; intro k hk; have := hv4 k hk; simp at this; omega
    have hvn : (Value.slice p4 xs'.length cap4 = .slice p xs.length cap ∨ ∀ k, (Value.slice p4 xs'.length cap4).ownBlock = some k → w.heap.size ≤ k) :=
      hv4.imp (fun h => h) (fun h k hk => by have := h k hk; simp at this; omega)
    have hy0 : w4.cell? ⟨w.heap.size + 1 + 1, 0, none⟩ = some (.int .i64 0) := Y4.cell 0
    have hy1 : w4.cell? ⟨w.heap.size + 1 + 1, 1, none⟩ = some (.slice none 0 0) := Y4.cell 1
    have hg0 := Y4.free 0
    have hg1 := Y4.free 1
    have Hv := hid hv4
    have Hvn := hid hvn
    have Hne := hid hne
    have Est := hid est
    clear hv4 hvn hne est
    go_wp2_with fail
    have Z := ((Y4.set 0 (.int .i64 l)).set 1 (.slice p4 xs'.length cap4))
    have z0 : World.cell? _ ⟨w.heap.size + 1 + 1, 0, none⟩ = some (.int .i64 l) := Z.cell 0
    have z1 : World.cell? _ ⟨w.heap.size + 1 + 1, 1, none⟩ = some (.slice p4 xs'.length cap4) := Z.cell 1
    have hbz := ((hbv.setCell (p := ⟨w.heap.size + 1 + 1, 0, none⟩) (by show w.heap.size ≤ w.heap.size + 1 + 1; omega) (.int .i64 l)).setCell (p := ⟨w.heap.size + 1 + 1, 1, none⟩) (by show w.heap.size ≤ w.heap.size + 1 + 1; omega) (.slice p4 xs'.length cap4))
    refine bodyPost_ret (v := .tuple #[.agg #[.int .i64 l, .slice p4 xs'.length cap4], .int .i64 code]) (by simp [results, Try.results35, go_sem, z0, z1]) rfl ⟨_, by rw [Est.out], ?_, Hvn.out, hbz⟩
    show RdB _ B _ (stAdd l xs id c).1
    rw [Est.out]
    rcases Hne.out with q | q
    · subst q; exact ⟨hr4.1.any, hr4.2⟩
    · exact ⟨hr4.1.keep (fun k _ hk => by rw [Below.heap_setCell _ _ _ _ (q k hk), Below.heap_setCell _ _ _ _ (q k hk)]) (by simp), hr4.2⟩
  · by_cases hk1 : kind = 1
    · subst hk1
      have e : stDo l xs 1 id c = stTake xs id := rfl
      rw [e]
      clear e hk0
      go_enter Try.func35, Try.ntmps35
      go_wp2_with fail
      refine (r_sttake l id _ (hr.below (((Below.refl _ _).alloc (Nat.le_refl _) _).alloc (by simp) _ |>.alloc (by simp; omega) _) (Nat.le_refl _)) (by simp; omega) hl).mono ?_
      rintro e w4 ⟨v4, rfl, hr4, hv4, hb4⟩
      obtain ⟨⟨xs', code⟩, est⟩ : ∃ r, stTake xs id = r := ⟨_, rfl⟩
      rw [est] at hr4 ⊢
      obtain ⟨p4, cap4, rfl⟩ : ∃ p cap, v4 = .slice p xs'.length cap := hr4.1.val
      have hs4 := hb4.size
      simp at hs4
      have hw2 : w.heap.size + 1 + 1 < w4.heap.size := by omega
      have Y4 : Blk w4 (w.heap.size + 1 + 1) #[.int .i64 0, .slice none 0 0] 34 := by
        refine Blk.below ?_ hb4 (Nat.le_refl _)
        have h := Blk.new ((w.alloc (.cells #[.int .i64 l, .slice p xs.length cap] 34)).alloc (.cells #[.int .i64 1, .int .i64 id, .int .i64 c] 52)) #[.int .i64 0, .slice none 0 0] 34
        simpa using h
      have hbv : Below w.heap.size w w4 := ((((Below.refl _ _).alloc (Nat.le_refl _) _).alloc (by simp) _).alloc (by simp; omega) _).trans (hb4.mono (by simp; omega))
      have hne : xs' = [] ∨ ∀ k, (Value.slice p4 xs'.length cap4).ownBlock = some k → k ≠ w.heap.size + 1 + 1 := by
        rcases hv4 with hv4 | hv4
        · rcases hr.1.ltE with q | q
          · left; rw [q] at hv4; simp only [Value.slice.injEq, List.length_nil] at hv4; exact List.eq_nil_of_length_eq_zero hv4.2.1
          · right; intro k hk; rw [hv4] at hk; have := q k hk; omega
        · right; intro k hk; have := hv4 k hk; simp at this; omega
      have hvn : (Value.slice p4 xs'.length cap4 = .slice p xs.length cap ∨ ∀ k, (Value.slice p4 xs'.length cap4).ownBlock = some k → w.heap.size ≤ k) :=
        hv4.imp (fun h => h) (fun h k hk => by have := h k hk; simp at this; omega)
      have hy0 : w4.cell? ⟨w.heap.size + 1 + 1, 0, none⟩ = some (.int .i64 0) := Y4.cell 0
      have hy1 : w4.cell? ⟨w.heap.size + 1 + 1, 1, none⟩ = some (.slice none 0 0) := Y4.cell 1
      have hg0 := Y4.free 0
      have hg1 := Y4.free 1
      have Hv := hid hv4
      have Hvn := hid hvn
      have Hne := hid hne
      have Est := hid est
      clear hv4 hvn hne est
      go_wp2_with fail
      have Z := ((Y4.set 0 (.int .i64 l)).set 1 (.slice p4 xs'.length cap4))
      have z0 : World.cell? _ ⟨w.heap.size + 1 + 1, 0, none⟩ = some (.int .i64 l) := Z.cell 0
      have z1 : World.cell? _ ⟨w.heap.size + 1 + 1, 1, none⟩ = some (.slice p4 xs'.length cap4) := Z.cell 1
      have hbz := ((hbv.setCell (p := ⟨w.heap.size + 1 + 1, 0, none⟩) (by show w.heap.size ≤ w.heap.size + 1 + 1; omega) (.int .i64 l)).setCell (p := ⟨w.heap.size + 1 + 1, 1, none⟩) (by show w.heap.size ≤ w.heap.size + 1 + 1; omega) (.slice p4 xs'.length cap4))
      refine bodyPost_ret (v := .tuple #[.agg #[.int .i64 l, .slice p4 xs'.length cap4], .int .i64 code]) (by simp [results, Try.results35, go_sem, z0, z1]) rfl ⟨_, by rw [Est.out], ?_, Hvn.out, hbz⟩
      show RdB _ B _ (stTake xs id).1
      rw [Est.out]
      rcases Hne.out with q | q
      · subst q; exact ⟨hr4.1.any, hr4.2⟩
      · exact ⟨hr4.1.keep (fun k _ hk => by rw [Below.heap_setCell _ _ _ _ (q k hk), Below.heap_setCell _ _ _ _ (q k hk)]) (by simp), hr4.2⟩
    · have e : stDo l xs kind id c = (xs, findL id xs) := by unfold stDo; rw [if_neg hk0, if_neg hk1]
      rw [e]
      have h0 : (kind == 0) = false := by simpa using hk0
      have h1 : (kind == 1) = false := by simpa using hk1
      clear e hk0 hk1
      go_enter Try.func35, Try.ntmps35
      go_wp2_with fail
      have X4 : Blk (((w.alloc (.cells #[.int .i64 l, .slice p xs.length cap] 34)).alloc (.cells #[.int .i64 kind, .int .i64 id, .int .i64 c] 52)).alloc (.cells #[.int .i64 0, .slice none 0 0] 34)) w.heap.size #[.int .i64 l, .slice p xs.length cap] 34 := ((Blk.new _ _ _).alloc _).alloc _
      have O4 : Blk (((w.alloc (.cells #[.int .i64 l, .slice p xs.length cap] 34)).alloc (.cells #[.int .i64 kind, .int .i64 id, .int .i64 c] 52)).alloc (.cells #[.int .i64 0, .slice none 0 0] 34)) (w.heap.size + 1) #[.int .i64 kind, .int .i64 id, .int .i64 c] 52 := by
        have h := (Blk.new (w.alloc (.cells #[.int .i64 l, .slice p xs.length cap] 34)) #[.int .i64 kind, .int .i64 id, .int .i64 c] 52).alloc (.cells #[.int .i64 0, .slice none 0 0] 34)
        simpa using h
      have Y4 : Blk (((w.alloc (.cells #[.int .i64 l, .slice p xs.length cap] 34)).alloc (.cells #[.int .i64 kind, .int .i64 id, .int .i64 c] 52)).alloc (.cells #[.int .i64 0, .slice none 0 0] 34)) (w.heap.size + 1 + 1) #[.int .i64 0, .slice none 0 0] 34 := by
        have h := Blk.new ((w.alloc (.cells #[.int .i64 l, .slice p xs.length cap] 34)).alloc (.cells #[.int .i64 kind, .int .i64 id, .int .i64 c] 52)) #[.int .i64 0, .slice none 0 0] 34
        simpa using h
      have hbw : Below w.heap.size w (((w.alloc (.cells #[.int .i64 l, .slice p xs.length cap] 34)).alloc (.cells #[.int .i64 kind, .int .i64 id, .int .i64 c] 52)).alloc (.cells #[.int .i64 0, .slice none 0 0] 34)) := ((((Below.refl _ _).alloc (Nat.le_refl _) _).alloc (by simp) _).alloc (by simp; omega) _)
      have hs4 : (((w.alloc (.cells #[.int .i64 l, .slice p xs.length cap] 34)).alloc (.cells #[.int .i64 kind, .int .i64 id, .int .i64 c] 52)).alloc (.cells #[.int .i64 0, .slice none 0 0] 34)).heap.size = w.heap.size + 1 + 1 + 1 := by simp
      generalize (((w.alloc (.cells #[.int .i64 l, .slice p xs.length cap] 34)).alloc (.cells #[.int .i64 kind, .int .i64 id, .int .i64 c] 52)).alloc (.cells #[.int .i64 0, .slice none 0 0] 34)) = w4 at *
      have hr4 := hr.below hbw (Nat.le_refl _)
      have b4 := Below.refl w4.heap.size w4
      have l0 : w.heap.size < w4.heap.size := by omega
      have l1 : w.heap.size + 1 < w4.heap.size := by omega
      have l2 : w.heap.size + 1 + 1 < w4.heap.size := by omega
      have x0 : w4.cell? ⟨w.heap.size, 0, none⟩ = some (.int .i64 l) := X4.cell 0
      have x1 : w4.cell? ⟨w.heap.size, 1, none⟩ = some (.slice p xs.length cap) := X4.cell 1
      have o1 : w4.cell? ⟨w.heap.size + 1, 1, none⟩ = some (.int .i64 id) := O4.cell 1
      have y0 : w4.cell? ⟨w.heap.size + 1 + 1, 0, none⟩ = some (.int .i64 0) := Y4.cell 0
      have y1 : w4.cell? ⟨w.heap.size + 1 + 1, 1, none⟩ = some (.slice none 0 0) := Y4.cell 1
      have f0 : w4.frozen? ⟨w.heap.size + 1 + 1, 0, none⟩ = false := Y4.free 0
      have f1 : w4.frozen? ⟨w.heap.size + 1 + 1, 1, none⟩ = false := Y4.free 1
      go_region_held3 (fun w' => w'.cell? ⟨w.heap.size, 0, none⟩ = some (.int .i64 l) ∧ w'.cell? ⟨w.heap.size, 1, none⟩ = some (.slice p xs.length cap) ∧ w'.cell? ⟨w.heap.size + 1, 1, none⟩ = some (.int .i64 id))
        (first
          | (go_keep; done)
          | (have Z5 := (X5.set_other (g' := w.heap.size + 1 + 1) 0 (.int .i64 l) (Nat.ne_of_lt (Nat.lt_succ_of_lt (Nat.lt_succ_self _)))).set_other (g' := w.heap.size + 1 + 1) 1 (.slice p xs.length cap) (Nat.ne_of_lt (Nat.lt_succ_of_lt (Nat.lt_succ_self _))); have Z6 := (O5.set_other (g' := w.heap.size + 1 + 1) 0 (.int .i64 l) (Nat.ne_of_lt (Nat.lt_succ_self _))).set_other (g' := w.heap.size + 1 + 1) 1 (.slice p xs.length cap) (Nat.ne_of_lt (Nat.lt_succ_self _)); exact ⟨Z5.cell 0, Z5.cell 1, Z6.cell 1⟩)
          | exact ⟨(Blk.below' (by exact X4) hb5 l0).cell 0, (Blk.below' (by exact X4) hb5 l0).cell 1, (Blk.below' (by exact O4) hb5 l1).cell 1⟩)
        (first
               | (go_at_call 61; refine (r_stget l id _ (hr4.1.drewN _) (by omega)).mono ?_; rintro e w5 ⟨rfl, hb5⟩
                  have X5 : Blk w5 w.heap.size #[.int .i64 l, .slice p xs.length cap] 34 := (Blk.below' (by exact X4) hb5 l0)
                  have O5 : Blk w5 (w.heap.size + 1) #[.int .i64 kind, .int .i64 id, .int .i64 c] 52 := (Blk.below' (by exact O4) hb5 l1)
                  have Y5 : Blk w5 (w.heap.size + 1 + 1) #[.int .i64 0, .slice none 0 0] 34 := (Blk.below' (by exact Y4) hb5 l2)
                  have y50 : w5.cell? ⟨w.heap.size + 1 + 1, 0, none⟩ = some (.int .i64 0) := Y5.cell 0
                  have y51 : w5.cell? ⟨w.heap.size + 1 + 1, 1, none⟩ = some (.slice none 0 0) := Y5.cell 1
                  have f50 : w5.frozen? ⟨w.heap.size + 1 + 1, 0, none⟩ = false := Y5.free 0
                  have f51 : w5.frozen? ⟨w.heap.size + 1 + 1, 1, none⟩ = false := Y5.free 1))
      go_wp2_with fail
      have Z := ((Y5.set 0 (.int .i64 l)).set 1 (.slice p xs.length cap))
      have z0 : World.cell? _ ⟨w.heap.size + 1 + 1, 0, none⟩ = some (.int .i64 l) := Z.cell 0
      have z1 : World.cell? _ ⟨w.heap.size + 1 + 1, 1, none⟩ = some (.slice p xs.length cap) := Z.cell 1
      have hb6 := hbw.trans ((below_drewN b4 1).trans hb5 |>.mono (by omega) : Below w.heap.size w4 w5)
      have hbz := ((hb6.setCell (p := ⟨w.heap.size + 1 + 1, 0, none⟩) (by show w.heap.size ≤ w.heap.size + 1 + 1; omega) (.int .i64 l)).setCell (p := ⟨w.heap.size + 1 + 1, 1, none⟩) (by show w.heap.size ≤ w.heap.size + 1 + 1; omega) (.slice p xs.length cap))
      exact bodyPost_ret (v := .tuple #[.agg #[.int .i64 l, .slice p xs.length cap], .int .i64 (findL id xs)]) (by simp [results, Try.results35, go_sem, z0, z1]) rfl ⟨_, rfl, hr.below hbz (Nat.le_refl _), .inl rfl, hbz⟩
end Go.Proofs.Ytipnnogafanemaa
