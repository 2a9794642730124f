/- The walk of the reference's call of a store. -/
import Derived.Test.YtpkccicofgbfbaaBA
namespace Go.Proofs.Ytpkccicofgbfbaa
open Go.RowKit Nl

set_option maxHeartbeats 2000000 in
theorem r_stdo {v : Value} {xs : List Nd} {B : Nat} (l kind id c : Int) (w : World) (hr : RdB w B v xs) (hB : B ≤ w.heap.size) (hl : xs.length < 1000000)
    (bl : -9223372036854775808 ≤ l ∧ l ≤ 9223372036854775807) (bi : -9223372036854775808 ≤ id ∧ id ≤ 9223372036854775807) (bc : -9223372036854775808 ≤ c ∧ c ≤ 9223372036854775807) (ht : 0 ≤ totV xs ∧ totV xs ≤ 72057594037927935) :
    Calls Try.prog 13 #[.agg #[.int .i64 l, v], .agg #[.int .i64 kind, .int .i64 id, .int .i64 c]] w (StPost l (stDo l xs kind id c) B v w) := by
  obtain ⟨p, cap, rfl⟩ := hr.1.val
  by_cases hk0 : kind = 0
  · subst hk0
    have e : stDo l xs 0 id c = stAdd l xs id c := rfl
    rw [e]
    clear e
    go_enter Try.func13, Try.ntmps13
    go_wp2_with fail
    refine (r_stadd l id c _ (hr.below (((Below.refl _ _).alloc (Nat.le_refl _) _).alloc (by simp) _ |>.alloc (by simp; omega) _) (Nat.le_refl _)) (by simp; omega) hl bl bi bc ht).mono ?_
    rintro e w4 ⟨v4, rfl, hr4, hv4, hb4⟩
    obtain ⟨⟨xs', code⟩, est⟩ : ∃ r, stAdd l xs id c = r := ⟨_, rfl⟩
    rw [est] at hr4 ⊢
    obtain ⟨p4, cap4, rfl⟩ : ∃ p cap, v4 = .slice p xs'.length cap := hr4.1.val
    have hs4 := hb4.size
    simp at hs4
    have hw2 : w.heap.size + 1 + 1 < w4.heap.size := by omega
    have Y4 : Blk w4 (w.heap.size + 1 + 1) #[.int .i64 0, .slice none 0 0] 30 := by
      refine Blk.below ?_ hb4 (Nat.le_refl _)
      have h := Blk.new ((w.alloc (.cells #[.int .i64 l, .slice p xs.length cap] 30)).alloc (.cells #[.int .i64 0, .int .i64 id, .int .i64 c] 32)) #[.int .i64 0, .slice none 0 0] 30
      simpa using h
    have hbv : Below w.heap.size w w4 := ((((Below.refl _ _).alloc (Nat.le_refl _) _).alloc (by simp) _).alloc (by simp; omega) _).trans (hb4.mono (by simp; omega))
    have hne : xs' = [] ∨ ∀ k, (Value.slice p4 xs'.length cap4).ownBlock = some k → k ≠ w.heap.size + 1 + 1 := by
      rcases hv4 with hv4 | hv4
      · rcases hr.1.ltE with q | q
        · left; rw [q] at hv4; simp only [Value.slice.injEq, List.length_nil] at hv4; exact List.eq_nil_of_length_eq_zero hv4.2.1
        · right; intro k hk; rw [hv4] at hk; have := q k hk; omega
      · right; intro k hk; have := hv4 k hk; simp at this; omega
    have hvn : (Value.slice p4 xs'.length cap4 = .slice p xs.length cap ∨ ∀ k, (Value.slice p4 xs'.length cap4).ownBlock = some k → w.heap.size ≤ k) :=
      hv4.imp (fun h => h) (fun h k hk => by have := h k hk; simp at this; omega)
    have hy0 : w4.cell? ⟨w.heap.size + 1 + 1, 0, none⟩ = some (.int .i64 0) := Y4.cell 0
    have hy1 : w4.cell? ⟨w.heap.size + 1 + 1, 1, none⟩ = some (.slice none 0 0) := Y4.cell 1
    have hg0 := Y4.free 0
    have hg1 := Y4.free 1
    have Hv := hid hv4
    have Hvn := hid hvn
    have Hne := hid hne
    have Est := hid est
    clear hv4 hvn hne est
    go_wp2_with fail
    have Z := ((Y4.set 0 (.int .i64 l)).set 1 (.slice p4 xs'.length cap4))
    have z0 : World.cell? _ ⟨w.heap.size + 1 + 1, 0, none⟩ = some (.int .i64 l) := Z.cell 0
    have z1 : World.cell? _ ⟨w.heap.size + 1 + 1, 1, none⟩ = some (.slice p4 xs'.length cap4) := Z.cell 1
    have hbz := ((hbv.setCell (p := ⟨w.heap.size + 1 + 1, 0, none⟩) (by show w.heap.size ≤ w.heap.size + 1 + 1; omega) (.int .i64 l)).setCell (p := ⟨w.heap.size + 1 + 1, 1, none⟩) (by show w.heap.size ≤ w.heap.size + 1 + 1; omega) (.slice p4 xs'.length cap4))
    refine bodyPost_ret (v := .tuple #[.agg #[.int .i64 l, .slice p4 xs'.length cap4], .int .i64 code]) (by simp [results, Try.results13, go_sem, z0, z1]) rfl ⟨_, by rw [Est.out], ?_, Hvn.out, hbz⟩
    show RdB _ B _ (stAdd l xs id c).1
    rw [Est.out]
    rcases Hne.out with q | q
    · subst q; exact ⟨hr4.1.any, hr4.2⟩
    · exact ⟨hr4.1.keep (fun k _ hk => by rw [Below.heap_setCell _ _ _ _ (q k hk), Below.heap_setCell _ _ _ _ (q k hk)]) (by simp), hr4.2⟩
  · by_cases hk1 : kind = 1
    · subst hk1
      have e : stDo l xs 1 id c = stTake xs id := rfl
      rw [e]
      clear e hk0
      go_enter Try.func13, Try.ntmps13
      go_wp2_with fail
      refine (r_sttake l id _ (hr.below (((Below.refl _ _).alloc (Nat.le_refl _) _).alloc (by simp) _ |>.alloc (by simp; omega) _) (Nat.le_refl _)) (by simp; omega) hl).mono ?_
      rintro e w4 ⟨v4, rfl, hr4, hv4, hb4⟩
      obtain ⟨⟨xs', code⟩, est⟩ : ∃ r, stTake xs id = r := ⟨_, rfl⟩
      rw [est] at hr4 ⊢
      obtain ⟨p4, cap4, rfl⟩ : ∃ p cap, v4 = .slice p xs'.length cap := hr4.1.val
      have hs4 := hb4.size
      simp at hs4
      have hw2 : w.heap.size + 1 + 1 < w4.heap.size := by omega
      have Y4 : Blk w4 (w.heap.size + 1 + 1) #[.int .i64 0, .slice none 0 0] 30 := by
        refine Blk.below ?_ hb4 (Nat.le_refl _)
        have h := Blk.new ((w.alloc (.cells #[.int .i64 l, .slice p xs.length cap] 30)).alloc (.cells #[.int .i64 1, .int .i64 id, .int .i64 c] 32)) #[.int .i64 0, .slice none 0 0] 30
        simpa using h
      have hbv : Below w.heap.size w w4 := ((((Below.refl _ _).alloc (Nat.le_refl _) _).alloc (by simp) _).alloc (by simp; omega) _).trans (hb4.mono (by simp; omega))
      have hne : xs' = [] ∨ ∀ k, (Value.slice p4 xs'.length cap4).ownBlock = some k → k ≠ w.heap.size + 1 + 1 := by
        rcases hv4 with hv4 | hv4
        · rcases hr.1.ltE with q | q
          · left; rw [q] at hv4; simp only [Value.slice.injEq, List.length_nil] at hv4; exact List.eq_nil_of_length_eq_zero hv4.2.1
          · right; intro k hk; rw [hv4] at hk; have := q k hk; omega
        · right; intro k hk; have := hv4 k hk; simp at this; omega
      have hvn : (Value.slice p4 xs'.length cap4 = .slice p xs.length cap ∨ ∀ k, (Value.slice p4 xs'.length cap4).ownBlock = some k → w.heap.size ≤ k) :=
        hv4.imp (fun h => h) (fun h k hk => by have := h k hk; simp at this; omega)
      have hy0 : w4.cell? ⟨w.heap.size + 1 + 1, 0, none⟩ = some (.int .i64 0) := Y4.cell 0
      have hy1 : w4.cell? ⟨w.heap.size + 1 + 1, 1, none⟩ = some (.slice none 0 0) := Y4.cell 1
      have hg0 := Y4.free 0
      have hg1 := Y4.free 1
      have Hv := hid hv4
      have Hvn := hid hvn
      have Hne := hid hne
      have Est := hid est
      clear hv4 hvn hne est
      go_wp2_with fail
      have Z := ((Y4.set 0 (.int .i64 l)).set 1 (.slice p4 xs'.length cap4))
      have z0 : World.cell? _ ⟨w.heap.size + 1 + 1, 0, none⟩ = some (.int .i64 l) := Z.cell 0
      have z1 : World.cell? _ ⟨w.heap.size + 1 + 1, 1, none⟩ = some (.slice p4 xs'.length cap4) := Z.cell 1
      have hbz := ((hbv.setCell (p := ⟨w.heap.size + 1 + 1, 0, none⟩) (by show w.heap.size ≤ w.heap.size + 1 + 1; omega) (.int .i64 l)).setCell (p := ⟨w.heap.size + 1 + 1, 1, none⟩) (by show w.heap.size ≤ w.heap.size + 1 + 1; omega) (.slice p4 xs'.length cap4))
      refine bodyPost_ret (v := .tuple #[.agg #[.int .i64 l, .slice p4 xs'.length cap4], .int .i64 code]) (by simp [results, Try.results13, go_sem, z0, z1]) rfl ⟨_, by rw [Est.out], ?_, Hvn.out, hbz⟩
      show RdB _ B _ (stTake xs id).1
      rw [Est.out]
      rcases Hne.out with q | q
      · subst q; exact ⟨hr4.1.any, hr4.2⟩
      · exact ⟨hr4.1.keep (fun k _ hk => by rw [Below.heap_setCell _ _ _ _ (q k hk), Below.heap_setCell _ _ _ _ (q k hk)]) (by simp), hr4.2⟩
    · have e : stDo l xs kind id c = (xs, findL id xs) := by unfold stDo; rw [if_neg hk0, if_neg hk1]
      rw [e]
      have h0 : (kind == 0) = false := by simpa using hk0
      have h1 : (kind == 1) = false := by simpa using hk1
      clear e hk0 hk1
      go_enter Try.func13, Try.ntmps13
      go_wp2_with fail
      have X4 : Blk (((w.alloc (.cells #[.int .i64 l, .slice p xs.length cap] 30)).alloc (.cells #[.int .i64 kind, .int .i64 id, .int .i64 c] 32)).alloc (.cells #[.int .i64 0, .slice none 0 0] 30)) w.heap.size #[.int .i64 l, .slice p xs.length cap] 30 := ((Blk.new _ _ _).alloc _).alloc _
      have O4 : Blk (((w.alloc (.cells #[.int .i64 l, .slice p xs.length cap] 30)).alloc (.cells #[.int .i64 kind, .int .i64 id, .int .i64 c] 32)).alloc (.cells #[.int .i64 0, .slice none 0 0] 30)) (w.heap.size + 1) #[.int .i64 kind, .int .i64 id, .int .i64 c] 32 := by
        have h := (Blk.new (w.alloc (.cells #[.int .i64 l, .slice p xs.length cap] 30)) #[.int .i64 kind, .int .i64 id, .int .i64 c] 32).alloc (.cells #[.int .i64 0, .slice none 0 0] 30)
        simpa using h
      have Y4 : Blk (((w.alloc (.cells #[.int .i64 l, .slice p xs.length cap] 30)).alloc (.cells #[.int .i64 kind, .int .i64 id, .int .i64 c] 32)).alloc (.cells #[.int .i64 0, .slice none 0 0] 30)) (w.heap.size + 1 + 1) #[.int .i64 0, .slice none 0 0] 30 := by
        have h := Blk.new ((w.alloc (.cells #[.int .i64 l, .slice p xs.length cap] 30)).alloc (.cells #[.int .i64 kind, .int .i64 id, .int .i64 c] 32)) #[.int .i64 0, .slice none 0 0] 30
        simpa using h
      have hbw : Below w.heap.size w (((w.alloc (.cells #[.int .i64 l, .slice p xs.length cap] 30)).alloc (.cells #[.int .i64 kind, .int .i64 id, .int .i64 c] 32)).alloc (.cells #[.int .i64 0, .slice none 0 0] 30)) := ((((Below.refl _ _).alloc (Nat.le_refl _) _).alloc (by simp) _).alloc (by simp; omega) _)
      have hs4 : (((w.alloc (.cells #[.int .i64 l, .slice p xs.length cap] 30)).alloc (.cells #[.int .i64 kind, .int .i64 id, .int .i64 c] 32)).alloc (.cells #[.int .i64 0, .slice none 0 0] 30)).heap.size = w.heap.size + 1 + 1 + 1 := by simp
      generalize (((w.alloc (.cells #[.int .i64 l, .slice p xs.length cap] 30)).alloc (.cells #[.int .i64 kind, .int .i64 id, .int .i64 c] 32)).alloc (.cells #[.int .i64 0, .slice none 0 0] 30)) = w4 at *
      have hr4 := hr.below hbw (Nat.le_refl _)
      have b4 := Below.refl w4.heap.size w4
      have l0 : w.heap.size < w4.heap.size := by omega
      have l1 : w.heap.size + 1 < w4.heap.size := by omega
      have l2 : w.heap.size + 1 + 1 < w4.heap.size := by omega
      have x0 : w4.cell? ⟨w.heap.size, 0, none⟩ = some (.int .i64 l) := X4.cell 0
      have x1 : w4.cell? ⟨w.heap.size, 1, none⟩ = some (.slice p xs.length cap) := X4.cell 1
      have o1 : w4.cell? ⟨w.heap.size + 1, 1, none⟩ = some (.int .i64 id) := O4.cell 1
      have y0 : w4.cell? ⟨w.heap.size + 1 + 1, 0, none⟩ = some (.int .i64 0) := Y4.cell 0
      have y1 : w4.cell? ⟨w.heap.size + 1 + 1, 1, none⟩ = some (.slice none 0 0) := Y4.cell 1
      have f0 : w4.frozen? ⟨w.heap.size + 1 + 1, 0, none⟩ = false := Y4.free 0
      have f1 : w4.frozen? ⟨w.heap.size + 1 + 1, 1, none⟩ = false := Y4.free 1
      go_region_held3 (fun w' => w'.cell? ⟨w.heap.size, 0, none⟩ = some (.int .i64 l) ∧ w'.cell? ⟨w.heap.size, 1, none⟩ = some (.slice p xs.length cap) ∧ w'.cell? ⟨w.heap.size + 1, 1, none⟩ = some (.int .i64 id))
        (first
          | (go_keep; done)
          | (have Z5 := (X5.set_other (g' := w.heap.size + 1 + 1) 0 (.int .i64 l) (Nat.ne_of_lt (Nat.lt_succ_of_lt (Nat.lt_succ_self _)))).set_other (g' := w.heap.size + 1 + 1) 1 (.slice p xs.length cap) (Nat.ne_of_lt (Nat.lt_succ_of_lt (Nat.lt_succ_self _))); have Z6 := (O5.set_other (g' := w.heap.size + 1 + 1) 0 (.int .i64 l) (Nat.ne_of_lt (Nat.lt_succ_self _))).set_other (g' := w.heap.size + 1 + 1) 1 (.slice p xs.length cap) (Nat.ne_of_lt (Nat.lt_succ_self _)); exact ⟨Z5.cell 0, Z5.cell 1, Z6.cell 1⟩)
          | exact ⟨(Blk.below' (by exact X4) hb5 l0).cell 0, (Blk.below' (by exact X4) hb5 l0).cell 1, (Blk.below' (by exact O4) hb5 l1).cell 1⟩)
        (first
               | (go_at_call 47; refine (r_stget l id _ (hr4.1.drewN _) (by omega)).mono ?_; rintro e w5 ⟨rfl, hb5⟩
                  have X5 : Blk w5 w.heap.size #[.int .i64 l, .slice p xs.length cap] 30 := (Blk.below' (by exact X4) hb5 l0)
                  have O5 : Blk w5 (w.heap.size + 1) #[.int .i64 kind, .int .i64 id, .int .i64 c] 32 := (Blk.below' (by exact O4) hb5 l1)
                  have Y5 : Blk w5 (w.heap.size + 1 + 1) #[.int .i64 0, .slice none 0 0] 30 := (Blk.below' (by exact Y4) hb5 l2)
                  have y50 : w5.cell? ⟨w.heap.size + 1 + 1, 0, none⟩ = some (.int .i64 0) := Y5.cell 0
                  have y51 : w5.cell? ⟨w.heap.size + 1 + 1, 1, none⟩ = some (.slice none 0 0) := Y5.cell 1
                  have f50 : w5.frozen? ⟨w.heap.size + 1 + 1, 0, none⟩ = false := Y5.free 0
                  have f51 : w5.frozen? ⟨w.heap.size + 1 + 1, 1, none⟩ = false := Y5.free 1))
      go_wp2_with fail
      have Z := ((Y5.set 0 (.int .i64 l)).set 1 (.slice p xs.length cap))
      have z0 : World.cell? _ ⟨w.heap.size + 1 + 1, 0, none⟩ = some (.int .i64 l) := Z.cell 0
      have z1 : World.cell? _ ⟨w.heap.size + 1 + 1, 1, none⟩ = some (.slice p xs.length cap) := Z.cell 1
      have hb6 := hbw.trans ((below_drewN b4 1).trans hb5 |>.mono (by omega) : Below w.heap.size w4 w5)
      have hbz := ((hb6.setCell (p := ⟨w.heap.size + 1 + 1, 0, none⟩) (by show w.heap.size ≤ w.heap.size + 1 + 1; omega) (.int .i64 l)).setCell (p := ⟨w.heap.size + 1 + 1, 1, none⟩) (by show w.heap.size ≤ w.heap.size + 1 + 1; omega) (.slice p xs.length cap))
      exact bodyPost_ret (v := .tuple #[.agg #[.int .i64 l, .slice p xs.length cap], .int .i64 (findL id xs)]) (by simp [results, Try.results13, go_sem, z0, z1]) rfl ⟨_, rfl, hr.below hbz (Nat.le_refl _), .inl rfl, hbz⟩
end Go.Proofs.Ytpkccicofgbfbaa
