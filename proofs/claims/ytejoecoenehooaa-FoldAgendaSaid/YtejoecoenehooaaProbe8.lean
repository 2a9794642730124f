/- The walks of the probe: Snap, Clone. -/
import Derived.Test.YtejoecoenehooaaProbe7
import Derived.Test.YtejoecoenehooaaRoll1
namespace Go.Proofs.Ytejoecoenehooaa
open Go.RowKit Nl

set_option maxRecDepth 100000 in
set_option maxHeartbeats 1000000 in
theorem o_sorted {v : Value} {xs : List Nd} (w : World) (hr : RdN w v xs) (hl : xs.length < 1048576) :
    Calls Try.prog 130 #[v] w (IsNodes (sortL xs) w) := by
  have S := hid (o_sorts xs.length xs v w (Nat.le_refl _) hl hr)
  obtain ⟨p, cap, rfl⟩ := hr.val
  go_enter Try.func130, Try.ntmps130
  go_wp2_with fail
  refine S.out.mono ?_
  rintro e w1 ⟨v1, zs, rfl, hs, _, ho, hb⟩
  have e := SS_sortL hs
  subst e
  go_wp2_with fail
  go_ret
  exact ⟨_, rfl, ho, hb⟩

def PSnapRel (w : World) (xs : List Nd) (out i : Value) (wr : World) : Prop :=
  ∃ k : Nat, i = .int .i64 k ∧ k ≤ xs.length ∧ OwnN wr w.heap.size out (full (xs.take k)) ∧ Below w.heap.size w wr

set_option maxRecDepth 100000 in
set_option maxHeartbeats 1000000 in
theorem p_snap {w : World} {g h : Nat} {l u t : Int} {b : Nat} {xs : List Nd} (d : Pn w g h l b u t xs) (hcl : xs.length < 1048576) :
    Calls Try.prog 90 #[.pointer (some ⟨g, 0, none⟩)] w (IsNodes (sortL (full xs)) w) := by
  obtain ⟨cap, c4⟩ := d.c4
  have hlh := d.lh
  go_enter Try.func90, Try.ntmps90
  go_wp2_with fail
  go_loopw [3, 13] (fun out i wr => PSnapRel w xs out i wr) (fun _ i _ => xs.length - (intOf i).toNat)
  case atStart => exact ⟨0, rfl, by omega, by simp [full]; exact OwnN.nil _ _, Below.refl _ _⟩
  case round =>
    obtain ⟨k, rfl, hk, hown, hbl⟩ := hrel
    have hwr := hbl.size
    by_cases h1 : k < xs.length
    · have d2 := d.below hbl (Nat.le_refl _)
      obtain ⟨q1, q2⟩ := d2.at h1
      have Hst := hid (full_take k h1)
      have hsl : (full (xs.take k)).length ≤ k := by
        rw [full_length]; have := occ_le (xs.take k); rw [List.length_take] at this; omega
      generalize full (xs.take k) = zs at *
      generalize cntA xs k = x at *
      generalize idA xs k = y at *
      obtain ⟨p, cap, rfl⟩ := hown.val
      have hba : Below wr.heap.size wr (wr.alloc (.cells #[.int .i64 y, .int .i64 x] 100)) := (Below.refl _ _).alloc (Nat.le_refl _) _
      have hown2 := hown.below hba (Nat.le_refl _)
      have hbl2 := hbl.trans (hba.mono hwr)
      by_cases h2 : 0 < x
      · as_aux_lemma =>
          go_wp2_with (at_builtin; refine appendN (wr := wr.alloc (.cells #[.int .i64 y, .int .i64 x] 100)) (b := y) (c := x) _ _ hown2 (by omega) (by simp; omega) rfl rfl rfl rfl (by simp [go_sem]) ?_; intro v3 w3 ho3 hg3 hnn)
          go_roundw
          case rel => exact ⟨k + 1, by go_num, by omega, by rw [Hst.out, if_pos h2]; exact ho3, hbl2.trans (below_grown hg3 (by simp; omega) hown2.lt)⟩
          case measure => simp [intOf]; omega
      · as_aux_lemma =>
          go_wp2_with fail
          go_roundw
          case rel => exact ⟨k + 1, by go_num, by omega, by rw [Hst.out, if_neg h2]; simpa using hown2, hbl2⟩
          case measure => simp [intOf]; omega
    · rw [List.take_of_length_le (by omega)] at hown
      have hfl : (full xs).length < 1048576 := by rw [full_length]; have := occ_le xs; omega
      go_wp2_with fail
      refine (o_sorted wr hown.rd hfl).mono ?_
      rintro e w1 ⟨v1, rfl, ho1, hb1⟩
      go_wp2_with fail
      go_ret
      exact ⟨_, rfl, ho1.mono hwr, hbl.trans (hb1.mono hwr)⟩

theorem OwnN.blk {w : World} {B : Nat} {v : Value} {xs : List Nd} (h : OwnN w B v xs) (h0 : 0 < xs.length) : ∃ g cap rest, v = .slice (some ⟨g, 0, none⟩) xs.length (xs.length + cap) ∧ B ≤ g ∧ Blk w g (ncells xs ++ rest).toArray 100 := by
  rcases h.2 with ⟨h1, h2⟩ | ⟨g, cap, cur, hv, hg, hh, h3, h4, h5, h6⟩
  · omega
  · refine ⟨g, cap - xs.length, cur.toList.drop (xs.length * 2), ?_, hg, ?_⟩
    · rw [hv]; congr 1; omega
    · have e : cur = (ncells xs ++ cur.toList.drop (xs.length * 2)).toArray := by
        apply Array.ext'
        rw [← h6]; simp
      show w.heap[g]? = _
      rw [hh]; congr 2

def PClonePost (l : Int) (b : Nat) (xs : List Nd) (w : World) (e : Ending) (w' : World) : Prop :=
  ∃ g h, e = .returned (.pointer (some ⟨g, 0, none⟩)) ∧ PnV w' g h l b xs ∧ w.heap.size ≤ g ∧ w.heap.size ≤ h ∧ Below w.heap.size w w'
set_option maxRecDepth 100000 in
set_option maxHeartbeats 1000000 in
theorem p_clone {w : World} {g h : Nat} {l : Int} {b : Nat} {xs : List Nd} (d : PnV w g h l b xs) (hcl : xs.length < 1048576) :
    Calls Try.prog 137 #[.pointer (some ⟨g, 0, none⟩)] w (PClonePost l b xs w) := by
  obtain ⟨d, v⟩ := d
  have h0 := v.tab.pos_len
  obtain ⟨u, eu⟩ : ∃ u : Int, (occ xs : Int) = u := ⟨_, rfl⟩
  obtain ⟨t, et⟩ : ∃ t : Int, sumL xs = t := ⟨_, rfl⟩
  rw [eu, et] at d
  have Eu := hid eu
  have Et := hid et
  have c0 := d.c0
  have c1 := d.c1
  have c2 := d.c2
  have c3 := d.c3
  obtain ⟨cap, c4, hr⟩ := d.rd
  have hlg := d.lg
  clear eu et
  go_enter Try.func137, Try.ntmps137
  go_wp2_with fail
  have hba : Below w.heap.size w (w.alloc (.cells #[.int .i64 l, .int .i64 b, .int .i64 u, .int .i64 t, .slice (some ⟨h, 0, none⟩) xs.length cap] 151)) := (Below.refl _ _).alloc (Nat.le_refl _) _
  refine (o_clone _ (hr.below hba (Nat.le_refl _)) hcl).mono ?_
  rintro e w1 ⟨v1, rfl, ho1, hb1⟩
  have X := (Blk.new w #[.int .i64 l, .int .i64 b, .int .i64 u, .int .i64 t, .slice (some ⟨h, 0, none⟩) xs.length cap] 151).below hb1 (Nat.le_refl _)
  have hs1 := hb1.size
  simp only [World.size_alloc] at hs1
  have hB : Below w.heap.size w w1 := hba.trans (hb1.mono (by simp))
  obtain ⟨h', cap', rest, rfl, hh', hblk⟩ := ho1.blk h0
  simp only [World.size_alloc] at hh'
  have f4 := X.free 4
  have x4 : w1.cell? ⟨w.heap.size, 4, none⟩ = some (.slice (some ⟨h, 0, none⟩) xs.length cap) := X.cell 4
  go_wp2_with fail
  go_ret
  refine ⟨w.heap.size, h', rfl, ⟨?_, v⟩, Nat.le_refl _, by omega, hB.trans ((Below.refl _ _).setCell (p := ⟨w.heap.size, 4, none⟩) (Nat.le_refl _) _)⟩
  rw [Eu.out, Et.out]
  have X2 := X.set 4 (.slice (some ⟨h', 0, none⟩) xs.length (xs.length + cap'))
  exact ⟨cap', rest, by simpa using X2, hblk.set_other _ _ (by omega), by omega⟩
end Go.Proofs.Ytejoecoenehooaa
