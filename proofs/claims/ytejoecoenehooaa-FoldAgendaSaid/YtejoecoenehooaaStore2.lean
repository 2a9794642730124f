/- The walks of the reference's layer 7: Take, Do. -/
import Derived.Test.YtejoecoenehooaaStore
import Derived.Deep.RegionHeld3
namespace Go.Proofs.Ytejoecoenehooaa
open Go.RowKit Nl

def TakeRel (w1 : World) (B : Nat) (xs : List Nd) (id : Int) (out i : Value) (wr : World) : Prop :=
  ∃ k : Nat, i = .int .i64 k ∧ k ≤ xs.length ∧ OwnN wr B out ((xs.take k).filter (fun x => x.1 ≠ id)) ∧ Below B w1 wr

theorem filter_step {xs : List Nd} {k : Nat} {a c id : Int} (hk : k < xs.length) (ex : xs.getD k (0, 0) = (a, c)) :
    (xs.take (k + 1)).filter (fun x => x.1 ≠ id) = (xs.take k).filter (fun x => x.1 ≠ id) ++ (if a = id then [] else [(a, c)]) := by
  rw [take_at (d := ((0, 0) : Nd)) xs k hk, ex, List.filter_append]
  by_cases h : a = id <;> simp [h]

set_option maxHeartbeats 2000000 in
theorem r_sttake {v : Value} {xs : List Nd} {B : Nat} (l id : Int) (w : World) (hr : RdB w B v xs) (hB : B ≤ w.heap.size) (hl : xs.length < 1000000) :
    Calls Try.prog 81 #[.agg #[.int .i64 l, v], .int .i64 id] w (StPost l (stTake xs id) B v w) := by
  obtain ⟨p, cap, rfl⟩ := hr.1.val
  obtain ⟨f, ef⟩ : ∃ t, findL id xs = t := ⟨_, rfl⟩
  have Ef := hid ef
  clear ef
  go_enter Try.func81, Try.ntmps81
  go_wp2_with fail
  refine (r_stget l id _ ((hr.1.alloc _).alloc _) (by omega)).mono ?_
  rintro e w1 ⟨rfl, hb1⟩
  rw [Ef.out]
  have hs1 := hb1.size
  simp at hs1
  have X : Blk w1 w.heap.size #[.int .i64 l, .slice p xs.length cap] 43 := ((Blk.new _ _ _).alloc _).below hb1 (Nat.le_refl _)
  have Y : Blk w1 (w.heap.size + 1) #[.int .i64 0, .slice none 0 0] 43 := by
    have h := Blk.new (w.alloc (.cells #[.int .i64 l, .slice p xs.length cap] 43)) #[.int .i64 0, .slice none 0 0] 43
    exact Blk.below (by simpa using h) hb1 (Nat.le_refl _)
  have hbw : Below w.heap.size w w1 := (((Below.refl _ _).alloc (Nat.le_refl _) _).alloc (by simp) _).trans (hb1.mono (by simp <;> omega))
  have hr1 := hr.below hbw (Nat.le_refl _)
  go_wp2_with fail
  go_loopw [7, 8] (fun out i wr => TakeRel w1 (w.heap.size + 2) xs id out i wr) (fun _ i _ => xs.length - (intOf i).toNat)
  case atStart => exact ⟨0, rfl, by omega, OwnN.nil _ _, Below.refl _ _⟩
  case round =>
    obtain ⟨k, rfl, hk, hown, hbl⟩ := hrel
    have hwr := hbl.size
    have hx1 : wr.cell? ⟨w.heap.size, 1, none⟩ = some (.slice p xs.length cap) := (X.below' hbl (by omega)).cell 1
    have hw1 : w.heap.size < wr.heap.size := by omega
    by_cases h1 : k < xs.length
    · have hr2 : RdN wr (.slice p xs.length cap) xs := hr.1.below (hbw.trans (hbl.mono (by omega))) (Nat.le_refl _)
      obtain ⟨g, off, a, c, rfl, ex, hg, c1, c2⟩ := hr2.at h1
      have hfs := filter_step (id := id) h1 ex
      have hln : ((xs.take k).filter (fun x => x.1 ≠ id)).length < 1048576 := by
        have := List.length_filter_le (fun x : Nd => decide (x.1 ≠ id)) (xs.take k)
        simp at this ⊢; omega
      obtain ⟨zs, ez⟩ : ∃ zs, (xs.take k).filter (fun x => x.1 ≠ id) = zs := ⟨_, rfl⟩
      rw [ez] at hown hfs hln
      by_cases h2 : a = id
      · have h3 : (a != id) = false := by simp [h2]
        rw [if_pos h2] at hfs
        have Hf := hid hfs
        clear hfs ez ex hr2 h2 hr hr1
        go_wp2_with fail
        go_roundw
        case rel => exact ⟨k + 1, by go_num, by omega, by rw [Hf.out]; simpa using hown, hbl⟩
        case measure => simp [intOf]; omega
      · have h3 : (a != id) = true := by simp [h2]
        rw [if_neg h2] at hfs
        have Hf := hid hfs
        clear hfs ez ex hr2 h2 hr hr1
        go_wp2_with (at_builtin; refine appendN (wr := wr) (b := a) (c := c) _ _ hown (by omega) (by omega) rfl rfl rfl rfl rfl ?_; intro v3 w3 ho3 hg3 hnn)
        go_roundw
        case rel => exact ⟨k + 1, by go_num, by omega, by rw [Hf.out]; exact ho3, hbl.trans (below_grown hg3 (by omega) hown.lt)⟩
        case measure => simp [intOf]; omega
    · have e : xs.take k = xs := List.take_of_length_le (by omega)
      rw [e] at hown
      obtain ⟨zs, ez⟩ : ∃ zs, xs.filter (fun x => x.1 ≠ id) = zs := ⟨_, rfl⟩
      rw [ez] at hown
      have Ez := hid ez
      have X4 := X.below' hbl (by omega)
      have Y4 := Y.below' hbl (by omega)
      have hx0 : wr.cell? ⟨w.heap.size, 0, none⟩ = some (.int .i64 l) := X4.cell 0
      have hy0 : wr.cell? ⟨w.heap.size + 1, 0, none⟩ = some (.int .i64 0) := Y4.cell 0
      have hy1 : wr.cell? ⟨w.heap.size + 1, 1, none⟩ = some (.slice none 0 0) := Y4.cell 1
      have hf0 := X4.free 0
      have hf1 := X4.free 1
      have hg0 := Y4.free 0
      have hg1 := Y4.free 1
      clear e ez
      obtain ⟨p4, cap4, rfl⟩ := hown.val
      go_wp2_with fail
      have hbv : Below w.heap.size w wr := hbw.trans (hbl.mono (by omega))
      have Z := (((Y4.set_other (g' := w.heap.size) 1 (.slice p4 zs.length cap4) (by omega)).set 0 (.int .i64 l)).set 1 (.slice p4 zs.length cap4))
      have z0 : World.cell? _ ⟨w.heap.size + 1, 0, none⟩ = some (.int .i64 l) := Z.cell 0
      have z1 : World.cell? _ ⟨w.heap.size + 1, 1, none⟩ = some (.slice p4 zs.length cap4) := Z.cell 1
      have hbz := (((hbv.setCell (p := ⟨w.heap.size, 1, none⟩) (Nat.le_refl _) (.slice p4 zs.length cap4)).setCell (p := ⟨w.heap.size + 1, 0, none⟩) (Nat.le_succ _) (.int .i64 l)).setCell (p := ⟨w.heap.size + 1, 1, none⟩) (Nat.le_succ _) (.slice p4 zs.length cap4))
      refine bodyPost_ret (v := .tuple #[.agg #[.int .i64 l, .slice p4 zs.length cap4], .int .i64 f]) (by simp [results, Try.results81, go_sem, z0, z1]) rfl ⟨.slice p4 zs.length cap4, ?_, ?_, .inr (fun k hk => by have := hown.lt k hk; omega), hbz⟩
      · unfold stTake; rw [Ef.out]
      · have ho5 : OwnN _ (w.heap.size + 2) (.slice p4 zs.length cap4) zs := hown.keep (w' := ((wr.setCell ⟨w.heap.size, 1, none⟩ (.slice p4 zs.length cap4)).setCell ⟨w.heap.size + 1, 0, none⟩ (.int .i64 l)).setCell ⟨w.heap.size + 1, 1, none⟩ (.slice p4 zs.length cap4)) (fun k hk => by
          have h := hown.lt k hk
          rw [Below.heap_setCell _ _ _ _ (by show k ≠ w.heap.size + 1; omega), Below.heap_setCell _ _ _ _ (by show k ≠ w.heap.size + 1; omega), Below.heap_setCell _ _ _ _ (by show k ≠ w.heap.size; omega)])
        show RdB _ B _ (xs.filter (fun x => x.1 ≠ id))
        rw [Ez.out]
        exact RdB.of_own (ho5.mono (by omega))
end Go.Proofs.Ytejoecoenehooaa
