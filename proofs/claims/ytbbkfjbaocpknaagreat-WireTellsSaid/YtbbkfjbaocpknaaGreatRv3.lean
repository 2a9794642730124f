/- The walk of seal.Open. -/
import Derived.Test.YtbbkfjbaocpknaaGreatRvMath2
import Derived.Test.YtbbkfjbaocpknaaGreatRv2
import Derived.Test.YtbbkfjbaocpknaaGreatWA
import Derived.Deep.RegionWith
namespace Go.Proofs.YtbbkfjbaocpknaaGreat
open Go.RowKit Vy

theorem Vy.pre_list (s : ByteArray) (j : Nat) : (s.extract 0 j).data.toList = s.data.toList.take j := by
  rw [ByteArray.data_extract, Array.toList_extract]
  rw [List.extract_eq_take_drop, List.drop_zero, Nat.sub_zero]
def OpenP (s : ByteArray) (w : World) (e : Ending) (w' : World) : Prop :=
  Below w.heap.size w w' ∧ ((∃ er : Int, e = .returned (.tuple #[.string ⟨#[]⟩, .int .i64 er]) ∧ 1 ≤ er ∧ er ≤ 100 ∧ openS s.data.toList = none) ∨
    ∃ t : ByteArray, e = .returned (.tuple #[.string t, .int .i64 0]) ∧ openS s.data.toList = some t.data.toList ∧ t.size ≤ s.size)
set_option maxRecDepth 100000 in
set_option maxHeartbeats 2000000 in
theorem s_open (s : ByteArray) (w : World) (hs : s.size ≤ 200000) : Calls Tryz.prog 103 #[.string s] w (OpenP s w) := by
  have hll : s.data.toList.length = s.size := by simp
  by_cases h4 : s.size < 4
  · have P : Hid (OpenP s w (.returned (.tuple #[.string ⟨#[]⟩, .int .i64 9])) w) := ⟨Below.refl _ _, .inl ⟨9, rfl, by decide, by decide, by
      unfold openS
      rw [if_neg]
      simp only [openB, decide_eq_true_eq]
      omega⟩⟩
    have z : decide ((s.size : Int) - 4 < 0) = true := decide_eq_true (by omega)
    go_enter Tryz.func103, Tryz.ntmps103
    go_wp2_with fail
    go_ret2
    exact P.out
  · have z : decide ((s.size : Int) - 4 < 0) = false := decide_eq_false (by omega)
    have hb1 : Below w.heap.size w ((w.alloc (.cells #[.string (s.extract 0 (s.size - 4))] 9)).drew) := ((Below.refl _ _).alloc (Nat.le_refl _) _).trans (below_drewN (Below.refl w.heap.size _) 1)
    have X1 := (Blk.new w #[.string (s.extract 0 (s.size - 4))] 9)
    have q1 : ((w.alloc (.cells #[.string (s.extract 0 (s.size - 4))] 9)).drew).cell? ⟨w.heap.size, 0, none⟩ = some (.string (s.extract 0 (s.size - 4))) := X1.cell 0
    have OF := hid (s_of (w := (w.alloc (.cells #[.string (s.extract 0 (s.size - 4))] 9)).drew) (s.extract 0 (s.size - 4)) w.heap.size q1 X1.lt (by simp; omega))
    have e1 : (s.extract 0 (s.size - 4)).size = s.size - 4 := by simp
    have e2 := pre_list s (s.size - 4)
    rw [e1, e2] at OF
    obtain ⟨h1, h2⟩ := sumP_lt (a := 1) (b := 0) (t := s.data.toList.take (s.size - 4)) (by decide) (by decide) (s.size - 4)
    have SB := hid (fun W => s_bytes (w := W) h1 h2)
    have et : ((s.size : Int) - 4).toNat = s.size - 4 := by omega
    have eo : openB s.data.toList = decide (s.data.toList.drop (s.size - 4) = sbytes (sumP 1 0 (s.data.toList.take (s.size - 4)) (s.size - 4))) := by
      unfold openB
      rw [hll]
      simp only [decide_eq_decide]
      constructor
      · exact fun h => h.2
      · exact fun h => ⟨by omega, h⟩
    have ES := sub_list s (s.size - 4)
    rw [← ES] at eo
    have EO := hid eo
    have E2 := hid e2
    have E1 := hid e1
    obtain ⟨A, eA⟩ : ∃ A, (sumP 1 0 (s.data.toList.take (s.size - 4)) (s.size - 4)).1 = A := ⟨_, rfl⟩
    obtain ⟨Z, eZ⟩ : ∃ Z, (sumP 1 0 (s.data.toList.take (s.size - 4)) (s.size - 4)).2 = Z := ⟨_, rfl⟩
    have EP := hid (show sumP 1 0 (s.data.toList.take (s.size - 4)) (s.size - 4) = (A, Z) by rw [← eA, ← eZ])
    rw [eA, eZ] at OF SB
    clear eo e2 e1 ES eA eZ h1 h2 X1 q1
    by_cases ho : openB s.data.toList = true
    · have QB : (sbytes (A, Z) == (s.extract (s.size - 4) s.size).toList) = true := by
        rw [EO.out, EP.out, decide_eq_true_eq] at ho
        rw [ByteArray.toList_eq, ho]
        exact beq_self_eq_true _
      have P : Hid (∀ w', Below w.heap.size w w' → OpenP s w (.returned (.tuple #[.string (s.extract 0 (s.size - 4)), .int .i64 0])) w') := fun w' hb => ⟨hb, .inr ⟨_, rfl, by
        unfold openS
        rw [if_pos ho, E2.out, hll], by rw [E1.out]; omega⟩⟩
      clear ho EO EP E1 E2
      go_enter Tryz.func103, Tryz.ntmps103
      go_upto_region 4 with fail
      go_region_with (first | (go_at_call 98; refine OF.out.mono ?_; rintro e w2 ⟨rfl, hb2⟩) | (go_at_call 99; refine (SB.out _).mono ?_; rintro e w3 ⟨rfl, hb3⟩))
      all_goals
        have hbw := (hb1.trans (hb2.mono hb1.size)).trans (hb3.mono (hb1.trans (hb2.mono hb1.size)).size)
        clear OF SB hb1 hb2 hb3
        go_wp2_with fail
        go_ret2
        exact P.out _ hbw
    · have QB : (sbytes (A, Z) == (s.extract (s.size - 4) s.size).toList) = false := by
        rw [EO.out, EP.out, decide_eq_true_eq] at ho
        rw [ByteArray.toList_eq]
        exact beq_eq_false_iff_ne.2 (fun h => ho h.symm)
      have P : Hid (∀ w', Below w.heap.size w w' → OpenP s w (.returned (.tuple #[.string ⟨#[]⟩, .int .i64 12])) w') := fun w' hb => ⟨hb, .inl ⟨12, rfl, by decide, by decide, by
        unfold openS
        rw [if_neg ho]⟩⟩
      clear ho EO EP E1 E2
      go_enter Tryz.func103, Tryz.ntmps103
      go_upto_region 4 with fail
      go_region_with (first | (go_at_call 98; refine OF.out.mono ?_; rintro e w2 ⟨rfl, hb2⟩) | (go_at_call 99; refine (SB.out _).mono ?_; rintro e w3 ⟨rfl, hb3⟩))
      all_goals
        have hbw := (hb1.trans (hb2.mono hb1.size)).trans (hb3.mono (hb1.trans (hb2.mono hb1.size)).size)
        clear OF SB hb1 hb2 hb3
        go_wp2_with fail
        go_ret2
        exact P.out _ hbw
end Go.Proofs.YtbbkfjbaocpknaaGreat
