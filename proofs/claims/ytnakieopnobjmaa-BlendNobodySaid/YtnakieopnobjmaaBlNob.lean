/- The walk of BlendNobody. -/
import Derived.Test.YtnakieopnobjmaaBL
import Derived.Test.YtnakieopnobjmaaBl11
import Derived.Test.YtnakieopnobjmaaMdAny
import Derived.Test.YtnakieopnobjmaaDgNil
namespace Go.Proofs.Ytnakieopnobjmaa
open Go.RowKit Nl

set_option maxRecDepth 100000 in
set_option maxHeartbeats 1000000 in
theorem nb_wrong_r (a : Option Addr) (w : World) : Calls Try.prog 16 #[.pointer a, .pointer none] w fun e w' => e = .returned (.int .i64 1) ∧ w = w' := by
  cases a
  all_goals
    go_enter Try.func16, Try.ntmps16
    go_wp2_with fail
    go_ret
    exact ⟨rfl, rfl⟩
set_option maxRecDepth 100000 in
set_option maxHeartbeats 1000000 in
theorem nb_wrong_l (a : Option Addr) (w : World) : Calls Try.prog 16 #[.pointer none, .pointer a] w fun e w' => e = .returned (.int .i64 1) ∧ w = w' := by
  cases a
  all_goals
    go_enter Try.func16, Try.ntmps16
    go_wp2_with fail
    go_ret
    exact ⟨rfl, rfl⟩
set_option maxRecDepth 100000 in
set_option maxHeartbeats 1000000 in
theorem nb_merge_r (a : Option Addr) (w : World) : Calls Try.prog 7 #[.pointer a, .pointer none] w fun e w' => e = .returned (.tuple #[.pointer none, .int .i64 1]) ∧ w = w' := by
  have WR := hid (nb_wrong_r a w)
  go_enter Try.func7, Try.ntmps7
  go_wp2_with fail
  refine WR.out.mono ?_
  rintro e w1 ⟨rfl, rfl⟩
  go_wp2_with fail
  go_ret2
  exact ⟨rfl, rfl⟩
set_option maxRecDepth 100000 in
set_option maxHeartbeats 1000000 in
theorem nb_merge_l (a : Option Addr) (w : World) : Calls Try.prog 7 #[.pointer none, .pointer a] w fun e w' => e = .returned (.tuple #[.pointer none, .int .i64 1]) ∧ w = w' := by
  have WR := hid (nb_wrong_l a w)
  go_enter Try.func7, Try.ntmps7
  go_wp2_with fail
  refine WR.out.mono ?_
  rintro e w1 ⟨rfl, rfl⟩
  go_wp2_with fail
  go_ret2
  exact ⟨rfl, rfl⟩
set_option maxRecDepth 100000 in
set_option maxHeartbeats 1000000 in
theorem nb_all0 (w : World) : Calls Try.prog 8 #[.slice none 0 0] w fun e w' => e = .returned (.tuple #[.pointer none, .int .i64 7]) ∧ w = w' := by
  go_enter Try.func8, Try.ntmps8
  go_wp2_with fail
  go_ret2
  exact ⟨rfl, rfl⟩
set_option maxRecDepth 100000 in
set_option maxHeartbeats 2000000 in
theorem nb_all1 (g : Nat) (T : TypeId) (w : World) (hB : Blk w g #[.pointer none] T) : Calls Try.prog 8 #[.slice (some ⟨g, 0, none⟩) 1 1] w fun e w' => e = .returned (.tuple #[.pointer none, .int .i64 1]) ∧ Below w.heap.size w w' := by
  have CF := hid (fun W : World => nd_conf W)
  have LW := hid (fun W : World => bl_lower_nil 0 W)
  have c0 : w.cell? ⟨g, 0, none⟩ = some (.pointer none) := hB.cell 0
  have hba : Below w.heap.size w (w.alloc (.cells #[.pointer none] 29)) := (Below.refl _ _).alloc (Nat.le_refl _) _
  have X := Blk.new w #[.pointer none] 29
  go_enter Try.func8, Try.ntmps8
  go_wp2_with fail
  generalize (w.alloc (.cells #[.pointer none] 29)) = w1 at *
  have x0 : w1.cell? ⟨w.heap.size, 0, none⟩ = some (.pointer none) := X.cell 0
  have hl0 := X.lt
  have hB0 := Below.refl w1.heap.size w1
  have hfl := fun W : World => conf_k 0 0 0 W
  go_region_held3 (fun w' => w'.cell? ⟨w.heap.size, 0, none⟩ = some (.pointer none) ∧ Below w1.heap.size w1 w')
    (first
      | exact ⟨x0, below_drewN hB0 1⟩
      | exact ⟨(X.below' hB5 hl0).cell 0, hB5⟩
      | exact ⟨(X.below' hB6 hl0).cell 0, hB6⟩)
    (first
      | (go_at_call 11; have hB4 := (‹_ ∧ Below w1.heap.size w1 _›).2; refine (CF.out _).mono ?_; rintro e w5 ⟨rfl, hb5⟩
         have hB5 := hB4.trans (hb5.mono hB4.size))
      | (go_at_call 20; have hB4 := (‹_ ∧ Below w1.heap.size w1 _›).2; refine (LW.out _).mono ?_; rintro e w6 ⟨rfl, hb6⟩
         have hB6 := hB4.trans (hb6.mono hB4.size)))
  go_wp2_with fail
  go_ret2
  exact ⟨rfl, hba.trans (hB6.mono hba.size)⟩

set_option maxRecDepth 100000 in
set_option maxHeartbeats 4000000 in
theorem nob_walk (l k kind : Int) (v : Value) (os : List Op3) (w : World) (bk : In64 k) (ho : RdO w v os) :
    Calls Try.prog 3 #[.agg #[.int .i64 l, .int .i64 k, .int .i64 kind, v]] w fun e w' => e = .returned (.bool true) ∧ Below w.heap.size w w' := by
  have A := hid (fun W : World => al14 W)
  have S1 := hid (fun (W : World) (h : RdO W v os) => s_some l k kind v os W h)
  obtain ⟨p, cap, rfl, hlen, -⟩ := id ho
  have hba : Below w.heap.size w (w.alloc (.cells #[.int .i64 l, .int .i64 k, .int .i64 kind, .slice p os.length cap] 26)) := (Below.refl _ _).alloc (Nat.le_refl _) _
  have X := Blk.new w #[.int .i64 l, .int .i64 k, .int .i64 kind, .slice p os.length cap] 26
  have hsx : (w.alloc (.cells #[.int .i64 l, .int .i64 k, .int .i64 kind, .slice p os.length cap] 26)).heap.size = w.heap.size + 1 := by simp
  have ho1 := ho.below hba (Nat.le_refl _)
  clear ho
  cases q1 : someB os.length kind l
  · rw [q1] at S1
    go_enter Try.func3, Try.ntmps3
    go_wp2_with fail
    refine (S1.out _ ho1).mono ?_
    rintro e w2 ⟨rfl, hb2⟩
    have hbw2 := hba.trans (hb2.mono (by omega))
    go_wp2_with fail
    refine (A.out _).mono ?_
    rintro e w3 ⟨rfl, hb3⟩
    go_wp2_with fail
    go_ret
    exact ⟨rfl, hbw2.trans (hb3.mono hbw2.size)⟩
  have hl100 : os.length ≤ 100 := by
    unfold someB at q1; simp at q1; exact q1.1
  rw [q1] at S1
  have M1 := hid (fun (W : World) (h : RdO W (.slice p os.length cap) os) => d_made_any l k kind _ os W bk h (by omega))
  clear q1
  go_enter Try.func3, Try.ntmps3
  go_wp2_with fail
  refine (S1.out _ ho1).mono ?_
  rintro e w2 ⟨rfl, hb2⟩
  have hbw2 := hba.trans (hb2.mono (by omega))
  have X2 := X.below hb2 (Nat.le_refl _)
  have ho2 := ho1.below hb2 (Nat.le_refl _)
  have x0 := X2.cell 0
  have x1 := X2.cell 1
  have x2 := X2.cell 2
  have x3 := X2.cell 3
  clear X ho1 hba S1 hb2
  go_wp2_with fail
  refine (M1.out _ ho2).mono ?_
  rintro e w3 hM
  obtain ⟨a, z, pz, nz, cz, rfl, hb3⟩ := hM.some
  have hbw3 := hbw2.trans (hb3.mono hbw2.size)
  have hb4 : Below w3.heap.size w3 (w3.alloc (.cells #[.int .i64 z, .slice pz nz cz] 32)) := (Below.refl _ _).alloc (Nat.le_refl _) _
  have hbw4 := hbw3.trans (hb4.mono hbw3.size)
  clear x0 x1 x2 x3 X2 ho2 hM hbw2 hbw3 hb4 hb3
  go_wp2_with fail
  generalize (w3.alloc (.cells #[.int .i64 z, .slice pz nz cz] 32)) = w4 at *
  refine (nb_merge_r a w4).mono ?_
  rintro e w' ⟨rfl, rfl⟩
  go_wp2_with fail
  refine (nb_merge_l a w4).mono ?_
  rintro e w' ⟨rfl, rfl⟩
  go_wp2_with fail
  refine (nb_all0 w4).mono ?_
  rintro e w' ⟨rfl, rfl⟩
  have Y := Blk.new w4 #[.pointer none] 29
  have hbw5 := hbw4.alloc hbw4.size (.cells #[.pointer none] 29)
  have A1 := hid (nb_all1 w4.heap.size _ _ Y)
  go_wp2_with fail
  refine A1.out.mono ?_
  rintro e w6 ⟨rfl, hb6⟩
  have hbw6 := hbw5.trans (hb6.mono hbw5.size)
  go_wp2_with fail
  refine (A.out _).mono ?_
  rintro e w7 ⟨rfl, hb7⟩
  go_wp2_with fail
  go_ret
  exact ⟨rfl, hbw6.trans (hb7.mono hbw6.size)⟩

theorem BlendNobody_walk (v0 : Value) (s0 : Int × Int × Int × Value × List Op3) (w : World)
    (h0 : v0 = .agg #[.int .i64 s0.1, .int .i64 s0.2.1, .int .i64 s0.2.2.1, s0.2.2.2.1] ∧ ((Lit.int .i64 s0.1).wf = true ∧ (Lit.int .i64 s0.2.1).wf = true ∧ (Lit.int .i64 s0.2.2.1).wf = true) ∧ RdO w s0.2.2.2.1 s0.2.2.2.2) :
    Calls Try.prog 3 #[v0] w fun e w' => e = .returned (.bool true) ∧ Below w.heap.size w w' := by
  obtain ⟨rfl, ⟨-, a1, -⟩, r0⟩ := h0
  exact nob_walk _ _ _ _ _ w (bd_i64 _ a1) r0
end Go.Proofs.Ytnakieopnobjmaa
