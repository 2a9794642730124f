/- The walks of press.Run, Trace, Tight, Bound. -/
import Derived.Test.YtbbkfjbaocpknaaGreatPr1
namespace Go.Proofs.YtbbkfjbaocpknaaGreat
open Go.RowKit Nl

namespace Nl
def isK (k : Int) : Bool := decide (1 ≤ k ∧ k ≤ 1048576)
end Nl

/-- How many folds were told. -/
def RunI (c : Nat) (done : List Int) (o : Value) (w : World) : Prop := Blk w c #[.int .i64 done.length] 3 ∧ o = .int .i64 0
/-- Which folds were told. -/
def TraceI (c : Nat) (done : List Int) (o : Value) (w : World) : Prop := Blk w c #[o] 104 ∧ OwnI w 0 o done ∧ o.ownBlock ≠ some c

set_option maxRecDepth 100000 in
set_option maxHeartbeats 400000 in
theorem told_run_call (c : Nat) (done : List Int) (o : Value) (w : World) (x : Int) (h : RunI c done o w) (hl : done.length < 1000000) (_hx : In64 x) : Calls Tryz.prog 96 #[.int .i64 x, .pointer (some ⟨c, 0, none⟩)] w (ToldPost (RunI c) c done o x w) := by
  obtain ⟨b, rfl⟩ := h
  have c0 : w.cell? ⟨c, 0, none⟩ = some (.int .i64 done.length) := b.cell 0
  have f0 := b.free 0
  have b2 := b.set 0 (.int .i64 ((done.length : Int) + 1))
  have P : Hid (ToldPost (RunI c) c done (.int .i64 0) x w (.returned (.tuple #[])) (w.setCell ⟨c, 0, none⟩ (.int .i64 ((done.length : Int) + 1)))) :=
    ⟨rfl, .int .i64 0, ⟨by simpa using b2, rfl⟩, Fr.refl _ _, Tch3.setCell w c 0 _ (.inl rfl)⟩
  clear b b2
  go_enter Tryz.func96, Tryz.ntmps96
  go_wp2
  go_end0
  exact P.out
theorem told_run (c : Nat) : Told 96 c (RunI c) where
  keep := fun {_ _ _ _} h hk => ⟨h.1.keep (hk c h.1.lt (.inl rfl)), h.2⟩
  lt := fun {_ _ _} h k hk => by
    rcases hk with e | e
    · rw [e]; exact h.1.lt
    · rw [h.2] at e; cases e
  ent := enters_of Tryz.func96 (by kernel_rfl) rfl
  call := told_run_call c

set_option maxRecDepth 100000 in
set_option maxHeartbeats 400000 in
theorem p_wrong (q : Nat) (k : Int) (w : World) : Calls Tryz.prog 94 #[.pointer (some ⟨q, 0, none⟩), .int .i64 k] w fun e w' => e = .returned (.int .i64 (if isK k then 0 else 2)) ∧ w = w' := by
  by_cases h1 : k < 1
  · have e : isK k = false := by simp [isK]; omega
    rw [e]; clear e
    go_enter Tryz.func94, Tryz.ntmps94
    go_wp2_with (go_at_call 145; go_in)
    go_ret
    exact ⟨rfl, rfl⟩
  · by_cases h2 : 1048576 < k
    · have e : isK k = false := by simp [isK]; omega
      have hd : decide (k ≤ 1048576) = false := by simp; omega
      rw [e]; clear e
      go_enter Tryz.func94, Tryz.ntmps94
      go_wp2_with (go_at_call 145; go_in)
      go_ret
      exact ⟨rfl, rfl⟩
    · have e : isK k = true := by simp [isK]; omega
      have hd : decide (k ≤ 1048576) = true := by simp; omega
      rw [e]; clear e
      go_enter Tryz.func94, Tryz.ntmps94
      go_wp2_with (go_at_call 145; go_in)
      go_ret
      exact ⟨rfl, rfl⟩

/-- What comes of press.Run. -/
def PRunPost (q g h0 m : Nat) (kind l : Int) (R : List Nd × List Int) (w : World) (e : Ending) (w' : World) : Prop :=
  e = .returned (.tuple #[.int .i64 R.2.length, .int .i64 0]) ∧ ∃ h, PoolV w' q g h kind l m R.1 ∧ (h = h0 ∨ w.heap.size ≤ h) ∧ ChB (PB q g h0) w w'
set_option maxRecDepth 100000 in
set_option maxHeartbeats 400000 in
theorem p_Run {w : World} {q g h m : Nat} {kind l : Int} {zs : List Nd} (k : Int) (hk : isK k = true) (d : PoolV w q g h kind l m zs) (hm : m ≤ 100000) (hz : zs.length + 1 ≤ m) (hz2 : zs.length ≤ 2000) :
    Calls Tryz.prog 56 #[.pointer (some ⟨q, 0, none⟩), .int .i64 k] w (PRunPost q g h m kind l (runR l (capV (sumL zs) k) zs) w) := by
  have W := hid (p_wrong q k w)
  rw [hk] at W
  have bk : In64 k := by simp only [isK, decide_eq_true_eq] at hk; exact ⟨by omega, by omega⟩
  have hba : Below w.heap.size w (w.alloc (.cells #[.int .i64 0] 3)) := (Below.refl _ _).alloc (Nat.le_refl _) _
  have hI : RunI w.heap.size [] (.int .i64 0) (w.alloc (.cells #[.int .i64 0] 3)) := ⟨Blk.new _ _ _, rfl⟩
  have da := d.below hba (Nat.le_refl _)
  have hlt := d.ltB
  have R := hid (press_run k (told_run w.heap.size) da hm hz hz2 bk hI (fun j h1 h2 => by
    have := hlt j h1
    rcases h2 with e | e
    · omega
    · cases e))
  generalize runR l (capV (sumL zs) k) zs = RR at *
  clear hI da
  go_enter Tryz.func56, Tryz.ntmps56
  go_wp2_with fail
  refine W.out.mono ?_
  rintro e w' ⟨rfl, rfl⟩
  go_wp2_with fail
  refine R.out.mono ?_
  rintro e w2 ⟨rfl, h', o', dp, hh', ⟨bI, _⟩, _, _, ch⟩
  have c0 : w2.cell? ⟨w.heap.size, 0, none⟩ = some (.int .i64 RR.2.length) := bI.cell 0
  have CH : Hid (ChB (PB q g h) w w2) := (ChB.of_below hba).trans ch (fun j hj e => by
    rcases e with e | e | e
    · exact e
    · omega
    · cases e)
  have HH : Hid (h' = h ∨ w.heap.size ≤ h') := hh'.imp id (fun e => by simp only [World.size_alloc] at e; omega)
  clear hh' ch bI R
  go_wp2_with fail
  go_ret2
  exact ⟨rfl, h', dp, HH.out, CH.out⟩

set_option maxRecDepth 100000 in
set_option maxHeartbeats 400000 in
theorem p_Run_no (q : Nat) (k : Int) (hk : isK k = false) (w : World) :
    Calls Tryz.prog 56 #[.pointer (some ⟨q, 0, none⟩), .int .i64 k] w fun e w' => e = .returned (.tuple #[.int .i64 0, .int .i64 2]) ∧ w = w' := by
  have W := hid (p_wrong q k w)
  rw [hk] at W
  clear hk
  go_enter Tryz.func56, Tryz.ntmps56
  go_wp2_with fail
  refine W.out.mono ?_
  rintro e w' ⟨rfl, rfl⟩
  go_wp2_with fail
  go_ret2
  exact ⟨rfl, rfl⟩

/-- What comes of press.Trace. -/
def PTracePost (steps : List Int) (w : World) (e : Ending) (w' : World) : Prop :=
  ∃ v, e = .returned (.tuple #[v, .int .i64 0]) ∧ RdIB w' w.heap.size v steps ∧ Below w.heap.size w w'
set_option maxRecDepth 100000 in
set_option maxHeartbeats 400000 in
theorem p_Bound (k : Int) (w : World) (bk : In64 k) : Calls Tryz.prog 85 #[.int .i64 k] w fun e w' => e = .returned (.int .i64 (if isK k then 4 * k - 1 else 0)) ∧ w = w' := by
  obtain ⟨b1, b2⟩ := bk
  by_cases h1 : k < 1
  · have e : isK k = false := by simp [isK]; omega
    rw [e]; clear e
    go_enter Tryz.func85, Tryz.ntmps85
    go_wp2_with (go_at_call 145; go_in)
    go_ret
    exact ⟨rfl, rfl⟩
  · by_cases h2 : 1048576 < k
    · have e : isK k = false := by simp [isK]; omega
      have hd : decide (k ≤ 1048576) = false := by simp; omega
      rw [e]; clear e
      go_enter Tryz.func85, Tryz.ntmps85
      go_wp2_with (go_at_call 145; go_in)
      go_ret
      exact ⟨rfl, rfl⟩
    · have e : isK k = true := by simp [isK]; omega
      have hd : decide (k ≤ 1048576) = true := by simp; omega
      rw [e]; clear e
      go_enter Tryz.func85, Tryz.ntmps85
      go_wp2_with (go_at_call 145; go_in)
      go_ret
      exact ⟨rfl, rfl⟩
end Go.Proofs.YtbbkfjbaocpknaaGreat
