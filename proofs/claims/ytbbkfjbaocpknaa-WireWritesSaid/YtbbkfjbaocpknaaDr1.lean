/- The walks of the reference's layer 13: Is, New, Weight, Cap, Compress. -/
import Derived.Test.YtbbkfjbaocpknaaDg4
import Derived.Test.YtbbkfjbaocpknaaPr11
namespace Go.Proofs.Ytbbkfjbaocpknaa
open Go.RowKit Nl

set_option maxRecDepth 100000 in
set_option maxHeartbeats 400000 in
theorem r_dis (l k kind : Int) (w : World) :
    Calls Try.prog 69 #[.agg #[.int .i64 l, .int .i64 k, .int .i64 kind]] w fun e w' => e = .returned (.bool (isK k && poolIs kind l)) ∧ Below w.heap.size w w' := by
  have K := hid (fun W : World => r_Is k W)
  have P := hid (fun W : World => r_poolIs kind l W)
  generalize isK k = b1 at *
  generalize poolIs kind l = b2 at *
  cases b1
  · go_enter Try.func69, Try.ntmps69
    go_wp2_with fail
    refine (K.out _).mono ?_
    rintro e w' ⟨rfl, rfl⟩
    go_wp2_with fail
    go_ret
    exact ⟨rfl, (Below.refl _ _).alloc (Nat.le_refl _) _⟩
  · go_enter Try.func69, Try.ntmps69
    go_wp2_with fail
    refine (K.out _).mono ?_
    rintro e w' ⟨rfl, rfl⟩
    go_wp2_with fail
    refine (P.out _).mono ?_
    rintro e w' ⟨rfl, rfl⟩
    go_wp2_with fail
    go_ret
    exact ⟨rfl, (Below.refl _ _).alloc (Nat.le_refl _) _⟩
set_option maxRecDepth 100000 in
set_option maxHeartbeats 400000 in
theorem r_dnew (l k kind : Int) (w : World) :
    Calls Try.prog 71 #[.agg #[.int .i64 l, .int .i64 k, .int .i64 kind]] w fun e w' => e = .returned (.agg #[.int .i64 k, .int .i64 l, .slice none 0 0]) ∧ Below w.heap.size w w' := by
  go_enter Try.func71, Try.ntmps71
  go_wp2_with fail
  exact bodyPost_ret (v := .agg #[.int .i64 k, .int .i64 l, .slice none 0 0]) (by simp [results, Try.results71, go_sem]) rfl ⟨rfl, ((Below.refl _ _).alloc (Nat.le_refl _) _).alloc (by simp) _⟩
set_option maxRecDepth 100000 in
set_option maxHeartbeats 400000 in
theorem r_dweight {w : World} {l : Int} {zs : List Nd} {v : Value} (k : Int) (hr : RdN w v zs) (hl : zs.length < 1048576) (hroll : Roll l zs) :
    Calls Try.prog 41 #[.agg #[.int .i64 k, .int .i64 l, v]] w fun e w' => e = .returned (.int .i64 (sumL zs)) ∧ Below w.heap.size w w' := by
  obtain ⟨p, cap, rfl⟩ := hr.val
  have ht := hroll.tot
  have T0 := fun W (q : RdN W (.slice p zs.length cap) zs) => r_sttotal l W q hl
  simp only [ht] at T0
  have T := hid T0
  have hba : Below w.heap.size w (w.alloc (.cells #[.int .i64 k, .int .i64 l, .slice p zs.length cap] 55)) := (Below.refl _ _).alloc (Nat.le_refl _) _
  clear T0 ht
  go_enter Try.func41, Try.ntmps41
  go_wp2_with fail
  refine (T.out _ (hr.below hba (Nat.le_refl _))).mono ?_
  rintro e w2 ⟨rfl, hb2⟩
  go_wp2_with fail
  go_ret
  exact ⟨rfl, hba.trans (hb2.mono (by simp))⟩
/-- What comes of the reference's Compress, Insert, Do. -/
def RDgPost (l k : Int) (R : List Nd × Int) (v0 : Value) (w : World) (e : Ending) (w' : World) : Prop :=
  ∃ v, e = .returned (.tuple #[.agg #[.int .i64 k, .int .i64 l, v], .int .i64 R.2]) ∧ RdN w' v R.1 ∧ FrV v0 v w.heap.size ∧ Below w.heap.size w w'
end Go.Proofs.Ytbbkfjbaocpknaa
