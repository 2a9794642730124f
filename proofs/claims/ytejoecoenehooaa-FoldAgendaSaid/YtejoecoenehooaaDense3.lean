/- The walks of the dense store: Snap, Clone. -/
import Derived.Test.YtejoecoenehooaaDense2
import Derived.Test.YtejoecoenehooaaNdRef2
import Derived.Laws.CopyOwn
namespace Go.Proofs.Ytejoecoenehooaa
open Go.RowKit Nl

namespace Nl
/-- The nodes of an array, from number k on. -/
def snapF : Nat → List Int → List (Int × Int)
  | _, [] => []
  | k, n :: r => if 0 < n then ((k : Int), n) :: snapF (k + 1) r else snapF (k + 1) r
theorem snapF_append (k : Nat) (xs ys : List Int) : snapF k (xs ++ ys) = snapF k xs ++ snapF (k + xs.length) ys := by
  induction xs generalizing k with
  | nil => simp [snapF]
  | cons n r ih =>
    simp only [List.cons_append, snapF, ih, List.length_cons]
    rw [show k + 1 + r.length = k + (r.length + 1) by omega]
    split <;> simp
theorem snapF_length (k : Nat) (xs : List Int) : (snapF k xs).length ≤ xs.length := by
  induction xs generalizing k with
  | nil => simp [snapF]
  | cons n r ih => have := ih (k + 1); simp only [snapF, List.length_cons]; split <;> simp <;> omega
theorem snapF_take (cs : List Int) (k : Nat) (hk : k < cs.length) : snapF 0 (cs.take (k + 1)) = snapF 0 (cs.take k) ++ (if 0 < cs.getD k 0 then [((k : Int), cs.getD k 0)] else []) := by
  rw [take_at (d := (0 : Int)) cs k hk, snapF_append]
  simp only [List.length_take, snapF]
  rw [show 0 + min k cs.length = k by omega]
end Nl

def SnapRel (w : World) (cs : List Int) (out i : Value) (wr : World) : Prop :=
  ∃ k : Nat, i = .int .i64 k ∧ k ≤ cs.length ∧ OwnN wr w.heap.size out (snapF 0 (cs.take k)) ∧ Below w.heap.size w wr

set_option maxHeartbeats 1000000 in
theorem d_snap {w : World} {g h : Nat} {l u t : Int} {cs : List Int} (d : Dn w g h l u t cs) (hcl : cs.length ≤ 131072) :
    Calls Try.prog 88 #[.pointer (some ⟨g, 0, none⟩)] w (IsNodes (snapF 0 cs) w) := by
  have c3 : w.cell? ⟨g, 3, none⟩ = some (.slice (some ⟨h, 0, none⟩) cs.length cs.length) := d.1.cell 3
  have D2 := d.2.1
  have hlh := D2.lt
  go_enter Try.func88, Try.ntmps88
  go_wp2_with fail
  go_loopw [3, 13] (fun out i wr => SnapRel w cs out i wr) (fun _ i _ => cs.length - (intOf i).toNat)
  case atStart => exact ⟨0, rfl, by omega, by simp [snapF]; exact OwnN.nil _ _, Below.refl _ _⟩
  case round =>
    obtain ⟨k, rfl, hk, hown, hbl⟩ := hrel
    have hwr := hbl.size
    by_cases h1 : k < cs.length
    · have c4 : wr.cell? ⟨h, k, none⟩ = some (.int .i64 (cs.getD k 0)) := ((D2.below hbl (Nat.le_refl _)).cell k).trans (icells_get cs k h1)
      have hst := snapF_take cs k h1
      have hsl := snapF_length 0 (cs.take k)
      rw [List.length_take] at hsl
      generalize snapF 0 (cs.take k) = zs at *
      have Hst := hid hst
      clear hst
      generalize cs.getD k 0 = x at *
      obtain ⟨p, cap, rfl⟩ := hown.val
      by_cases h2 : 0 < x
      · go_wp2_with (at_builtin; refine appendN (wr := wr) (b := k) (c := x) _ _ hown (by omega) (by omega) rfl rfl rfl rfl rfl ?_; intro v3 w3 ho3 hg3 hnn)
        go_roundw
        case rel => exact ⟨k + 1, by go_num, by omega, by rw [Hst.out, if_pos h2]; exact ho3, hbl.trans (below_grown hg3 (by omega) hown.lt)⟩
        case measure => simp [intOf]; omega
      · go_wp2_with fail
        go_roundw
        case rel => exact ⟨k + 1, by go_num, by omega, by rw [Hst.out, if_neg h2]; simpa using hown, hbl⟩
        case measure => simp [intOf]; omega
    · rw [List.take_of_length_le (by omega)] at hown
      go_wp2_with fail
      go_ret
      exact ⟨_, rfl, hown, hbl⟩

def DClonePost (l : Int) (cs : List Int) (w : World) (e : Ending) (w' : World) : Prop :=
  ∃ g h, e = .returned (.pointer (some ⟨g, 0, none⟩)) ∧ DnV w' g h l cs ∧ w.heap.size ≤ g ∧ w.heap.size ≤ h ∧ Below w.heap.size w w'

set_option maxHeartbeats 1000000 in
theorem d_clone {w : World} {g h : Nat} {l u t : Int} {cs : List Int} (d : Dn w g h l u t cs) (v : Dv l u t cs) :
    Calls Try.prog 136 #[.pointer (some ⟨g, 0, none⟩)] w (DClonePost l cs w) := by
  have c0 : w.cell? ⟨g, 0, none⟩ = some (.int .i64 l) := d.1.cell 0
  have c1 : w.cell? ⟨g, 1, none⟩ = some (.int .i64 u) := d.1.cell 1
  have c2 : w.cell? ⟨g, 2, none⟩ = some (.int .i64 t) := d.1.cell 2
  have c3 : w.cell? ⟨g, 3, none⟩ = some (.slice (some ⟨h, 0, none⟩) cs.length cs.length) := d.1.cell 3
  have hlh := d.2.1.lt
  have hlg := d.1.lt
  have hbd := v.bound
  have hmk := make_ints cs.length (by omega)
  go_enter Try.func136, Try.ntmps136
  go_wp2_with fail
  have X : Blk ((w.alloc (.cells #[.int .i64 l, .int .i64 u, .int .i64 t, .slice (some ⟨w.heap.size + 1, 0, none⟩) cs.length cs.length] 149)).alloc (.cells (icells (List.replicate cs.length 0)) 3)) w.heap.size #[.int .i64 l, .int .i64 u, .int .i64 t, .slice (some ⟨w.heap.size + 1, 0, none⟩) cs.length cs.length] 149 := (Blk.new _ _ _).alloc _
  have Y : Blk ((w.alloc (.cells #[.int .i64 l, .int .i64 u, .int .i64 t, .slice (some ⟨w.heap.size + 1, 0, none⟩) cs.length cs.length] 149)).alloc (.cells (icells (List.replicate cs.length 0)) 3)) (w.heap.size + 1) (icells (List.replicate cs.length 0)) 3 := by
    have q := Blk.new (w.alloc (.cells #[.int .i64 l, .int .i64 u, .int .i64 t, .slice (some ⟨w.heap.size + 1, 0, none⟩) cs.length cs.length] 149)) (icells (List.replicate cs.length 0)) 3
    simpa using q
  have hb : Below w.heap.size w ((w.alloc (.cells #[.int .i64 l, .int .i64 u, .int .i64 t, .slice (some ⟨w.heap.size + 1, 0, none⟩) cs.length cs.length] 149)).alloc (.cells (icells (List.replicate cs.length 0)) 3)) := ((Below.refl _ _).alloc (Nat.le_refl _) _).alloc (by simp) _
  have D := d.below hb (Nat.le_refl _)
  generalize ((w.alloc (.cells #[.int .i64 l, .int .i64 u, .int .i64 t, .slice (some ⟨w.heap.size + 1, 0, none⟩) cs.length cs.length] 149)).alloc (.cells (icells (List.replicate cs.length 0)) 3)) = w4 at *
  have x3 : w4.cell? ⟨w.heap.size, 3, none⟩ = some (.slice (some ⟨w.heap.size + 1, 0, none⟩) cs.length cs.length) := X.cell 3
  have y3 : w4.cell? ⟨g, 3, none⟩ = some (.slice (some ⟨h, 0, none⟩) cs.length cs.length) := D.1.cell 3
  have hcp : (Builtin.copy_ #[22, 22] 3 #[.slice (some ⟨w.heap.size + 1, 0, none⟩) cs.length cs.length, .slice (some ⟨h, 0, none⟩) cs.length cs.length]).run Try.prog w4.drew = .ok (goInt cs.length) (w4.drew.setRow (w.heap.size + 1) (icells cs)) := by
    have q := run_copy_row (P := Try.prog) w4.drew 22 22 3 3 (w.heap.size + 1) 0 cs.length cs.length ⟨h, 0, none⟩ cs.length cs.length (icells (List.replicate cs.length 0)) 3 (icells cs).toList Try.underlying22 (by kernel_rfl) Y (by simp [icells]) ?_ (by simp [icells]) ?_
    · simpa [icells] using q
    · intro j x hj
      have hadd : (⟨h, 0, none⟩ : Addr).add j = ⟨h, j, none⟩ := by unfold Addr.add; split <;> simp_all
      rw [hadd]
      exact (D.2.1.cell j).trans (by simpa using hj)
    · intro x hx
      simp [icells] at hx
      obtain ⟨a, _, rfl⟩ := hx
      rfl
  go_region
  go_wp2_with fail
  go_ret
  have hne : w.heap.size ≠ w.heap.size + 1 := by omega
  have hlen : (List.replicate cs.length (0 : Int)).length = cs.length := by simp
  refine ⟨w.heap.size, w.heap.size + 1, rfl, ⟨u, t, ⟨X.keep (setRow_other _ _ _ _ hne), ?_, hne⟩, v⟩, Nat.le_refl _, Nat.le_succ _, ?_⟩
  · exact setRow_heap _ _ _ _ _ _ Y
  · exact below_setRow (below_drewN hb 1) (Nat.le_succ _) _
end Go.Proofs.Ytejoecoenehooaa
