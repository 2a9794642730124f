/- The walks of the package plan and of its reference: Right, Bytes, Error. -/
import Derived.Test.YtaihjcefgokjkaaRkRef
import Derived.Test.YtaihjcefgokjkaaRkLaws
namespace Go.Proofs.Ytaihjcefgokjkaa
open Go.RowKit Rk

theorem ret_bool {a b : Bool} (h : a = b) : Ending.returned (.bool a) = .returned (.bool b) := by rw [h]
/-- A block, known whole. -/
def Blk (w : World) (g : Nat) (arr : Array Value) (T : TypeId) : Prop := w.heap[g]? = some (.cells arr T (0, 0))
theorem Blk.new (w : World) (arr : Array Value) (T : TypeId) : Blk (w.alloc (.cells arr T)) w.heap.size arr T := heap_alloc_new w _
theorem Blk.lt {w : World} {g : Nat} {arr : Array Value} {T : TypeId} (h : Blk w g arr T) : g < w.heap.size := (Array.getElem?_eq_some_iff.1 h).1
theorem Blk.keep {w w' : World} {g : Nat} {arr : Array Value} {T : TypeId} (h : Blk w g arr T) (e : w'.heap[g]? = w.heap[g]?) : Blk w' g arr T := e.trans h
theorem Blk.alloc {w : World} {g : Nat} {arr : Array Value} {T : TypeId} (h : Blk w g arr T) (o : Obj) : Blk (w.alloc o) g arr T := h.keep (Below.heap_alloc w o g h.lt)
theorem Blk.below {w w' : World} {g B : Nat} {arr : Array Value} {T : TypeId} (h : Blk w g arr T) (hb : Below B w w') (hB : w.heap.size ≤ B) : Blk w' g arr T := h.keep (hb.block g (Nat.lt_of_lt_of_le h.lt hB))
theorem Blk.cell {w : World} {g : Nat} {arr : Array Value} {T : TypeId} (h : Blk w g arr T) (j : Nat) : w.cell? ⟨g, j, none⟩ = arr[j]? := cell_of_row w g j arr T (0, 0) h
theorem Blk.free {w : World} {g : Nat} {arr : Array Value} {T : TypeId} (h : Blk w g arr T) (j : Nat) : w.frozen? ⟨g, j, none⟩ = false := by
  simp only [World.frozen?]
  rw [show w.heap[g]? = some (.cells arr T (0, 0)) from h]
  simp
theorem Blk.set {w : World} {g : Nat} {arr : Array Value} {T : TypeId} (h : Blk w g arr T) (j : Nat) (v : Value) : Blk (w.setCell ⟨g, j, none⟩ v) g (arr.setIfInBounds j v) T := heap_setCell_same w g j arr T v h
theorem Blk.grown {w w' : World} {g B : Nat} {arr : Array Value} {T : TypeId} {row : Option Nat} (h : Blk w g arr T) (hg : w.grownBy w' row) (hr : ∀ k, row = some k → B ≤ k) (hB : g < B) : Blk w' g arr T :=
  h.keep (hg.block g h.lt fun e => by have := hr g e.symm; omega)

namespace Rk
def uniB (l : Int) : Bool := decide (1 ≤ l ∧ l ≤ 48)
def isK (k : Int) : Bool := decide (1 ≤ k ∧ k ≤ 1048576)
def bytesV (k : Int) : Int := if isK k then 78 + 72 * k else 0
def errOk (l k n : Int) : Bool := uniB l && isK k && decide (0 ≤ n ∧ n ≤ 72057594037927935)
def errV (l k n : Int) : Int := if errOk l k n then l * (n / k) else 0
def wantB (l num den : Int) : Bool := uniB l && decide (1 ≤ num) && decide (1 ≤ den)
theorem pow48 {n : Nat} (h : n ≤ 48) : (1 : Int) ≤ 2 ^ n ∧ (2 : Int) ^ n ≤ 281474976710656 := by
  have h1 : (2 : Nat) ^ n ≤ 2 ^ 48 := Nat.pow_le_pow_right (by omega) h
  have h2 : (1 : Nat) ≤ 2 ^ n := Nat.one_le_two_pow
  have e : (2 : Int) ^ n = ((2 ^ n : Nat) : Int) := by simp
  have h3 : (2 : Nat) ^ 48 = 281474976710656 := rfl
  rw [e]; omega
def In64 (n : Int) : Prop := -9223372036854775808 ≤ n ∧ n ≤ 9223372036854775807
end Rk

set_option maxRecDepth 100000 in
set_option maxHeartbeats 400000 in
theorem twig_one (l : Int) (w : World) (bl : In64 l) :
    Calls Try.prog 49 #[.int .i64 l, .int .i64 1] w fun e w' => e = .returned (.bool (uniB l)) ∧ w = w' := by
  obtain ⟨l1, l2⟩ := bl
  by_cases h1 : 1 ≤ l
  · by_cases h2 : l ≤ 48
    · obtain ⟨n, rfl⟩ := Int.eq_ofNat_of_zero_le (show 0 ≤ l by omega)
      obtain ⟨b1, b2⟩ := pow48 (n := n) (by omega)
      have e : uniB (n : Int) = true := by simp [uniB]; omega
      have hn : n ≤ 48 := by omega
      have h4 : (1 : Int) < 2 * 2 ^ n := by omega
      rw [e]; clear e
      go_enter Try.func49, Try.ntmps49
      go_wp2_with (go_at_call 55; go_in)
      go_ret
      exact ⟨rfl, rfl⟩
    · have e : uniB l = false := by simp [uniB, h2]
      rw [e]; clear e
      go_enter Try.func49, Try.ntmps49
      go_wp2_with (go_at_call 55; go_in)
      go_ret
      exact ⟨rfl, rfl⟩
  · have e : uniB l = false := by simp [uniB, h1]
    rw [e]; clear e
    go_enter Try.func49, Try.ntmps49
    go_wp2_with (go_at_call 55; go_in)
    go_ret
    exact ⟨rfl, rfl⟩
set_option maxRecDepth 100000 in
set_option maxHeartbeats 400000 in
theorem pa_universe (l : Int) (w : World) (bl : In64 l) :
    Calls Try.prog 37 #[.int .i64 l] w fun e w' => e = .returned (.bool (uniB l)) ∧ w = w' := by
  have T := hid (twig_one l w bl)
  generalize uniB l = u at *
  go_enter Try.func37, Try.ntmps37
  go_wp2_with fail
  refine T.out.mono ?_
  rintro e w' ⟨rfl, rfl⟩
  go_wp2_with fail
  go_ret
  exact ⟨rfl, rfl⟩
set_option maxRecDepth 100000 in
set_option maxHeartbeats 400000 in
theorem pa_may (k : Int) (w : World) :
    Calls Try.prog 27 #[.int .i64 k] w fun e w' => e = .returned (.bool (isK k)) ∧ w = w' := by
  by_cases h1 : k < 1
  · have e : isK k = false := by simp [isK]; omega
    rw [e]; clear e
    go_enter Try.func27, Try.ntmps27
    go_wp2_with fail
    go_ret
    exact ⟨rfl, rfl⟩
  · have e : isK k = decide (k ≤ 1048576) := by simp [isK]; omega
    rw [e]; clear e
    go_enter Try.func27, Try.ntmps27
    go_wp2_with fail
    go_ret
    exact ⟨rfl, rfl⟩
set_option maxRecDepth 100000 in
set_option maxHeartbeats 400000 in
theorem r_isK (k : Int) (w : World) :
    Calls Try.prog 34 #[.int .i64 k] w fun e w' => e = .returned (.bool (isK k)) ∧ w = w' := by
  by_cases h1 : k < 1
  · have e : isK k = false := by simp [isK]; omega
    rw [e]; clear e
    go_enter Try.func34, Try.ntmps34
    go_wp2_with fail
    go_ret
    exact ⟨rfl, rfl⟩
  · have e : isK k = decide (k ≤ 1048576) := by simp [isK]; omega
    rw [e]; clear e
    go_enter Try.func34, Try.ntmps34
    go_wp2_with fail
    go_ret
    exact ⟨rfl, rfl⟩
set_option maxRecDepth 100000 in
set_option maxHeartbeats 400000 in
theorem r_isL (l : Int) (w : World) :
    Calls Try.prog 31 #[.int .i64 l] w fun e w' => e = .returned (.bool (uniB l)) ∧ w = w' := by
  by_cases h1 : l < 1
  · have e : uniB l = false := by simp [uniB]; omega
    rw [e]; clear e
    go_enter Try.func31, Try.ntmps31
    go_wp2_with fail
    go_ret
    exact ⟨rfl, rfl⟩
  · have e : uniB l = decide (l ≤ 48) := by simp [uniB]; omega
    rw [e]; clear e
    go_enter Try.func31, Try.ntmps31
    go_wp2_with fail
    go_ret
    exact ⟨rfl, rfl⟩
set_option maxRecDepth 100000 in
set_option maxHeartbeats 400000 in
theorem pa_bytes (k : Int) (w : World) :
    Calls Try.prog 17 #[.int .i64 k] w fun e w' => e = .returned (.tuple #[.int .i64 (bytesV k), .bool (isK k)]) ∧ w = w' := by
  by_cases h : 1 ≤ k ∧ k ≤ 1048576
  · have e : isK k = true := by simpa [isK] using h
    have e2 : bytesV k = 78 + 72 * k := by unfold bytesV; rw [e]; rfl
    have M := hid (pa_may k w)
    rw [e] at M
    rw [e, e2]; clear e e2
    obtain ⟨h1, h2⟩ := h
    go_enter Try.func17, Try.ntmps17
    go_wp2_with fail
    refine M.out.mono ?_
    rintro e w' ⟨rfl, rfl⟩
    go_wp2_with (first | (go_at_call 33; go_in) | (go_at_call 48; go_in) | (go_at_call 32; go_in))
    go_ret2
    exact ⟨ret_ib (by omega) rfl, rfl⟩
  · have e : isK k = false := by simpa [isK] using h
    have e2 : bytesV k = 0 := by unfold bytesV; rw [e]; rfl
    have M := hid (pa_may k w)
    rw [e] at M
    rw [e, e2]; clear e e2 h
    go_enter Try.func17, Try.ntmps17
    go_wp2_with fail
    refine M.out.mono ?_
    rintro e w' ⟨rfl, rfl⟩
    go_wp2_with fail
    go_ret2
    exact ⟨rfl, rfl⟩
set_option maxRecDepth 100000 in
set_option maxHeartbeats 400000 in
theorem r_bytes (k : Int) (w : World) :
    Calls Try.prog 18 #[.int .i64 k] w fun e w' => e = .returned (.tuple #[.int .i64 (bytesV k), .bool (isK k)]) ∧ w = w' := by
  have M := hid (r_isK k w)
  by_cases h : 1 ≤ k ∧ k ≤ 1048576
  · have e : isK k = true := by simpa [isK] using h
    have e2 : bytesV k = 78 + 72 * k := by unfold bytesV; rw [e]; rfl
    rw [e] at M
    rw [e, e2]; clear e e2
    obtain ⟨h1, h2⟩ := h
    go_enter Try.func18, Try.ntmps18
    go_wp2_with fail
    refine M.out.mono ?_
    rintro e w' ⟨rfl, rfl⟩
    go_wp2_with (first | (go_at_call 36; go_in) | (go_at_call 34; go_in) | (go_at_call 35; go_in))
    go_ret2
    exact ⟨ret_ib (by omega) rfl, rfl⟩
  · have e : isK k = false := by simpa [isK] using h
    have e2 : bytesV k = 0 := by unfold bytesV; rw [e]; rfl
    rw [e] at M
    rw [e, e2]; clear e e2 h
    go_enter Try.func18, Try.ntmps18
    go_wp2_with fail
    refine M.out.mono ?_
    rintro e w' ⟨rfl, rfl⟩
    go_wp2_with fail
    go_ret2
    exact ⟨rfl, rfl⟩
end Go.Proofs.Ytaihjcefgokjkaa
