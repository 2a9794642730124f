/- The walks of wire.Encode of nil, Bound, and the reference's Encode and Bound. -/
import Derived.Test.YtbbkfjbaocpknaaGreatWr5
import Derived.Test.YtbbkfjbaocpknaaGreatDr1
namespace Go.Proofs.YtbbkfjbaocpknaaGreat
open Go.RowKit Nl Vy

set_option maxRecDepth 100000 in
theorem w_encode_nil (w : World) : Calls Tryz.prog 21 #[.pointer none] w fun e w' => e = .returned (.tuple #[.string ⟨#[]⟩, .int .i64 1]) ∧ w = w' := by
  go_enter Tryz.func21, Tryz.ntmps21
  go_wp2_with fail
  go_ret2
  exact ⟨rfl, rfl⟩
def Vy.boundV (n : Int) : Int := if n < 0 then 32 else if 1099511627776 < n then 19791209299968 + 32 else 32 + 18 * n
set_option maxRecDepth 100000 in
theorem w_bound (n : Int) (w : World) (bn : In64 n) : Calls Tryz.prog 26 #[.int .i64 n] w fun e w' => e = .returned (.int .i64 (boundV n)) ∧ w = w' := by
  obtain ⟨b1, b2⟩ := bn
  have hV : Hid (boundV n = if n < 0 then 32 else if 1099511627776 < n then 19791209299968 + 32 else 32 + 18 * n) := rfl
  by_cases h1 : n < 0
  · have E : Hid (boundV n = 32) := by show _ = _; rw [hV.out, if_pos h1]
    go_enter Tryz.func26, Tryz.ntmps26
    go_wp2_with fail
    all_goals first
      | (exfalso; omega)
      | (go_ret; exact ⟨ret_int (by have := E.out; omega), rfl⟩)
  by_cases h2 : 1099511627776 < n
  · have E : Hid (boundV n = 19791209299968 + 32) := by show _ = _; rw [hV.out, if_neg h1, if_pos h2]
    go_enter Tryz.func26, Tryz.ntmps26
    go_wp2_with fail
    all_goals first
      | (exfalso; omega)
      | (go_ret; exact ⟨ret_int (by have := E.out; omega), rfl⟩)
  · have E : Hid (boundV n = 32 + 18 * n) := by show _ = _; rw [hV.out, if_neg h1, if_neg h2]
    go_enter Tryz.func26, Tryz.ntmps26
    go_wp2_with fail
    all_goals first
      | (exfalso; omega)
      | (go_ret; exact ⟨ret_int (by have := E.out; omega), rfl⟩)
theorem keepA {X w9 : World} {v : Value} {T : TypeId} (hb : Below (X.alloc (.cells #[v] T)).heap.size (X.alloc (.cells #[v] T)) w9) : w9.cell? ⟨X.heap.size, 0, none⟩ = some v :=
  ((Blk.new X #[v] T).below hb (Nat.le_refl _)).cell 0
theorem keepD {X w9 : World} {v : Value} {T : TypeId} (hb : Below (X.alloc (.cells #[v] T)).drew.heap.size (X.alloc (.cells #[v] T)).drew w9) : w9.cell? ⟨X.heap.size, 0, none⟩ = some v :=
  (((Blk.new X #[v] T).drewN 1).below hb (Nat.le_refl _)).cell 0
theorem cell_lt {w : World} {b o : Nat} {v : Value} (h : w.cell? ⟨b, o, none⟩ = some v) : b < w.heap.size := by
  rcases Nat.lt_or_ge b w.heap.size with hl | hl
  · exact hl
  · simp [World.cell?, Array.getElem?_eq_none hl] at h
theorem keepB {w w9 : World} {v : Value} {b : Nat} (hb : Below w.heap.size w w9) (hc : w.cell? ⟨b, 0, none⟩ = some v) : w9.cell? ⟨b, 0, none⟩ = some v := cell_below hb hc (cell_lt hc)
set_option maxRecDepth 100000 in
theorem Vy.one_conv (c : UInt8) (v : Int) (hv : (c.toNat : Int) = v) (W : World) (b : Nat) (hc : W.cell? ⟨b, 0, none⟩ = some (.int .u8 v)) :
    (convert 65 9 (.slice (some ⟨b, 0, none⟩) 1 1)).run Tryz.prog W = .ok (.string ⟨#[c]⟩) W := by
  exact run_convert_bytes_back (P := Tryz.prog) W 65 9 5 ⟨b, 0, none⟩ 1 [c] rfl rfl rfl (fun j hj => by
    obtain rfl : j = 0 := by simpa using hj
    rw [Addr.add_mid, hc, ← hv]; rfl)
end Go.Proofs.YtbbkfjbaocpknaaGreat
