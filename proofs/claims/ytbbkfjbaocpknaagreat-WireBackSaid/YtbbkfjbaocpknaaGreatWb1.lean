/- The walk of law 24's text. -/
import Derived.Test.YtbbkfjbaocpknaaGreatWA
namespace Go.Proofs.YtbbkfjbaocpknaaGreat
open Go.RowKit Vy

/-- The box of what may be a digest's bytes. -/
def SomeC (s : ByteArray) (b : Bool) : Array Value := #[.string s, .bool b]
set_option maxRecDepth 100000 in
set_option maxHeartbeats 1000000 in
theorem l_text (s : ByteArray) (b : Bool) (w : World) (hs : s.size ≤ 281474976710656) : Calls Tryz.prog 24 #[.agg #[.string s, .bool b]] w fun e w' => ∃ T : ByteArray, e = .returned (.string T) ∧ Below w.heap.size w w' := by
  have X := Blk.new w #[.string s, .bool b] 69
  have hb1 : Below w.heap.size w (w.alloc (.cells #[.string s, .bool b] 69)) := (Below.refl _ _).alloc (Nat.le_refl _) _
  have SL := fun W : World => r_seal (w := W) s.data.toList (by simpa using hs)
  rw [← bs_list s] at SL
  have SL := hid SL
  cases b
  · clear SL X
    go_enter Tryz.func24, Tryz.ntmps24
    go_wp2_with fail
    go_ret
    exact ⟨_, rfl, hb1⟩
  · go_enter Tryz.func24, Tryz.ntmps24
    generalize sealL s.data.toList = E at *
    go_wp2_with fail
    refine (SL.out _).mono ?_
    rintro e w2 ⟨rfl, hb2⟩
    have hb3 := hb1.trans (hb2.mono hb1.size)
    clear SL hb2
    go_wp2_with fail
    go_ret
    exact ⟨_, rfl, hb3⟩
end Go.Proofs.YtbbkfjbaocpknaaGreat
