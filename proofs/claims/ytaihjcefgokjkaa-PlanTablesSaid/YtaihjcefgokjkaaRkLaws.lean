/- The walks of the statements of layer 1. -/
import Derived.Test.YtaihjcefgokjkaaRkProg4
namespace Go.Proofs.Ytaihjcefgokjkaa
open Go.RowKit Rk

theorem Drawn.below {w w' : World} (h : Drawn w w') (B : Nat) : Below B w w' := by obtain ⟨n, rfl⟩ := h; exact below_drewN (Below.refl _ _) n

end Go.Proofs.Ytaihjcefgokjkaa
