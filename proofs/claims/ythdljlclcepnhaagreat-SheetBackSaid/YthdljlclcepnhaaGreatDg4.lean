/- The walk of the statements' alive, of layer 13. -/
import Derived.Test.YthdljlclcepnhaaGreatDg3
namespace Go.Proofs.YthdljlclcepnhaaGreat
open Go.RowKit Nl

namespace Nl
def aliveL : Nat → List (Int × Int)
  | 0 => []
  | n + 1 => (dgIns 3 1 (aliveL n) n 1).1
def aliveM : List (Int × Int) := (dgIns 3 1 (aliveL 8) 0 1).1
theorem alive_step : ∀ n, n < 8 → (dgIns 3 1 (aliveL n) n 1).2 = 0 ∧ (aliveL n).length = n := by decide +kernel
theorem alive_facts : (aliveL 8).length = 8 ∧ (dgIns 3 1 (aliveL 8) 0 1).2 = 0 ∧ sumL aliveM = 9 ∧ aliveM.length = 8 ∧ (comL 3 1 aliveM).1 = [(1, 9)] := by decide +kernel
end Nl
/-- A digest's turning, seen from before it was made. -/
theorem ChB.of_new {S : Nat → Prop} {w w1 w2 : World} (hb : Below w.heap.size w w1) (c : ChB S w1 w2) (hS : ∀ j, S j → w.heap.size ≤ j) : Below w.heap.size w w2 :=
  hb.trans (c.below (fun j _ h => hS j h) hb.size)

end Go.Proofs.YthdljlclcepnhaaGreat
