/-
  No cell of these rows narrows 'for every input' (looked for: loops, veiled, ifaces, maps, wideKeys, modest, calm, conditions, laid).
  DERIVED. THE GIVEN ROWS OF THIS SEAT. 4 by the template 'for every input the law returns true; each argument reads behind the call as it read before'; 0 by the template 'total and deterministic' (their statements: YtaihjcefgokjkaaTotals.lean).
  GIVEN WITH THE SEED: the statements are not yours to turn. If you find one false, say at which input.
  Laid BY PROGRAM, IN A SANDBOX (cutbox-rows.mjs): the forced cells as the released guide's own fill.sh prints them over the translation bab06395303a0f1c… (all of the seat's roots in one cut). By AI agents, Wed Nov 11 2026. No macro, syntax, notation, axiom, sorry.
-/
import Derived.Test.YtaihjcefgokjkaaChecked
import GoSem.Claim
import GoSem.ClaimJoined
import GoSem.ClaimMapViews
import Derived.JoinedTies
import Derived.KernelRfl
namespace Go.Proofs.Ytaihjcefgokjkaa
/- THE CELL 'sum', in the pinned program and in every row, IS THE sha256 OF THE DUMP (.gsa) THAT YtaihjcefgokjkaaProg.lean LOADS. Nothing in Lean hashes anything: it is a label: what it is worth is what the hold of that sum in a sandbox is worth. -/
noncomputable def Try.pinned : Pinned := { name := "ytaihjcefgokjkaa", sum := "bab06395303a0f1caabb25a2fd8187ad38d248dcb6c0afd9753ce5c1659fcf65", checked := Try.checked }
namespace Rows
def none {H : Type} : Left H := { results := [], args := [] }

/-- 'dewpondlaw26.PlanFinds': WHATEVER THE INPUT: true; the input reads as it did. -/
def planFindsSpec : ChangeSpec := { name := "planFinds", fn := fun _ => fun
  | [d1, d2] => { results := [.lit (.bool true)], args := [d1, d2] }
  | _ => none }
def planFindsRow : OpenClaim := { program := "ytaihjcefgokjkaa", sum := "bab06395303a0f1caabb25a2fd8187ad38d248dcb6c0afd9753ce5c1659fcf65", func := "dewpond/dewpondlaw26.PlanFinds", spec := "planFinds", unfollowed := true, recurses := true, named := ["math/bits.divideError", "math/bits.overflowError"], apart := false }
def PlanFindsSaid : Prop := planFindsRow.holds Try.pinned (OpenSpec.ofChange planFindsSpec)

/-- ITS FALSE NEIGHBOUR: 'it returns false'. Refute it at one input. -/
def planFindsWrong : ChangeSpec := { name := "planFinds", fn := fun _ => fun
  | [d1, d2] => { results := [.lit (.bool false)], args := [d1, d2] }
  | _ => none }
def PlanFindsWrongFalsely : Prop := planFindsRow.holds Try.pinned (OpenSpec.ofChange planFindsWrong)

/-- 'dewpondlaw26.PlanTables': WHATEVER THE INPUT: true; the input reads as it did. -/
def planTablesSpec : ChangeSpec := { name := "planTables", fn := fun _ => fun
  | [d1, d2, d3] => { results := [.lit (.bool true)], args := [d1, d2, d3] }
  | _ => none }
def planTablesRow : OpenClaim := { program := "ytaihjcefgokjkaa", sum := "bab06395303a0f1caabb25a2fd8187ad38d248dcb6c0afd9753ce5c1659fcf65", func := "dewpond/dewpondlaw26.PlanTables", spec := "planTables", unfollowed := true, recurses := true, named := ["math/bits.divideError", "math/bits.overflowError"], apart := false }
def PlanTablesSaid : Prop := planTablesRow.holds Try.pinned (OpenSpec.ofChange planTablesSpec)

/-- ITS FALSE NEIGHBOUR: 'it returns false'. Refute it at one input. -/
def planTablesWrong : ChangeSpec := { name := "planTables", fn := fun _ => fun
  | [d1, d2, d3] => { results := [.lit (.bool false)], args := [d1, d2, d3] }
  | _ => none }
def PlanTablesWrongFalsely : Prop := planTablesRow.holds Try.pinned (OpenSpec.ofChange planTablesWrong)

/-- 'dewpondlaw26.PlanTells': WHATEVER THE INPUT: true; the input reads as it did. -/
def planTellsSpec : ChangeSpec := { name := "planTells", fn := fun _ => fun
  | [d1, d2, d3] => { results := [.lit (.bool true)], args := [d1, d2, d3] }
  | _ => none }
def planTellsRow : OpenClaim := { program := "ytaihjcefgokjkaa", sum := "bab06395303a0f1caabb25a2fd8187ad38d248dcb6c0afd9753ce5c1659fcf65", func := "dewpond/dewpondlaw26.PlanTells", spec := "planTells", unfollowed := true, recurses := true, named := ["math/bits.divideError", "math/bits.overflowError"], apart := false }
def PlanTellsSaid : Prop := planTellsRow.holds Try.pinned (OpenSpec.ofChange planTellsSpec)

/-- ITS FALSE NEIGHBOUR: 'it returns false'. Refute it at one input. -/
def planTellsWrong : ChangeSpec := { name := "planTells", fn := fun _ => fun
  | [d1, d2, d3] => { results := [.lit (.bool false)], args := [d1, d2, d3] }
  | _ => none }
def PlanTellsWrongFalsely : Prop := planTellsRow.holds Try.pinned (OpenSpec.ofChange planTellsWrong)

/-- 'dewpondlaw26.PlanLeast': WHATEVER THE INPUT: true; the input reads as it did. -/
def planLeastSpec : ChangeSpec := { name := "planLeast", fn := fun _ => fun
  | [d1, d2, d3] => { results := [.lit (.bool true)], args := [d1, d2, d3] }
  | _ => none }
def planLeastRow : OpenClaim := { program := "ytaihjcefgokjkaa", sum := "bab06395303a0f1caabb25a2fd8187ad38d248dcb6c0afd9753ce5c1659fcf65", func := "dewpond/dewpondlaw26.PlanLeast", spec := "planLeast", unfollowed := true, recurses := true, named := ["math/bits.divideError", "math/bits.overflowError"], apart := false }
def PlanLeastSaid : Prop := planLeastRow.holds Try.pinned (OpenSpec.ofChange planLeastSpec)

/-- ITS FALSE NEIGHBOUR: 'it returns false'. Refute it at one input. -/
def planLeastWrong : ChangeSpec := { name := "planLeast", fn := fun _ => fun
  | [d1, d2, d3] => { results := [.lit (.bool false)], args := [d1, d2, d3] }
  | _ => none }
def PlanLeastWrongFalsely : Prop := planLeastRow.holds Try.pinned (OpenSpec.ofChange planLeastWrong)

/- THE SECOND FORM. 'bulk': how many values and letters a reading holds, each counted each time it is reached (what is shared counts as often as it is met; a slice's spare places count too). A statement '..UptoSaid' is the law's where the arguments, and the package variables that the reading takes, are together of bulk at most 1048576: NARROWER than '..Said'. Prove '..Said' where nothing that the law and all that it calls make is longer than what came in: it says more and counts as full. Else prove '..UptoSaid'. A law counts once. -/
mutual
def uptoBulk {H : Type} : DataW H → Nat
  | .lit (.string bytes) => bytes.length + 1
  | .lit _ => 1
  | .nil => 1
  | .ptr d => uptoBulk d + 1
  | .slice elems spare => uptoBulkAll elems + uptoBulkAll spare + 1
  | .agg parts => uptoBulkAll parts + 1
  | .iface _ d => uptoBulk d + 1
  | .map entries => uptoBulkEntries entries + 1
  | .held _ => 1
def uptoBulkAll {H : Type} : List (DataW H) → Nat
  | [] => 0
  | d :: r => uptoBulk d + uptoBulkAll r
def uptoBulkEntries {H : Type} : List (Lit × DataW H) → Nat
  | [] => 0
  | x :: r => uptoBulkEntry x + uptoBulkEntries r
def uptoBulkEntry {H : Type} : Lit × DataW H → Nat
  | (.string bytes, d) => bytes.length + uptoBulk d + 1
  | (_, d) => uptoBulk d + 1
 end
def uptoSmall : (H : Type) → List (DataW H) → Bool := fun _ ds => decide (uptoBulkAll ds ≤ 1048576)
def OpenSpec.upto (s : _root_.Go.ChangeSpec) : _root_.Go.OpenSpec := { _root_.Go.OpenSpec.ofChange s with cond := some uptoSmall }

/-- 'dewpondlaw26.PlanFinds', WHERE WHAT IT READS IS OF BULK AT MOST 1048576: true; the input reads as it did. -/
def planFindsUptoRow : OpenClaim := { program := "ytaihjcefgokjkaa", sum := "bab06395303a0f1caabb25a2fd8187ad38d248dcb6c0afd9753ce5c1659fcf65", func := "dewpond/dewpondlaw26.PlanFinds", spec := "planFinds", unfollowed := true, recurses := true, named := ["math/bits.divideError", "math/bits.overflowError"], apart := false, narrowed := true }
def PlanFindsUptoSaid : Prop := planFindsUptoRow.holds Try.pinned (OpenSpec.upto planFindsSpec)

/-- 'dewpondlaw26.PlanTables', WHERE WHAT IT READS IS OF BULK AT MOST 1048576: true; the input reads as it did. -/
def planTablesUptoRow : OpenClaim := { program := "ytaihjcefgokjkaa", sum := "bab06395303a0f1caabb25a2fd8187ad38d248dcb6c0afd9753ce5c1659fcf65", func := "dewpond/dewpondlaw26.PlanTables", spec := "planTables", unfollowed := true, recurses := true, named := ["math/bits.divideError", "math/bits.overflowError"], apart := false, narrowed := true }
def PlanTablesUptoSaid : Prop := planTablesUptoRow.holds Try.pinned (OpenSpec.upto planTablesSpec)

/-- 'dewpondlaw26.PlanTells', WHERE WHAT IT READS IS OF BULK AT MOST 1048576: true; the input reads as it did. -/
def planTellsUptoRow : OpenClaim := { program := "ytaihjcefgokjkaa", sum := "bab06395303a0f1caabb25a2fd8187ad38d248dcb6c0afd9753ce5c1659fcf65", func := "dewpond/dewpondlaw26.PlanTells", spec := "planTells", unfollowed := true, recurses := true, named := ["math/bits.divideError", "math/bits.overflowError"], apart := false, narrowed := true }
def PlanTellsUptoSaid : Prop := planTellsUptoRow.holds Try.pinned (OpenSpec.upto planTellsSpec)

/-- 'dewpondlaw26.PlanLeast', WHERE WHAT IT READS IS OF BULK AT MOST 1048576: true; the input reads as it did. -/
def planLeastUptoRow : OpenClaim := { program := "ytaihjcefgokjkaa", sum := "bab06395303a0f1caabb25a2fd8187ad38d248dcb6c0afd9753ce5c1659fcf65", func := "dewpond/dewpondlaw26.PlanLeast", spec := "planLeast", unfollowed := true, recurses := true, named := ["math/bits.divideError", "math/bits.overflowError"], apart := false, narrowed := true }
def PlanLeastUptoSaid : Prop := planLeastUptoRow.holds Try.pinned (OpenSpec.upto planLeastSpec)

end Rows
end Go.Proofs.Ytaihjcefgokjkaa
