/-
  No cell of these rows narrows 'for every input' (looked for: loops, veiled, ifaces, maps, wideKeys, modest, calm, conditions, laid).
  DERIVED. THE GIVEN ROWS OF THIS SEAT. 9 by the template 'for every input the law returns true; each argument reads behind the call as it read before'; 0 by the template 'total and deterministic' (their statements: YtnakieopnobjmaaGreatTotals.lean).
  GIVEN WITH THE SEED: the statements are not yours to turn. If you find one false, say at which input.
  Laid BY PROGRAM, IN A SANDBOX (cutbox-rows.mjs): the forced cells as the released guide's own fill.sh prints them over the translation 12dd20d4d478ed0d… (all of the seat's roots in one cut). By AI agents, Wed Nov 11 2026. No macro, syntax, notation, axiom, sorry.
-/
import Derived.Test.YtnakieopnobjmaaGreatChecked
import GoSem.Claim
import GoSem.ClaimJoined
import GoSem.ClaimMapViews
import Derived.JoinedTies
import Derived.KernelRfl
namespace Go.Proofs.YtnakieopnobjmaaGreat
/- THE CELL 'sum', in the pinned program and in every row, IS THE sha256 OF THE DUMP (.gsa) THAT YtnakieopnobjmaaGreatProg.lean LOADS. Nothing in Lean hashes anything: it is a label: what it is worth is what the hold of that sum in a sandbox is worth. -/
noncomputable def Tryz.pinned : Pinned := { name := "ytnakieopnobjmaagreat", sum := "12dd20d4d478ed0d5768e0b20b40f7027e4b9b833b083390920ffbc32b714b11", checked := Tryz.checked }
namespace Rows
def none {H : Type} : Left H := { results := [], args := [] }

/-- 'dewpondlaw15.RecastGrows': WHATEVER THE INPUT: true; the input reads as it did. -/
def recastGrowsSpec : ChangeSpec := { name := "recastGrows", fn := fun _ => fun
  | [d1, d2] => { results := [.lit (.bool true)], args := [d1, d2] }
  | _ => none }
def recastGrowsRow : OpenClaim := { program := "ytnakieopnobjmaagreat", sum := "12dd20d4d478ed0d5768e0b20b40f7027e4b9b833b083390920ffbc32b714b11", func := "dewpond/dewpondlaw15.RecastGrows", spec := "recastGrows", unfollowed := true, recurses := true, apart := false }
def RecastGrowsSaid : Prop := recastGrowsRow.holds Tryz.pinned (OpenSpec.ofChange recastGrowsSpec)

/-- ITS FALSE NEIGHBOUR: 'it returns false'. Refute it at one input. -/
def recastGrowsWrong : ChangeSpec := { name := "recastGrows", fn := fun _ => fun
  | [d1, d2] => { results := [.lit (.bool false)], args := [d1, d2] }
  | _ => none }
def RecastGrowsWrongFalsely : Prop := recastGrowsRow.holds Tryz.pinned (OpenSpec.ofChange recastGrowsWrong)

/-- 'dewpondlaw15.RecastCoarsens': WHATEVER THE INPUT: true; the input reads as it did. -/
def recastCoarsensSpec : ChangeSpec := { name := "recastCoarsens", fn := fun _ => fun
  | [d1, d2] => { results := [.lit (.bool true)], args := [d1, d2] }
  | _ => none }
def recastCoarsensRow : OpenClaim := { program := "ytnakieopnobjmaagreat", sum := "12dd20d4d478ed0d5768e0b20b40f7027e4b9b833b083390920ffbc32b714b11", func := "dewpond/dewpondlaw15.RecastCoarsens", spec := "recastCoarsens", unfollowed := true, recurses := true, apart := false }
def RecastCoarsensSaid : Prop := recastCoarsensRow.holds Tryz.pinned (OpenSpec.ofChange recastCoarsensSpec)

/-- ITS FALSE NEIGHBOUR: 'it returns false'. Refute it at one input. -/
def recastCoarsensWrong : ChangeSpec := { name := "recastCoarsens", fn := fun _ => fun
  | [d1, d2] => { results := [.lit (.bool false)], args := [d1, d2] }
  | _ => none }
def RecastCoarsensWrongFalsely : Prop := recastCoarsensRow.holds Tryz.pinned (OpenSpec.ofChange recastCoarsensWrong)

/-- 'dewpondlaw15.RecastStands': WHATEVER THE INPUT: true; the input reads as it did. -/
def recastStandsSpec : ChangeSpec := { name := "recastStands", fn := fun _ => fun
  | [d1, d2] => { results := [.lit (.bool true)], args := [d1, d2] }
  | _ => none }
def recastStandsRow : OpenClaim := { program := "ytnakieopnobjmaagreat", sum := "12dd20d4d478ed0d5768e0b20b40f7027e4b9b833b083390920ffbc32b714b11", func := "dewpond/dewpondlaw15.RecastStands", spec := "recastStands", unfollowed := true, recurses := true, apart := false }
def RecastStandsSaid : Prop := recastStandsRow.holds Tryz.pinned (OpenSpec.ofChange recastStandsSpec)

/-- ITS FALSE NEIGHBOUR: 'it returns false'. Refute it at one input. -/
def recastStandsWrong : ChangeSpec := { name := "recastStands", fn := fun _ => fun
  | [d1, d2] => { results := [.lit (.bool false)], args := [d1, d2] }
  | _ => none }
def RecastStandsWrongFalsely : Prop := recastStandsRow.holds Tryz.pinned (OpenSpec.ofChange recastStandsWrong)

/-- 'dewpondlaw14.BlendMerges': WHATEVER THE INPUT: true; the input reads as it did. -/
def blendMergesSpec : ChangeSpec := { name := "blendMerges", fn := fun _ => fun
  | [d1, d2] => { results := [.lit (.bool true)], args := [d1, d2] }
  | _ => none }
def blendMergesRow : OpenClaim := { program := "ytnakieopnobjmaagreat", sum := "12dd20d4d478ed0d5768e0b20b40f7027e4b9b833b083390920ffbc32b714b11", func := "dewpond/dewpondlaw14.BlendMerges", spec := "blendMerges", unfollowed := true, recurses := true, apart := false }
def BlendMergesSaid : Prop := blendMergesRow.holds Tryz.pinned (OpenSpec.ofChange blendMergesSpec)

/-- ITS FALSE NEIGHBOUR: 'it returns false'. Refute it at one input. -/
def blendMergesWrong : ChangeSpec := { name := "blendMerges", fn := fun _ => fun
  | [d1, d2] => { results := [.lit (.bool false)], args := [d1, d2] }
  | _ => none }
def BlendMergesWrongFalsely : Prop := blendMergesRow.holds Tryz.pinned (OpenSpec.ofChange blendMergesWrong)

/-- 'dewpondlaw14.BlendStands': WHATEVER THE INPUT: true; the input reads as it did. -/
def blendStandsSpec : ChangeSpec := { name := "blendStands", fn := fun _ => fun
  | [d1, d2, d3] => { results := [.lit (.bool true)], args := [d1, d2, d3] }
  | _ => none }
def blendStandsRow : OpenClaim := { program := "ytnakieopnobjmaagreat", sum := "12dd20d4d478ed0d5768e0b20b40f7027e4b9b833b083390920ffbc32b714b11", func := "dewpond/dewpondlaw14.BlendStands", spec := "blendStands", unfollowed := true, recurses := true, apart := false }
def BlendStandsSaid : Prop := blendStandsRow.holds Tryz.pinned (OpenSpec.ofChange blendStandsSpec)

/-- ITS FALSE NEIGHBOUR: 'it returns false'. Refute it at one input. -/
def blendStandsWrong : ChangeSpec := { name := "blendStands", fn := fun _ => fun
  | [d1, d2, d3] => { results := [.lit (.bool false)], args := [d1, d2, d3] }
  | _ => none }
def BlendStandsWrongFalsely : Prop := blendStandsRow.holds Tryz.pinned (OpenSpec.ofChange blendStandsWrong)

/-- 'dewpondlaw14.BlendLowers': WHATEVER THE INPUT: true; the input reads as it did. -/
def blendLowersSpec : ChangeSpec := { name := "blendLowers", fn := fun _ => fun
  | [d1, d2] => { results := [.lit (.bool true)], args := [d1, d2] }
  | _ => none }
def blendLowersRow : OpenClaim := { program := "ytnakieopnobjmaagreat", sum := "12dd20d4d478ed0d5768e0b20b40f7027e4b9b833b083390920ffbc32b714b11", func := "dewpond/dewpondlaw14.BlendLowers", spec := "blendLowers", unfollowed := true, recurses := true, apart := false }
def BlendLowersSaid : Prop := blendLowersRow.holds Tryz.pinned (OpenSpec.ofChange blendLowersSpec)

/-- ITS FALSE NEIGHBOUR: 'it returns false'. Refute it at one input. -/
def blendLowersWrong : ChangeSpec := { name := "blendLowers", fn := fun _ => fun
  | [d1, d2] => { results := [.lit (.bool false)], args := [d1, d2] }
  | _ => none }
def BlendLowersWrongFalsely : Prop := blendLowersRow.holds Tryz.pinned (OpenSpec.ofChange blendLowersWrong)

/-- 'dewpondlaw15.RecastSteps': WHATEVER THE INPUT: true; the input reads as it did. -/
def recastStepsSpec : ChangeSpec := { name := "recastSteps", fn := fun _ => fun
  | [d1, d2, d3] => { results := [.lit (.bool true)], args := [d1, d2, d3] }
  | _ => none }
def recastStepsRow : OpenClaim := { program := "ytnakieopnobjmaagreat", sum := "12dd20d4d478ed0d5768e0b20b40f7027e4b9b833b083390920ffbc32b714b11", func := "dewpond/dewpondlaw15.RecastSteps", spec := "recastSteps", unfollowed := true, recurses := true, apart := false }
def RecastStepsSaid : Prop := recastStepsRow.holds Tryz.pinned (OpenSpec.ofChange recastStepsSpec)

/-- ITS FALSE NEIGHBOUR: 'it returns false'. Refute it at one input. -/
def recastStepsWrong : ChangeSpec := { name := "recastSteps", fn := fun _ => fun
  | [d1, d2, d3] => { results := [.lit (.bool false)], args := [d1, d2, d3] }
  | _ => none }
def RecastStepsWrongFalsely : Prop := recastStepsRow.holds Tryz.pinned (OpenSpec.ofChange recastStepsWrong)

/-- 'dewpondlaw14.BlendAll': WHATEVER THE INPUT: true; the input reads as it did. -/
def blendAllSpec : ChangeSpec := { name := "blendAll", fn := fun _ => fun
  | [d] => { results := [.lit (.bool true)], args := [d] }
  | _ => none }
def blendAllRow : OpenClaim := { program := "ytnakieopnobjmaagreat", sum := "12dd20d4d478ed0d5768e0b20b40f7027e4b9b833b083390920ffbc32b714b11", func := "dewpond/dewpondlaw14.BlendAll", spec := "blendAll", unfollowed := true, recurses := true, apart := false }
def BlendAllSaid : Prop := blendAllRow.holds Tryz.pinned (OpenSpec.ofChange blendAllSpec)

/-- ITS FALSE NEIGHBOUR: 'it returns false'. Refute it at one input. -/
def blendAllWrong : ChangeSpec := { name := "blendAll", fn := fun _ => fun
  | [d] => { results := [.lit (.bool false)], args := [d] }
  | _ => none }
def BlendAllWrongFalsely : Prop := blendAllRow.holds Tryz.pinned (OpenSpec.ofChange blendAllWrong)

/-- 'dewpondlaw15.RecastTurns': WHATEVER THE INPUT: true; the input reads as it did. -/
def recastTurnsSpec : ChangeSpec := { name := "recastTurns", fn := fun _ => fun
  | [d1, d2, d3] => { results := [.lit (.bool true)], args := [d1, d2, d3] }
  | _ => none }
def recastTurnsRow : OpenClaim := { program := "ytnakieopnobjmaagreat", sum := "12dd20d4d478ed0d5768e0b20b40f7027e4b9b833b083390920ffbc32b714b11", func := "dewpond/dewpondlaw15.RecastTurns", spec := "recastTurns", unfollowed := true, recurses := true, apart := false }
def RecastTurnsSaid : Prop := recastTurnsRow.holds Tryz.pinned (OpenSpec.ofChange recastTurnsSpec)

/-- ITS FALSE NEIGHBOUR: 'it returns false'. Refute it at one input. -/
def recastTurnsWrong : ChangeSpec := { name := "recastTurns", fn := fun _ => fun
  | [d1, d2, d3] => { results := [.lit (.bool false)], args := [d1, d2, d3] }
  | _ => none }
def RecastTurnsWrongFalsely : Prop := recastTurnsRow.holds Tryz.pinned (OpenSpec.ofChange recastTurnsWrong)

/- THE SECOND FORM. 'bulk': how many values and letters a reading holds, each counted each time it is reached (what is shared counts as often as it is met; a slice's spare places count too). A statement '..UptoSaid' is the law's where the arguments, and the package variables that the reading takes, are together of bulk at most 1048576: NARROWER than '..Said'. Prove '..Said' where nothing that the law and all that it calls make is longer than what came in: it says more and counts as full. Else prove '..UptoSaid'. A law counts once. -/
mutual
def uptoBulk {H : Type} : DataW H → Nat
  | .lit (.string bytes) => bytes.length + 1
  | .lit _ => 1
  | .nil => 1
  | .ptr d => uptoBulk d + 1
  | .slice elems spare => uptoBulkAll elems + uptoBulkAll spare + 1
  | .agg parts => uptoBulkAll parts + 1
  | .iface _ d => uptoBulk d + 1
  | .map entries => uptoBulkEntries entries + 1
  | .held _ => 1
def uptoBulkAll {H : Type} : List (DataW H) → Nat
  | [] => 0
  | d :: r => uptoBulk d + uptoBulkAll r
def uptoBulkEntries {H : Type} : List (Lit × DataW H) → Nat
  | [] => 0
  | x :: r => uptoBulkEntry x + uptoBulkEntries r
def uptoBulkEntry {H : Type} : Lit × DataW H → Nat
  | (.string bytes, d) => bytes.length + uptoBulk d + 1
  | (_, d) => uptoBulk d + 1
 end
def uptoSmall : (H : Type) → List (DataW H) → Bool := fun _ ds => decide (uptoBulkAll ds ≤ 1048576)
def OpenSpec.upto (s : _root_.Go.ChangeSpec) : _root_.Go.OpenSpec := { _root_.Go.OpenSpec.ofChange s with cond := some uptoSmall }

/-- 'dewpondlaw15.RecastGrows', WHERE WHAT IT READS IS OF BULK AT MOST 1048576: true; the input reads as it did. -/
def recastGrowsUptoRow : OpenClaim := { program := "ytnakieopnobjmaagreat", sum := "12dd20d4d478ed0d5768e0b20b40f7027e4b9b833b083390920ffbc32b714b11", func := "dewpond/dewpondlaw15.RecastGrows", spec := "recastGrows", unfollowed := true, recurses := true, apart := false, narrowed := true }
def RecastGrowsUptoSaid : Prop := recastGrowsUptoRow.holds Tryz.pinned (OpenSpec.upto recastGrowsSpec)

/-- 'dewpondlaw15.RecastCoarsens', WHERE WHAT IT READS IS OF BULK AT MOST 1048576: true; the input reads as it did. -/
def recastCoarsensUptoRow : OpenClaim := { program := "ytnakieopnobjmaagreat", sum := "12dd20d4d478ed0d5768e0b20b40f7027e4b9b833b083390920ffbc32b714b11", func := "dewpond/dewpondlaw15.RecastCoarsens", spec := "recastCoarsens", unfollowed := true, recurses := true, apart := false, narrowed := true }
def RecastCoarsensUptoSaid : Prop := recastCoarsensUptoRow.holds Tryz.pinned (OpenSpec.upto recastCoarsensSpec)

/-- 'dewpondlaw15.RecastStands', WHERE WHAT IT READS IS OF BULK AT MOST 1048576: true; the input reads as it did. -/
def recastStandsUptoRow : OpenClaim := { program := "ytnakieopnobjmaagreat", sum := "12dd20d4d478ed0d5768e0b20b40f7027e4b9b833b083390920ffbc32b714b11", func := "dewpond/dewpondlaw15.RecastStands", spec := "recastStands", unfollowed := true, recurses := true, apart := false, narrowed := true }
def RecastStandsUptoSaid : Prop := recastStandsUptoRow.holds Tryz.pinned (OpenSpec.upto recastStandsSpec)

/-- 'dewpondlaw14.BlendMerges', WHERE WHAT IT READS IS OF BULK AT MOST 1048576: true; the input reads as it did. -/
def blendMergesUptoRow : OpenClaim := { program := "ytnakieopnobjmaagreat", sum := "12dd20d4d478ed0d5768e0b20b40f7027e4b9b833b083390920ffbc32b714b11", func := "dewpond/dewpondlaw14.BlendMerges", spec := "blendMerges", unfollowed := true, recurses := true, apart := false, narrowed := true }
def BlendMergesUptoSaid : Prop := blendMergesUptoRow.holds Tryz.pinned (OpenSpec.upto blendMergesSpec)

/-- 'dewpondlaw14.BlendStands', WHERE WHAT IT READS IS OF BULK AT MOST 1048576: true; the input reads as it did. -/
def blendStandsUptoRow : OpenClaim := { program := "ytnakieopnobjmaagreat", sum := "12dd20d4d478ed0d5768e0b20b40f7027e4b9b833b083390920ffbc32b714b11", func := "dewpond/dewpondlaw14.BlendStands", spec := "blendStands", unfollowed := true, recurses := true, apart := false, narrowed := true }
def BlendStandsUptoSaid : Prop := blendStandsUptoRow.holds Tryz.pinned (OpenSpec.upto blendStandsSpec)

/-- 'dewpondlaw14.BlendLowers', WHERE WHAT IT READS IS OF BULK AT MOST 1048576: true; the input reads as it did. -/
def blendLowersUptoRow : OpenClaim := { program := "ytnakieopnobjmaagreat", sum := "12dd20d4d478ed0d5768e0b20b40f7027e4b9b833b083390920ffbc32b714b11", func := "dewpond/dewpondlaw14.BlendLowers", spec := "blendLowers", unfollowed := true, recurses := true, apart := false, narrowed := true }
def BlendLowersUptoSaid : Prop := blendLowersUptoRow.holds Tryz.pinned (OpenSpec.upto blendLowersSpec)

/-- 'dewpondlaw15.RecastSteps', WHERE WHAT IT READS IS OF BULK AT MOST 1048576: true; the input reads as it did. -/
def recastStepsUptoRow : OpenClaim := { program := "ytnakieopnobjmaagreat", sum := "12dd20d4d478ed0d5768e0b20b40f7027e4b9b833b083390920ffbc32b714b11", func := "dewpond/dewpondlaw15.RecastSteps", spec := "recastSteps", unfollowed := true, recurses := true, apart := false, narrowed := true }
def RecastStepsUptoSaid : Prop := recastStepsUptoRow.holds Tryz.pinned (OpenSpec.upto recastStepsSpec)

/-- 'dewpondlaw14.BlendAll', WHERE WHAT IT READS IS OF BULK AT MOST 1048576: true; the input reads as it did. -/
def blendAllUptoRow : OpenClaim := { program := "ytnakieopnobjmaagreat", sum := "12dd20d4d478ed0d5768e0b20b40f7027e4b9b833b083390920ffbc32b714b11", func := "dewpond/dewpondlaw14.BlendAll", spec := "blendAll", unfollowed := true, recurses := true, apart := false, narrowed := true }
def BlendAllUptoSaid : Prop := blendAllUptoRow.holds Tryz.pinned (OpenSpec.upto blendAllSpec)

/-- 'dewpondlaw15.RecastTurns', WHERE WHAT IT READS IS OF BULK AT MOST 1048576: true; the input reads as it did. -/
def recastTurnsUptoRow : OpenClaim := { program := "ytnakieopnobjmaagreat", sum := "12dd20d4d478ed0d5768e0b20b40f7027e4b9b833b083390920ffbc32b714b11", func := "dewpond/dewpondlaw15.RecastTurns", spec := "recastTurns", unfollowed := true, recurses := true, apart := false, narrowed := true }
def RecastTurnsUptoSaid : Prop := recastTurnsUptoRow.holds Tryz.pinned (OpenSpec.upto recastTurnsSpec)

end Rows
end Go.Proofs.YtnakieopnobjmaaGreat
