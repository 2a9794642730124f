/-
  No cell of these rows narrows 'for every input' (looked for: loops, veiled, ifaces, maps, wideKeys, modest, calm, conditions, laid).
  DERIVED. THE GIVEN ROWS OF THIS SEAT. 10 by the template 'for every input the law returns true; each argument reads behind the call as it read before'; 0 by the template 'total and deterministic' (their statements: YtejoecoenehooaaTotals.lean).
  GIVEN WITH THE SEED: the statements are not yours to turn. If you find one false, say at which input.
  Laid BY PROGRAM, IN A SANDBOX (cutbox-rows.mjs): the forced cells as the released guide's own fill.sh prints them over the translation 0889e113c6f7edd0… (all of the seat's roots in one cut). By AI agents, Wed Nov 11 2026. No macro, syntax, notation, axiom, sorry.
-/
import Derived.Test.YtejoecoenehooaaChecked
import GoSem.Claim
import GoSem.ClaimJoined
import GoSem.ClaimMapViews
import Derived.JoinedTies
import Derived.KernelRfl
namespace Go.Proofs.Ytejoecoenehooaa
/- THE CELL 'sum', in the pinned program and in every row, IS THE sha256 OF THE DUMP (.gsa) THAT YtejoecoenehooaaProg.lean LOADS. Nothing in Lean hashes anything: it is a label: what it is worth is what the hold of that sum in a sandbox is worth. -/
noncomputable def Try.pinned : Pinned := { name := "ytejoecoenehooaa", sum := "0889e113c6f7edd04c9e71c0248d1baffa7b6f4a9236a63bf4b804b216c18777", checked := Try.checked }
namespace Rows
def none {H : Type} : Left H := { results := [], args := [] }

/-- 'dewpondlaw11.FoldAgenda': WHATEVER THE INPUT: true; the input reads as it did. -/
def foldAgendaSpec : ChangeSpec := { name := "foldAgenda", fn := fun _ => fun
  | [d1, d2] => { results := [.lit (.bool true)], args := [d1, d2] }
  | _ => none }
def foldAgendaRow : OpenClaim := { program := "ytejoecoenehooaa", sum := "0889e113c6f7edd04c9e71c0248d1baffa7b6f4a9236a63bf4b804b216c18777", func := "dewpond/dewpondlaw11.FoldAgenda", spec := "foldAgenda", apart := false }
def FoldAgendaSaid : Prop := foldAgendaRow.holds Try.pinned (OpenSpec.ofChange foldAgendaSpec)

/-- ITS FALSE NEIGHBOUR: 'it returns false'. Refute it at one input. -/
def foldAgendaWrong : ChangeSpec := { name := "foldAgenda", fn := fun _ => fun
  | [d1, d2] => { results := [.lit (.bool false)], args := [d1, d2] }
  | _ => none }
def FoldAgendaWrongFalsely : Prop := foldAgendaRow.holds Try.pinned (OpenSpec.ofChange foldAgendaWrong)

/-- 'dewpondlaw11.FoldDoes': WHATEVER THE INPUT: true; the input reads as it did. -/
def foldDoesSpec : ChangeSpec := { name := "foldDoes", fn := fun _ => fun
  | [d1, d2, d3] => { results := [.lit (.bool true)], args := [d1, d2, d3] }
  | _ => none }
def foldDoesRow : OpenClaim := { program := "ytejoecoenehooaa", sum := "0889e113c6f7edd04c9e71c0248d1baffa7b6f4a9236a63bf4b804b216c18777", func := "dewpond/dewpondlaw11.FoldDoes", spec := "foldDoes", unfollowed := true, recurses := true, apart := false }
def FoldDoesSaid : Prop := foldDoesRow.holds Try.pinned (OpenSpec.ofChange foldDoesSpec)

/-- ITS FALSE NEIGHBOUR: 'it returns false'. Refute it at one input. -/
def foldDoesWrong : ChangeSpec := { name := "foldDoes", fn := fun _ => fun
  | [d1, d2, d3] => { results := [.lit (.bool false)], args := [d1, d2, d3] }
  | _ => none }
def FoldDoesWrongFalsely : Prop := foldDoesRow.holds Try.pinned (OpenSpec.ofChange foldDoesWrong)

/-- 'dewpondlaw12.PressRises': WHATEVER THE INPUT: true; the input reads as it did. -/
def pressRisesSpec : ChangeSpec := { name := "pressRises", fn := fun _ => fun
  | [d1, d2, d3, d4] => { results := [.lit (.bool true)], args := [d1, d2, d3, d4] }
  | _ => none }
def pressRisesRow : OpenClaim := { program := "ytejoecoenehooaa", sum := "0889e113c6f7edd04c9e71c0248d1baffa7b6f4a9236a63bf4b804b216c18777", func := "dewpond/dewpondlaw12.PressRises", spec := "pressRises", unfollowed := true, recurses := true, apart := false }
def PressRisesSaid : Prop := pressRisesRow.holds Try.pinned (OpenSpec.ofChange pressRisesSpec)

/-- ITS FALSE NEIGHBOUR: 'it returns false'. Refute it at one input. -/
def pressRisesWrong : ChangeSpec := { name := "pressRises", fn := fun _ => fun
  | [d1, d2, d3, d4] => { results := [.lit (.bool false)], args := [d1, d2, d3, d4] }
  | _ => none }
def PressRisesWrongFalsely : Prop := pressRisesRow.holds Try.pinned (OpenSpec.ofChange pressRisesWrong)

/-- 'dewpondlaw12.PressTells': WHATEVER THE INPUT: true; the input reads as it did. -/
def pressTellsSpec : ChangeSpec := { name := "pressTells", fn := fun _ => fun
  | [d1, d2, d3, d4] => { results := [.lit (.bool true)], args := [d1, d2, d3, d4] }
  | _ => none }
def pressTellsRow : OpenClaim := { program := "ytejoecoenehooaa", sum := "0889e113c6f7edd04c9e71c0248d1baffa7b6f4a9236a63bf4b804b216c18777", func := "dewpond/dewpondlaw12.PressTells", spec := "pressTells", unfollowed := true, recurses := true, apart := false }
def PressTellsSaid : Prop := pressTellsRow.holds Try.pinned (OpenSpec.ofChange pressTellsSpec)

/-- ITS FALSE NEIGHBOUR: 'it returns false'. Refute it at one input. -/
def pressTellsWrong : ChangeSpec := { name := "pressTells", fn := fun _ => fun
  | [d1, d2, d3, d4] => { results := [.lit (.bool false)], args := [d1, d2, d3, d4] }
  | _ => none }
def PressTellsWrongFalsely : Prop := pressTellsRow.holds Try.pinned (OpenSpec.ofChange pressTellsWrong)

/-- 'dewpondlaw12.PressBounds': WHATEVER THE INPUT: true; the input reads as it did. -/
def pressBoundsSpec : ChangeSpec := { name := "pressBounds", fn := fun _ => fun
  | [d1, d2, d3, d4] => { results := [.lit (.bool true)], args := [d1, d2, d3, d4] }
  | _ => none }
def pressBoundsRow : OpenClaim := { program := "ytejoecoenehooaa", sum := "0889e113c6f7edd04c9e71c0248d1baffa7b6f4a9236a63bf4b804b216c18777", func := "dewpond/dewpondlaw12.PressBounds", spec := "pressBounds", unfollowed := true, recurses := true, apart := false }
def PressBoundsSaid : Prop := pressBoundsRow.holds Try.pinned (OpenSpec.ofChange pressBoundsSpec)

/-- ITS FALSE NEIGHBOUR: 'it returns false'. Refute it at one input. -/
def pressBoundsWrong : ChangeSpec := { name := "pressBounds", fn := fun _ => fun
  | [d1, d2, d3, d4] => { results := [.lit (.bool false)], args := [d1, d2, d3, d4] }
  | _ => none }
def PressBoundsWrongFalsely : Prop := pressBoundsRow.holds Try.pinned (OpenSpec.ofChange pressBoundsWrong)

/-- 'dewpondlaw13.DigestStands': WHATEVER THE INPUT: true; the input reads as it did. -/
def digestStandsSpec : ChangeSpec := { name := "digestStands", fn := fun _ => fun
  | [d1, d2, d3] => { results := [.lit (.bool true)], args := [d1, d2, d3] }
  | _ => none }
def digestStandsRow : OpenClaim := { program := "ytejoecoenehooaa", sum := "0889e113c6f7edd04c9e71c0248d1baffa7b6f4a9236a63bf4b804b216c18777", func := "dewpond/dewpondlaw13.DigestStands", spec := "digestStands", unfollowed := true, recurses := true, apart := false }
def DigestStandsSaid : Prop := digestStandsRow.holds Try.pinned (OpenSpec.ofChange digestStandsSpec)

/-- ITS FALSE NEIGHBOUR: 'it returns false'. Refute it at one input. -/
def digestStandsWrong : ChangeSpec := { name := "digestStands", fn := fun _ => fun
  | [d1, d2, d3] => { results := [.lit (.bool false)], args := [d1, d2, d3] }
  | _ => none }
def DigestStandsWrongFalsely : Prop := digestStandsRow.holds Try.pinned (OpenSpec.ofChange digestStandsWrong)

/-- 'dewpondlaw13.DigestBounds': WHATEVER THE INPUT: true; the input reads as it did. -/
def digestBoundsSpec : ChangeSpec := { name := "digestBounds", fn := fun _ => fun
  | [d1, d2] => { results := [.lit (.bool true)], args := [d1, d2] }
  | _ => none }
def digestBoundsRow : OpenClaim := { program := "ytejoecoenehooaa", sum := "0889e113c6f7edd04c9e71c0248d1baffa7b6f4a9236a63bf4b804b216c18777", func := "dewpond/dewpondlaw13.DigestBounds", spec := "digestBounds", unfollowed := true, recurses := true, apart := false }
def DigestBoundsSaid : Prop := digestBoundsRow.holds Try.pinned (OpenSpec.ofChange digestBoundsSpec)

/-- ITS FALSE NEIGHBOUR: 'it returns false'. Refute it at one input. -/
def digestBoundsWrong : ChangeSpec := { name := "digestBounds", fn := fun _ => fun
  | [d1, d2] => { results := [.lit (.bool false)], args := [d1, d2] }
  | _ => none }
def DigestBoundsWrongFalsely : Prop := digestBoundsRow.holds Try.pinned (OpenSpec.ofChange digestBoundsWrong)

/-- 'dewpondlaw12.PressAlike': WHATEVER THE INPUT: true; the input reads as it did. -/
def pressAlikeSpec : ChangeSpec := { name := "pressAlike", fn := fun _ => fun
  | [d1, d2, d3] => { results := [.lit (.bool true)], args := [d1, d2, d3] }
  | _ => none }
def pressAlikeRow : OpenClaim := { program := "ytejoecoenehooaa", sum := "0889e113c6f7edd04c9e71c0248d1baffa7b6f4a9236a63bf4b804b216c18777", func := "dewpond/dewpondlaw12.PressAlike", spec := "pressAlike", unfollowed := true, recurses := true, apart := false }
def PressAlikeSaid : Prop := pressAlikeRow.holds Try.pinned (OpenSpec.ofChange pressAlikeSpec)

/-- ITS FALSE NEIGHBOUR: 'it returns false'. Refute it at one input. -/
def pressAlikeWrong : ChangeSpec := { name := "pressAlike", fn := fun _ => fun
  | [d1, d2, d3] => { results := [.lit (.bool false)], args := [d1, d2, d3] }
  | _ => none }
def PressAlikeWrongFalsely : Prop := pressAlikeRow.holds Try.pinned (OpenSpec.ofChange pressAlikeWrong)

/-- 'dewpondlaw13.DigestAlike': WHATEVER THE INPUT: true; the input reads as it did. -/
def digestAlikeSpec : ChangeSpec := { name := "digestAlike", fn := fun _ => fun
  | [d1, d2, d3] => { results := [.lit (.bool true)], args := [d1, d2, d3] }
  | _ => none }
def digestAlikeRow : OpenClaim := { program := "ytejoecoenehooaa", sum := "0889e113c6f7edd04c9e71c0248d1baffa7b6f4a9236a63bf4b804b216c18777", func := "dewpond/dewpondlaw13.DigestAlike", spec := "digestAlike", unfollowed := true, recurses := true, apart := false }
def DigestAlikeSaid : Prop := digestAlikeRow.holds Try.pinned (OpenSpec.ofChange digestAlikeSpec)

/-- ITS FALSE NEIGHBOUR: 'it returns false'. Refute it at one input. -/
def digestAlikeWrong : ChangeSpec := { name := "digestAlike", fn := fun _ => fun
  | [d1, d2, d3] => { results := [.lit (.bool false)], args := [d1, d2, d3] }
  | _ => none }
def DigestAlikeWrongFalsely : Prop := digestAlikeRow.holds Try.pinned (OpenSpec.ofChange digestAlikeWrong)

/-- 'dewpondlaw13.DigestNobody': WHATEVER THE INPUT: true; the input reads as it did. -/
def digestNobodySpec : ChangeSpec := { name := "digestNobody", fn := fun _ => fun
  | [d1, d2] => { results := [.lit (.bool true)], args := [d1, d2] }
  | _ => none }
def digestNobodyRow : OpenClaim := { program := "ytejoecoenehooaa", sum := "0889e113c6f7edd04c9e71c0248d1baffa7b6f4a9236a63bf4b804b216c18777", func := "dewpond/dewpondlaw13.DigestNobody", spec := "digestNobody", unfollowed := true, recurses := true, apart := false }
def DigestNobodySaid : Prop := digestNobodyRow.holds Try.pinned (OpenSpec.ofChange digestNobodySpec)

/-- ITS FALSE NEIGHBOUR: 'it returns false'. Refute it at one input. -/
def digestNobodyWrong : ChangeSpec := { name := "digestNobody", fn := fun _ => fun
  | [d1, d2] => { results := [.lit (.bool false)], args := [d1, d2] }
  | _ => none }
def DigestNobodyWrongFalsely : Prop := digestNobodyRow.holds Try.pinned (OpenSpec.ofChange digestNobodyWrong)

/- THE SECOND FORM. 'bulk': how many values and letters a reading holds, each counted each time it is reached (what is shared counts as often as it is met; a slice's spare places count too). A statement '..UptoSaid' is the law's where the arguments, and the package variables that the reading takes, are together of bulk at most 1048576: NARROWER than '..Said'. Prove '..Said' where nothing that the law and all that it calls make is longer than what came in: it says more and counts as full. Else prove '..UptoSaid'. A law counts once. -/
mutual
def uptoBulk {H : Type} : DataW H → Nat
  | .lit (.string bytes) => bytes.length + 1
  | .lit _ => 1
  | .nil => 1
  | .ptr d => uptoBulk d + 1
  | .slice elems spare => uptoBulkAll elems + uptoBulkAll spare + 1
  | .agg parts => uptoBulkAll parts + 1
  | .iface _ d => uptoBulk d + 1
  | .map entries => uptoBulkEntries entries + 1
  | .held _ => 1
def uptoBulkAll {H : Type} : List (DataW H) → Nat
  | [] => 0
  | d :: r => uptoBulk d + uptoBulkAll r
def uptoBulkEntries {H : Type} : List (Lit × DataW H) → Nat
  | [] => 0
  | x :: r => uptoBulkEntry x + uptoBulkEntries r
def uptoBulkEntry {H : Type} : Lit × DataW H → Nat
  | (.string bytes, d) => bytes.length + uptoBulk d + 1
  | (_, d) => uptoBulk d + 1
 end
def uptoSmall : (H : Type) → List (DataW H) → Bool := fun _ ds => decide (uptoBulkAll ds ≤ 1048576)
def OpenSpec.upto (s : _root_.Go.ChangeSpec) : _root_.Go.OpenSpec := { _root_.Go.OpenSpec.ofChange s with cond := some uptoSmall }

/-- 'dewpondlaw11.FoldAgenda', WHERE WHAT IT READS IS OF BULK AT MOST 1048576: true; the input reads as it did. -/
def foldAgendaUptoRow : OpenClaim := { program := "ytejoecoenehooaa", sum := "0889e113c6f7edd04c9e71c0248d1baffa7b6f4a9236a63bf4b804b216c18777", func := "dewpond/dewpondlaw11.FoldAgenda", spec := "foldAgenda", apart := false, narrowed := true }
def FoldAgendaUptoSaid : Prop := foldAgendaUptoRow.holds Try.pinned (OpenSpec.upto foldAgendaSpec)

/-- 'dewpondlaw11.FoldDoes', WHERE WHAT IT READS IS OF BULK AT MOST 1048576: true; the input reads as it did. -/
def foldDoesUptoRow : OpenClaim := { program := "ytejoecoenehooaa", sum := "0889e113c6f7edd04c9e71c0248d1baffa7b6f4a9236a63bf4b804b216c18777", func := "dewpond/dewpondlaw11.FoldDoes", spec := "foldDoes", unfollowed := true, recurses := true, apart := false, narrowed := true }
def FoldDoesUptoSaid : Prop := foldDoesUptoRow.holds Try.pinned (OpenSpec.upto foldDoesSpec)

/-- 'dewpondlaw12.PressRises', WHERE WHAT IT READS IS OF BULK AT MOST 1048576: true; the input reads as it did. -/
def pressRisesUptoRow : OpenClaim := { program := "ytejoecoenehooaa", sum := "0889e113c6f7edd04c9e71c0248d1baffa7b6f4a9236a63bf4b804b216c18777", func := "dewpond/dewpondlaw12.PressRises", spec := "pressRises", unfollowed := true, recurses := true, apart := false, narrowed := true }
def PressRisesUptoSaid : Prop := pressRisesUptoRow.holds Try.pinned (OpenSpec.upto pressRisesSpec)

/-- 'dewpondlaw12.PressTells', WHERE WHAT IT READS IS OF BULK AT MOST 1048576: true; the input reads as it did. -/
def pressTellsUptoRow : OpenClaim := { program := "ytejoecoenehooaa", sum := "0889e113c6f7edd04c9e71c0248d1baffa7b6f4a9236a63bf4b804b216c18777", func := "dewpond/dewpondlaw12.PressTells", spec := "pressTells", unfollowed := true, recurses := true, apart := false, narrowed := true }
def PressTellsUptoSaid : Prop := pressTellsUptoRow.holds Try.pinned (OpenSpec.upto pressTellsSpec)

/-- 'dewpondlaw12.PressBounds', WHERE WHAT IT READS IS OF BULK AT MOST 1048576: true; the input reads as it did. -/
def pressBoundsUptoRow : OpenClaim := { program := "ytejoecoenehooaa", sum := "0889e113c6f7edd04c9e71c0248d1baffa7b6f4a9236a63bf4b804b216c18777", func := "dewpond/dewpondlaw12.PressBounds", spec := "pressBounds", unfollowed := true, recurses := true, apart := false, narrowed := true }
def PressBoundsUptoSaid : Prop := pressBoundsUptoRow.holds Try.pinned (OpenSpec.upto pressBoundsSpec)

/-- 'dewpondlaw13.DigestStands', WHERE WHAT IT READS IS OF BULK AT MOST 1048576: true; the input reads as it did. -/
def digestStandsUptoRow : OpenClaim := { program := "ytejoecoenehooaa", sum := "0889e113c6f7edd04c9e71c0248d1baffa7b6f4a9236a63bf4b804b216c18777", func := "dewpond/dewpondlaw13.DigestStands", spec := "digestStands", unfollowed := true, recurses := true, apart := false, narrowed := true }
def DigestStandsUptoSaid : Prop := digestStandsUptoRow.holds Try.pinned (OpenSpec.upto digestStandsSpec)

/-- 'dewpondlaw13.DigestBounds', WHERE WHAT IT READS IS OF BULK AT MOST 1048576: true; the input reads as it did. -/
def digestBoundsUptoRow : OpenClaim := { program := "ytejoecoenehooaa", sum := "0889e113c6f7edd04c9e71c0248d1baffa7b6f4a9236a63bf4b804b216c18777", func := "dewpond/dewpondlaw13.DigestBounds", spec := "digestBounds", unfollowed := true, recurses := true, apart := false, narrowed := true }
def DigestBoundsUptoSaid : Prop := digestBoundsUptoRow.holds Try.pinned (OpenSpec.upto digestBoundsSpec)

/-- 'dewpondlaw12.PressAlike', WHERE WHAT IT READS IS OF BULK AT MOST 1048576: true; the input reads as it did. -/
def pressAlikeUptoRow : OpenClaim := { program := "ytejoecoenehooaa", sum := "0889e113c6f7edd04c9e71c0248d1baffa7b6f4a9236a63bf4b804b216c18777", func := "dewpond/dewpondlaw12.PressAlike", spec := "pressAlike", unfollowed := true, recurses := true, apart := false, narrowed := true }
def PressAlikeUptoSaid : Prop := pressAlikeUptoRow.holds Try.pinned (OpenSpec.upto pressAlikeSpec)

/-- 'dewpondlaw13.DigestAlike', WHERE WHAT IT READS IS OF BULK AT MOST 1048576: true; the input reads as it did. -/
def digestAlikeUptoRow : OpenClaim := { program := "ytejoecoenehooaa", sum := "0889e113c6f7edd04c9e71c0248d1baffa7b6f4a9236a63bf4b804b216c18777", func := "dewpond/dewpondlaw13.DigestAlike", spec := "digestAlike", unfollowed := true, recurses := true, apart := false, narrowed := true }
def DigestAlikeUptoSaid : Prop := digestAlikeUptoRow.holds Try.pinned (OpenSpec.upto digestAlikeSpec)

/-- 'dewpondlaw13.DigestNobody', WHERE WHAT IT READS IS OF BULK AT MOST 1048576: true; the input reads as it did. -/
def digestNobodyUptoRow : OpenClaim := { program := "ytejoecoenehooaa", sum := "0889e113c6f7edd04c9e71c0248d1baffa7b6f4a9236a63bf4b804b216c18777", func := "dewpond/dewpondlaw13.DigestNobody", spec := "digestNobody", unfollowed := true, recurses := true, apart := false, narrowed := true }
def DigestNobodyUptoSaid : Prop := digestNobodyUptoRow.holds Try.pinned (OpenSpec.upto digestNobodySpec)

end Rows
end Go.Proofs.Ytejoecoenehooaa
