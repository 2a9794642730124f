/-
  No cell of these rows narrows 'for every input' (looked for: loops, veiled, ifaces, maps, wideKeys, modest, calm, conditions, laid).
  DERIVED. THE GIVEN ROWS OF THIS SEAT. 8 by the template 'for every input the law returns true; each argument reads behind the call as it read before'; 0 by the template 'total and deterministic' (their statements: YtpkccicofgbfbaaTotals.lean).
  GIVEN WITH THE SEED: the statements are not yours to turn. If you find one false, say at which input.
  Laid BY PROGRAM, IN A SANDBOX (cutbox-rows.mjs): the forced cells as the released guide's own fill.sh prints them over the translation 6a716d6669b794cd… (all of the seat's roots in one cut). By AI agents, Wed Nov 11 2026. No macro, syntax, notation, axiom, sorry.
-/
import Derived.Test.YtpkccicofgbfbaaChecked
import GoSem.Claim
import GoSem.ClaimJoined
import GoSem.ClaimMapViews
import Derived.JoinedTies
import Derived.KernelRfl
namespace Go.Proofs.Ytpkccicofgbfbaa
/- THE CELL 'sum', in the pinned program and in every row, IS THE sha256 OF THE DUMP (.gsa) THAT YtpkccicofgbfbaaProg.lean LOADS. Nothing in Lean hashes anything: it is a label: what it is worth is what the hold of that sum in a sandbox is worth. -/
noncomputable def Try.pinned : Pinned := { name := "ytpkccicofgbfbaa", sum := "6a716d6669b794cd98fad4eba4a0a2d89e9017210852113c2b4a9f9b2e36406d", checked := Try.checked }
namespace Rows
def none {H : Type} : Left H := { results := [], args := [] }

/-- 'dewpondlaw07.DensePlays': WHATEVER THE INPUT: true; the input reads as it did. -/
def densePlaysSpec : ChangeSpec := { name := "densePlays", fn := fun _ => fun
  | [d1, d2] => { results := [.lit (.bool true)], args := [d1, d2] }
  | _ => none }
def densePlaysRow : OpenClaim := { program := "ytpkccicofgbfbaa", sum := "6a716d6669b794cd98fad4eba4a0a2d89e9017210852113c2b4a9f9b2e36406d", func := "dewpond/dewpondlaw07.DensePlays", spec := "densePlays", apart := false }
def DensePlaysSaid : Prop := densePlaysRow.holds Try.pinned (OpenSpec.ofChange densePlaysSpec)

/-- ITS FALSE NEIGHBOUR: 'it returns false'. Refute it at one input. -/
def densePlaysWrong : ChangeSpec := { name := "densePlays", fn := fun _ => fun
  | [d1, d2] => { results := [.lit (.bool false)], args := [d1, d2] }
  | _ => none }
def DensePlaysWrongFalsely : Prop := densePlaysRow.holds Try.pinned (OpenSpec.ofChange densePlaysWrong)

/-- 'dewpondlaw08.ProbeHomes': WHATEVER THE INPUT: true; the input reads as it did. -/
def probeHomesSpec : ChangeSpec := { name := "probeHomes", fn := fun _ => fun
  | [d1, d2] => { results := [.lit (.bool true)], args := [d1, d2] }
  | _ => none }
def probeHomesRow : OpenClaim := { program := "ytpkccicofgbfbaa", sum := "6a716d6669b794cd98fad4eba4a0a2d89e9017210852113c2b4a9f9b2e36406d", func := "dewpond/dewpondlaw08.ProbeHomes", spec := "probeHomes", apart := false }
def ProbeHomesSaid : Prop := probeHomesRow.holds Try.pinned (OpenSpec.ofChange probeHomesSpec)

/-- ITS FALSE NEIGHBOUR: 'it returns false'. Refute it at one input. -/
def probeHomesWrong : ChangeSpec := { name := "probeHomes", fn := fun _ => fun
  | [d1, d2] => { results := [.lit (.bool false)], args := [d1, d2] }
  | _ => none }
def ProbeHomesWrongFalsely : Prop := probeHomesRow.holds Try.pinned (OpenSpec.ofChange probeHomesWrong)

/-- 'dewpondlaw07.DenseApart': WHATEVER THE INPUT: true; the input reads as it did. -/
def denseApartSpec : ChangeSpec := { name := "denseApart", fn := fun _ => fun
  | [d1, d2, d3, d4] => { results := [.lit (.bool true)], args := [d1, d2, d3, d4] }
  | _ => none }
def denseApartRow : OpenClaim := { program := "ytpkccicofgbfbaa", sum := "6a716d6669b794cd98fad4eba4a0a2d89e9017210852113c2b4a9f9b2e36406d", func := "dewpond/dewpondlaw07.DenseApart", spec := "denseApart", apart := false }
def DenseApartSaid : Prop := denseApartRow.holds Try.pinned (OpenSpec.ofChange denseApartSpec)

/-- ITS FALSE NEIGHBOUR: 'it returns false'. Refute it at one input. -/
def denseApartWrong : ChangeSpec := { name := "denseApart", fn := fun _ => fun
  | [d1, d2, d3, d4] => { results := [.lit (.bool false)], args := [d1, d2, d3, d4] }
  | _ => none }
def DenseApartWrongFalsely : Prop := denseApartRow.holds Try.pinned (OpenSpec.ofChange denseApartWrong)

/-- 'dewpondlaw07.DenseNobody': WHATEVER THE INPUT: true; the input reads as it did. -/
def denseNobodySpec : ChangeSpec := { name := "denseNobody", fn := fun _ => fun
  | [d1, d2] => { results := [.lit (.bool true)], args := [d1, d2] }
  | _ => none }
def denseNobodyRow : OpenClaim := { program := "ytpkccicofgbfbaa", sum := "6a716d6669b794cd98fad4eba4a0a2d89e9017210852113c2b4a9f9b2e36406d", func := "dewpond/dewpondlaw07.DenseNobody", spec := "denseNobody", apart := false }
def DenseNobodySaid : Prop := denseNobodyRow.holds Try.pinned (OpenSpec.ofChange denseNobodySpec)

/-- ITS FALSE NEIGHBOUR: 'it returns false'. Refute it at one input. -/
def denseNobodyWrong : ChangeSpec := { name := "denseNobody", fn := fun _ => fun
  | [d1, d2] => { results := [.lit (.bool false)], args := [d1, d2] }
  | _ => none }
def DenseNobodyWrongFalsely : Prop := denseNobodyRow.holds Try.pinned (OpenSpec.ofChange denseNobodyWrong)

/-- 'dewpondlaw08.ProbeTables': WHATEVER THE INPUT: true; the input reads as it did. -/
def probeTablesSpec : ChangeSpec := { name := "probeTables", fn := fun _ => fun
  | [d1, d2, d3] => { results := [.lit (.bool true)], args := [d1, d2, d3] }
  | _ => none }
def probeTablesRow : OpenClaim := { program := "ytpkccicofgbfbaa", sum := "6a716d6669b794cd98fad4eba4a0a2d89e9017210852113c2b4a9f9b2e36406d", func := "dewpond/dewpondlaw08.ProbeTables", spec := "probeTables", apart := false }
def ProbeTablesSaid : Prop := probeTablesRow.holds Try.pinned (OpenSpec.ofChange probeTablesSpec)

/-- ITS FALSE NEIGHBOUR: 'it returns false'. Refute it at one input. -/
def probeTablesWrong : ChangeSpec := { name := "probeTables", fn := fun _ => fun
  | [d1, d2, d3] => { results := [.lit (.bool false)], args := [d1, d2, d3] }
  | _ => none }
def ProbeTablesWrongFalsely : Prop := probeTablesRow.holds Try.pinned (OpenSpec.ofChange probeTablesWrong)

/-- 'dewpondlaw08.ProbeReach': WHATEVER THE INPUT: true; the input reads as it did. -/
def probeReachSpec : ChangeSpec := { name := "probeReach", fn := fun _ => fun
  | [d1, d2, d3] => { results := [.lit (.bool true)], args := [d1, d2, d3] }
  | _ => none }
def probeReachRow : OpenClaim := { program := "ytpkccicofgbfbaa", sum := "6a716d6669b794cd98fad4eba4a0a2d89e9017210852113c2b4a9f9b2e36406d", func := "dewpond/dewpondlaw08.ProbeReach", spec := "probeReach", apart := false }
def ProbeReachSaid : Prop := probeReachRow.holds Try.pinned (OpenSpec.ofChange probeReachSpec)

/-- ITS FALSE NEIGHBOUR: 'it returns false'. Refute it at one input. -/
def probeReachWrong : ChangeSpec := { name := "probeReach", fn := fun _ => fun
  | [d1, d2, d3] => { results := [.lit (.bool false)], args := [d1, d2, d3] }
  | _ => none }
def ProbeReachWrongFalsely : Prop := probeReachRow.holds Try.pinned (OpenSpec.ofChange probeReachWrong)

/-- 'dewpondlaw08.ProbePlays': WHATEVER THE INPUT: true; the input reads as it did. -/
def probePlaysSpec : ChangeSpec := { name := "probePlays", fn := fun _ => fun
  | [d1, d2] => { results := [.lit (.bool true)], args := [d1, d2] }
  | _ => none }
def probePlaysRow : OpenClaim := { program := "ytpkccicofgbfbaa", sum := "6a716d6669b794cd98fad4eba4a0a2d89e9017210852113c2b4a9f9b2e36406d", func := "dewpond/dewpondlaw08.ProbePlays", spec := "probePlays", unfollowed := true, recurses := true, apart := false }
def ProbePlaysSaid : Prop := probePlaysRow.holds Try.pinned (OpenSpec.ofChange probePlaysSpec)

/-- ITS FALSE NEIGHBOUR: 'it returns false'. Refute it at one input. -/
def probePlaysWrong : ChangeSpec := { name := "probePlays", fn := fun _ => fun
  | [d1, d2] => { results := [.lit (.bool false)], args := [d1, d2] }
  | _ => none }
def ProbePlaysWrongFalsely : Prop := probePlaysRow.holds Try.pinned (OpenSpec.ofChange probePlaysWrong)

/-- 'dewpondlaw08.ProbeApart': WHATEVER THE INPUT: true; the input reads as it did. -/
def probeApartSpec : ChangeSpec := { name := "probeApart", fn := fun _ => fun
  | [d1, d2, d3, d4] => { results := [.lit (.bool true)], args := [d1, d2, d3, d4] }
  | _ => none }
def probeApartRow : OpenClaim := { program := "ytpkccicofgbfbaa", sum := "6a716d6669b794cd98fad4eba4a0a2d89e9017210852113c2b4a9f9b2e36406d", func := "dewpond/dewpondlaw08.ProbeApart", spec := "probeApart", unfollowed := true, recurses := true, apart := false }
def ProbeApartSaid : Prop := probeApartRow.holds Try.pinned (OpenSpec.ofChange probeApartSpec)

/-- ITS FALSE NEIGHBOUR: 'it returns false'. Refute it at one input. -/
def probeApartWrong : ChangeSpec := { name := "probeApart", fn := fun _ => fun
  | [d1, d2, d3, d4] => { results := [.lit (.bool false)], args := [d1, d2, d3, d4] }
  | _ => none }
def ProbeApartWrongFalsely : Prop := probeApartRow.holds Try.pinned (OpenSpec.ofChange probeApartWrong)

/- THE SECOND FORM. 'bulk': how many values and letters a reading holds, each counted each time it is reached (what is shared counts as often as it is met; a slice's spare places count too). A statement '..UptoSaid' is the law's where the arguments, and the package variables that the reading takes, are together of bulk at most 1048576: NARROWER than '..Said'. Prove '..Said' where nothing that the law and all that it calls make is longer than what came in: it says more and counts as full. Else prove '..UptoSaid'. A law counts once. -/
mutual
def uptoBulk {H : Type} : DataW H → Nat
  | .lit (.string bytes) => bytes.length + 1
  | .lit _ => 1
  | .nil => 1
  | .ptr d => uptoBulk d + 1
  | .slice elems spare => uptoBulkAll elems + uptoBulkAll spare + 1
  | .agg parts => uptoBulkAll parts + 1
  | .iface _ d => uptoBulk d + 1
  | .map entries => uptoBulkEntries entries + 1
  | .held _ => 1
def uptoBulkAll {H : Type} : List (DataW H) → Nat
  | [] => 0
  | d :: r => uptoBulk d + uptoBulkAll r
def uptoBulkEntries {H : Type} : List (Lit × DataW H) → Nat
  | [] => 0
  | x :: r => uptoBulkEntry x + uptoBulkEntries r
def uptoBulkEntry {H : Type} : Lit × DataW H → Nat
  | (.string bytes, d) => bytes.length + uptoBulk d + 1
  | (_, d) => uptoBulk d + 1
 end
def uptoSmall : (H : Type) → List (DataW H) → Bool := fun _ ds => decide (uptoBulkAll ds ≤ 1048576)
def OpenSpec.upto (s : _root_.Go.ChangeSpec) : _root_.Go.OpenSpec := { _root_.Go.OpenSpec.ofChange s with cond := some uptoSmall }

/-- 'dewpondlaw07.DensePlays', WHERE WHAT IT READS IS OF BULK AT MOST 1048576: true; the input reads as it did. -/
def densePlaysUptoRow : OpenClaim := { program := "ytpkccicofgbfbaa", sum := "6a716d6669b794cd98fad4eba4a0a2d89e9017210852113c2b4a9f9b2e36406d", func := "dewpond/dewpondlaw07.DensePlays", spec := "densePlays", apart := false, narrowed := true }
def DensePlaysUptoSaid : Prop := densePlaysUptoRow.holds Try.pinned (OpenSpec.upto densePlaysSpec)

/-- 'dewpondlaw08.ProbeHomes', WHERE WHAT IT READS IS OF BULK AT MOST 1048576: true; the input reads as it did. -/
def probeHomesUptoRow : OpenClaim := { program := "ytpkccicofgbfbaa", sum := "6a716d6669b794cd98fad4eba4a0a2d89e9017210852113c2b4a9f9b2e36406d", func := "dewpond/dewpondlaw08.ProbeHomes", spec := "probeHomes", apart := false, narrowed := true }
def ProbeHomesUptoSaid : Prop := probeHomesUptoRow.holds Try.pinned (OpenSpec.upto probeHomesSpec)

/-- 'dewpondlaw07.DenseApart', WHERE WHAT IT READS IS OF BULK AT MOST 1048576: true; the input reads as it did. -/
def denseApartUptoRow : OpenClaim := { program := "ytpkccicofgbfbaa", sum := "6a716d6669b794cd98fad4eba4a0a2d89e9017210852113c2b4a9f9b2e36406d", func := "dewpond/dewpondlaw07.DenseApart", spec := "denseApart", apart := false, narrowed := true }
def DenseApartUptoSaid : Prop := denseApartUptoRow.holds Try.pinned (OpenSpec.upto denseApartSpec)

/-- 'dewpondlaw07.DenseNobody', WHERE WHAT IT READS IS OF BULK AT MOST 1048576: true; the input reads as it did. -/
def denseNobodyUptoRow : OpenClaim := { program := "ytpkccicofgbfbaa", sum := "6a716d6669b794cd98fad4eba4a0a2d89e9017210852113c2b4a9f9b2e36406d", func := "dewpond/dewpondlaw07.DenseNobody", spec := "denseNobody", apart := false, narrowed := true }
def DenseNobodyUptoSaid : Prop := denseNobodyUptoRow.holds Try.pinned (OpenSpec.upto denseNobodySpec)

/-- 'dewpondlaw08.ProbeTables', WHERE WHAT IT READS IS OF BULK AT MOST 1048576: true; the input reads as it did. -/
def probeTablesUptoRow : OpenClaim := { program := "ytpkccicofgbfbaa", sum := "6a716d6669b794cd98fad4eba4a0a2d89e9017210852113c2b4a9f9b2e36406d", func := "dewpond/dewpondlaw08.ProbeTables", spec := "probeTables", apart := false, narrowed := true }
def ProbeTablesUptoSaid : Prop := probeTablesUptoRow.holds Try.pinned (OpenSpec.upto probeTablesSpec)

/-- 'dewpondlaw08.ProbeReach', WHERE WHAT IT READS IS OF BULK AT MOST 1048576: true; the input reads as it did. -/
def probeReachUptoRow : OpenClaim := { program := "ytpkccicofgbfbaa", sum := "6a716d6669b794cd98fad4eba4a0a2d89e9017210852113c2b4a9f9b2e36406d", func := "dewpond/dewpondlaw08.ProbeReach", spec := "probeReach", apart := false, narrowed := true }
def ProbeReachUptoSaid : Prop := probeReachUptoRow.holds Try.pinned (OpenSpec.upto probeReachSpec)

/-- 'dewpondlaw08.ProbePlays', WHERE WHAT IT READS IS OF BULK AT MOST 1048576: true; the input reads as it did. -/
def probePlaysUptoRow : OpenClaim := { program := "ytpkccicofgbfbaa", sum := "6a716d6669b794cd98fad4eba4a0a2d89e9017210852113c2b4a9f9b2e36406d", func := "dewpond/dewpondlaw08.ProbePlays", spec := "probePlays", unfollowed := true, recurses := true, apart := false, narrowed := true }
def ProbePlaysUptoSaid : Prop := probePlaysUptoRow.holds Try.pinned (OpenSpec.upto probePlaysSpec)

/-- 'dewpondlaw08.ProbeApart', WHERE WHAT IT READS IS OF BULK AT MOST 1048576: true; the input reads as it did. -/
def probeApartUptoRow : OpenClaim := { program := "ytpkccicofgbfbaa", sum := "6a716d6669b794cd98fad4eba4a0a2d89e9017210852113c2b4a9f9b2e36406d", func := "dewpond/dewpondlaw08.ProbeApart", spec := "probeApart", unfollowed := true, recurses := true, apart := false, narrowed := true }
def ProbeApartUptoSaid : Prop := probeApartUptoRow.holds Try.pinned (OpenSpec.upto probeApartSpec)

end Rows
end Go.Proofs.Ytpkccicofgbfbaa
