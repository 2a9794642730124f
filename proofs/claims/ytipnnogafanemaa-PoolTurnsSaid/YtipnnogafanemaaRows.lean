/-
  No cell of these rows narrows 'for every input' (looked for: loops, veiled, ifaces, maps, wideKeys, modest, calm, conditions, laid).
  DERIVED. THE GIVEN ROWS OF THIS SEAT. 10 by the template 'for every input the law returns true; each argument reads behind the call as it read before'; 0 by the template 'total and deterministic' (their statements: YtipnnogafanemaaTotals.lean).
  GIVEN WITH THE SEED: the statements are not yours to turn. If you find one false, say at which input.
  Laid BY PROGRAM, IN A SANDBOX (cutbox-rows.mjs): the forced cells as the released guide's own fill.sh prints them over the translation 089ef5891f97009e… (all of the seat's roots in one cut). By AI agents, Wed Nov 11 2026. No macro, syntax, notation, axiom, sorry.
-/
import Derived.Test.YtipnnogafanemaaChecked
import GoSem.Claim
import GoSem.ClaimJoined
import GoSem.ClaimMapViews
import Derived.JoinedTies
import Derived.KernelRfl
namespace Go.Proofs.Ytipnnogafanemaa
/- THE CELL 'sum', in the pinned program and in every row, IS THE sha256 OF THE DUMP (.gsa) THAT YtipnnogafanemaaProg.lean LOADS. Nothing in Lean hashes anything: it is a label: what it is worth is what the hold of that sum in a sandbox is worth. -/
noncomputable def Try.pinned : Pinned := { name := "ytipnnogafanemaa", sum := "089ef5891f97009e32a4218da85d37d1bfbff865542e373f874f7525f80c3c48", checked := Try.checked }
namespace Rows
def none {H : Type} : Left H := { results := [], args := [] }

/-- 'dewpondlaw11.FoldTells': WHATEVER THE INPUT: true; the input reads as it did. -/
def foldTellsSpec : ChangeSpec := { name := "foldTells", fn := fun _ => fun
  | [d1, d2, d3] => { results := [.lit (.bool true)], args := [d1, d2, d3] }
  | _ => none }
def foldTellsRow : OpenClaim := { program := "ytipnnogafanemaa", sum := "089ef5891f97009e32a4218da85d37d1bfbff865542e373f874f7525f80c3c48", func := "dewpond/dewpondlaw11.FoldTells", spec := "foldTells", apart := false }
def FoldTellsSaid : Prop := foldTellsRow.holds Try.pinned (OpenSpec.ofChange foldTellsSpec)

/-- ITS FALSE NEIGHBOUR: 'it returns false'. Refute it at one input. -/
def foldTellsWrong : ChangeSpec := { name := "foldTells", fn := fun _ => fun
  | [d1, d2, d3] => { results := [.lit (.bool false)], args := [d1, d2, d3] }
  | _ => none }
def FoldTellsWrongFalsely : Prop := foldTellsRow.holds Try.pinned (OpenSpec.ofChange foldTellsWrong)

/-- 'dewpondlaw09.PoolEach': WHATEVER THE INPUT: true; the input reads as it did. -/
def poolEachSpec : ChangeSpec := { name := "poolEach", fn := fun _ => fun
  | [d1, d2, d3] => { results := [.lit (.bool true)], args := [d1, d2, d3] }
  | _ => none }
def poolEachRow : OpenClaim := { program := "ytipnnogafanemaa", sum := "089ef5891f97009e32a4218da85d37d1bfbff865542e373f874f7525f80c3c48", func := "dewpond/dewpondlaw09.PoolEach", spec := "poolEach", unfollowed := true, recurses := true, apart := false }
def PoolEachSaid : Prop := poolEachRow.holds Try.pinned (OpenSpec.ofChange poolEachSpec)

/-- ITS FALSE NEIGHBOUR: 'it returns false'. Refute it at one input. -/
def poolEachWrong : ChangeSpec := { name := "poolEach", fn := fun _ => fun
  | [d1, d2, d3] => { results := [.lit (.bool false)], args := [d1, d2, d3] }
  | _ => none }
def PoolEachWrongFalsely : Prop := poolEachRow.holds Try.pinned (OpenSpec.ofChange poolEachWrong)

/-- 'dewpondlaw09.PoolAlike': WHATEVER THE INPUT: true; the input reads as it did. -/
def poolAlikeSpec : ChangeSpec := { name := "poolAlike", fn := fun _ => fun
  | [d1, d2] => { results := [.lit (.bool true)], args := [d1, d2] }
  | _ => none }
def poolAlikeRow : OpenClaim := { program := "ytipnnogafanemaa", sum := "089ef5891f97009e32a4218da85d37d1bfbff865542e373f874f7525f80c3c48", func := "dewpond/dewpondlaw09.PoolAlike", spec := "poolAlike", unfollowed := true, recurses := true, apart := false }
def PoolAlikeSaid : Prop := poolAlikeRow.holds Try.pinned (OpenSpec.ofChange poolAlikeSpec)

/-- ITS FALSE NEIGHBOUR: 'it returns false'. Refute it at one input. -/
def poolAlikeWrong : ChangeSpec := { name := "poolAlike", fn := fun _ => fun
  | [d1, d2] => { results := [.lit (.bool false)], args := [d1, d2] }
  | _ => none }
def PoolAlikeWrongFalsely : Prop := poolAlikeRow.holds Try.pinned (OpenSpec.ofChange poolAlikeWrong)

/-- 'dewpondlaw11.FoldKeeps': WHATEVER THE INPUT: true; the input reads as it did. -/
def foldKeepsSpec : ChangeSpec := { name := "foldKeeps", fn := fun _ => fun
  | [d1, d2, d3] => { results := [.lit (.bool true)], args := [d1, d2, d3] }
  | _ => none }
def foldKeepsRow : OpenClaim := { program := "ytipnnogafanemaa", sum := "089ef5891f97009e32a4218da85d37d1bfbff865542e373f874f7525f80c3c48", func := "dewpond/dewpondlaw11.FoldKeeps", spec := "foldKeeps", apart := false }
def FoldKeepsSaid : Prop := foldKeepsRow.holds Try.pinned (OpenSpec.ofChange foldKeepsSpec)

/-- ITS FALSE NEIGHBOUR: 'it returns false'. Refute it at one input. -/
def foldKeepsWrong : ChangeSpec := { name := "foldKeeps", fn := fun _ => fun
  | [d1, d2, d3] => { results := [.lit (.bool false)], args := [d1, d2, d3] }
  | _ => none }
def FoldKeepsWrongFalsely : Prop := foldKeepsRow.holds Try.pinned (OpenSpec.ofChange foldKeepsWrong)

/-- 'dewpondlaw09.PoolPlays': WHATEVER THE INPUT: true; the input reads as it did. -/
def poolPlaysSpec : ChangeSpec := { name := "poolPlays", fn := fun _ => fun
  | [d1, d2, d3] => { results := [.lit (.bool true)], args := [d1, d2, d3] }
  | _ => none }
def poolPlaysRow : OpenClaim := { program := "ytipnnogafanemaa", sum := "089ef5891f97009e32a4218da85d37d1bfbff865542e373f874f7525f80c3c48", func := "dewpond/dewpondlaw09.PoolPlays", spec := "poolPlays", unfollowed := true, recurses := true, apart := false }
def PoolPlaysSaid : Prop := poolPlaysRow.holds Try.pinned (OpenSpec.ofChange poolPlaysSpec)

/-- ITS FALSE NEIGHBOUR: 'it returns false'. Refute it at one input. -/
def poolPlaysWrong : ChangeSpec := { name := "poolPlays", fn := fun _ => fun
  | [d1, d2, d3] => { results := [.lit (.bool false)], args := [d1, d2, d3] }
  | _ => none }
def PoolPlaysWrongFalsely : Prop := poolPlaysRow.holds Try.pinned (OpenSpec.ofChange poolPlaysWrong)

/-- 'dewpondlaw11.FoldAgenda': WHATEVER THE INPUT: true; the input reads as it did. -/
def foldAgendaSpec : ChangeSpec := { name := "foldAgenda", fn := fun _ => fun
  | [d1, d2] => { results := [.lit (.bool true)], args := [d1, d2] }
  | _ => none }
def foldAgendaRow : OpenClaim := { program := "ytipnnogafanemaa", sum := "089ef5891f97009e32a4218da85d37d1bfbff865542e373f874f7525f80c3c48", func := "dewpond/dewpondlaw11.FoldAgenda", spec := "foldAgenda", apart := false }
def FoldAgendaSaid : Prop := foldAgendaRow.holds Try.pinned (OpenSpec.ofChange foldAgendaSpec)

/-- ITS FALSE NEIGHBOUR: 'it returns false'. Refute it at one input. -/
def foldAgendaWrong : ChangeSpec := { name := "foldAgenda", fn := fun _ => fun
  | [d1, d2] => { results := [.lit (.bool false)], args := [d1, d2] }
  | _ => none }
def FoldAgendaWrongFalsely : Prop := foldAgendaRow.holds Try.pinned (OpenSpec.ofChange foldAgendaWrong)

/-- 'dewpondlaw09.PoolLoads': WHATEVER THE INPUT: true; the input reads as it did. -/
def poolLoadsSpec : ChangeSpec := { name := "poolLoads", fn := fun _ => fun
  | [d1, d2, d3] => { results := [.lit (.bool true)], args := [d1, d2, d3] }
  | _ => none }
def poolLoadsRow : OpenClaim := { program := "ytipnnogafanemaa", sum := "089ef5891f97009e32a4218da85d37d1bfbff865542e373f874f7525f80c3c48", func := "dewpond/dewpondlaw09.PoolLoads", spec := "poolLoads", unfollowed := true, recurses := true, apart := false }
def PoolLoadsSaid : Prop := poolLoadsRow.holds Try.pinned (OpenSpec.ofChange poolLoadsSpec)

/-- ITS FALSE NEIGHBOUR: 'it returns false'. Refute it at one input. -/
def poolLoadsWrong : ChangeSpec := { name := "poolLoads", fn := fun _ => fun
  | [d1, d2, d3] => { results := [.lit (.bool false)], args := [d1, d2, d3] }
  | _ => none }
def PoolLoadsWrongFalsely : Prop := poolLoadsRow.holds Try.pinned (OpenSpec.ofChange poolLoadsWrong)

/-- 'dewpondlaw09.PoolNobody': WHATEVER THE INPUT: true; the input reads as it did. -/
def poolNobodySpec : ChangeSpec := { name := "poolNobody", fn := fun _ => fun
  | [d1, d2, d3] => { results := [.lit (.bool true)], args := [d1, d2, d3] }
  | _ => none }
def poolNobodyRow : OpenClaim := { program := "ytipnnogafanemaa", sum := "089ef5891f97009e32a4218da85d37d1bfbff865542e373f874f7525f80c3c48", func := "dewpond/dewpondlaw09.PoolNobody", spec := "poolNobody", unfollowed := true, recurses := true, apart := false }
def PoolNobodySaid : Prop := poolNobodyRow.holds Try.pinned (OpenSpec.ofChange poolNobodySpec)

/-- ITS FALSE NEIGHBOUR: 'it returns false'. Refute it at one input. -/
def poolNobodyWrong : ChangeSpec := { name := "poolNobody", fn := fun _ => fun
  | [d1, d2, d3] => { results := [.lit (.bool false)], args := [d1, d2, d3] }
  | _ => none }
def PoolNobodyWrongFalsely : Prop := poolNobodyRow.holds Try.pinned (OpenSpec.ofChange poolNobodyWrong)

/-- 'dewpondlaw09.PoolTurns': WHATEVER THE INPUT: true; the input reads as it did. -/
def poolTurnsSpec : ChangeSpec := { name := "poolTurns", fn := fun _ => fun
  | [d1, d2, d3] => { results := [.lit (.bool true)], args := [d1, d2, d3] }
  | _ => none }
def poolTurnsRow : OpenClaim := { program := "ytipnnogafanemaa", sum := "089ef5891f97009e32a4218da85d37d1bfbff865542e373f874f7525f80c3c48", func := "dewpond/dewpondlaw09.PoolTurns", spec := "poolTurns", unfollowed := true, recurses := true, apart := false }
def PoolTurnsSaid : Prop := poolTurnsRow.holds Try.pinned (OpenSpec.ofChange poolTurnsSpec)

/-- ITS FALSE NEIGHBOUR: 'it returns false'. Refute it at one input. -/
def poolTurnsWrong : ChangeSpec := { name := "poolTurns", fn := fun _ => fun
  | [d1, d2, d3] => { results := [.lit (.bool false)], args := [d1, d2, d3] }
  | _ => none }
def PoolTurnsWrongFalsely : Prop := poolTurnsRow.holds Try.pinned (OpenSpec.ofChange poolTurnsWrong)

/-- 'dewpondlaw11.FoldDoes': WHATEVER THE INPUT: true; the input reads as it did. -/
def foldDoesSpec : ChangeSpec := { name := "foldDoes", fn := fun _ => fun
  | [d1, d2, d3] => { results := [.lit (.bool true)], args := [d1, d2, d3] }
  | _ => none }
def foldDoesRow : OpenClaim := { program := "ytipnnogafanemaa", sum := "089ef5891f97009e32a4218da85d37d1bfbff865542e373f874f7525f80c3c48", func := "dewpond/dewpondlaw11.FoldDoes", spec := "foldDoes", unfollowed := true, recurses := true, apart := false }
def FoldDoesSaid : Prop := foldDoesRow.holds Try.pinned (OpenSpec.ofChange foldDoesSpec)

/-- ITS FALSE NEIGHBOUR: 'it returns false'. Refute it at one input. -/
def foldDoesWrong : ChangeSpec := { name := "foldDoes", fn := fun _ => fun
  | [d1, d2, d3] => { results := [.lit (.bool false)], args := [d1, d2, d3] }
  | _ => none }
def FoldDoesWrongFalsely : Prop := foldDoesRow.holds Try.pinned (OpenSpec.ofChange foldDoesWrong)

/- THE SECOND FORM. 'bulk': how many values and letters a reading holds, each counted each time it is reached (what is shared counts as often as it is met; a slice's spare places count too). A statement '..UptoSaid' is the law's where the arguments, and the package variables that the reading takes, are together of bulk at most 1048576: NARROWER than '..Said'. Prove '..Said' where nothing that the law and all that it calls make is longer than what came in: it says more and counts as full. Else prove '..UptoSaid'. A law counts once. -/
mutual
def uptoBulk {H : Type} : DataW H → Nat
  | .lit (.string bytes) => bytes.length + 1
  | .lit _ => 1
  | .nil => 1
  | .ptr d => uptoBulk d + 1
  | .slice elems spare => uptoBulkAll elems + uptoBulkAll spare + 1
  | .agg parts => uptoBulkAll parts + 1
  | .iface _ d => uptoBulk d + 1
  | .map entries => uptoBulkEntries entries + 1
  | .held _ => 1
def uptoBulkAll {H : Type} : List (DataW H) → Nat
  | [] => 0
  | d :: r => uptoBulk d + uptoBulkAll r
def uptoBulkEntries {H : Type} : List (Lit × DataW H) → Nat
  | [] => 0
  | x :: r => uptoBulkEntry x + uptoBulkEntries r
def uptoBulkEntry {H : Type} : Lit × DataW H → Nat
  | (.string bytes, d) => bytes.length + uptoBulk d + 1
  | (_, d) => uptoBulk d + 1
 end
def uptoSmall : (H : Type) → List (DataW H) → Bool := fun _ ds => decide (uptoBulkAll ds ≤ 1048576)
def OpenSpec.upto (s : _root_.Go.ChangeSpec) : _root_.Go.OpenSpec := { _root_.Go.OpenSpec.ofChange s with cond := some uptoSmall }

/-- 'dewpondlaw11.FoldTells', WHERE WHAT IT READS IS OF BULK AT MOST 1048576: true; the input reads as it did. -/
def foldTellsUptoRow : OpenClaim := { program := "ytipnnogafanemaa", sum := "089ef5891f97009e32a4218da85d37d1bfbff865542e373f874f7525f80c3c48", func := "dewpond/dewpondlaw11.FoldTells", spec := "foldTells", apart := false, narrowed := true }
def FoldTellsUptoSaid : Prop := foldTellsUptoRow.holds Try.pinned (OpenSpec.upto foldTellsSpec)

/-- 'dewpondlaw09.PoolEach', WHERE WHAT IT READS IS OF BULK AT MOST 1048576: true; the input reads as it did. -/
def poolEachUptoRow : OpenClaim := { program := "ytipnnogafanemaa", sum := "089ef5891f97009e32a4218da85d37d1bfbff865542e373f874f7525f80c3c48", func := "dewpond/dewpondlaw09.PoolEach", spec := "poolEach", unfollowed := true, recurses := true, apart := false, narrowed := true }
def PoolEachUptoSaid : Prop := poolEachUptoRow.holds Try.pinned (OpenSpec.upto poolEachSpec)

/-- 'dewpondlaw09.PoolAlike', WHERE WHAT IT READS IS OF BULK AT MOST 1048576: true; the input reads as it did. -/
def poolAlikeUptoRow : OpenClaim := { program := "ytipnnogafanemaa", sum := "089ef5891f97009e32a4218da85d37d1bfbff865542e373f874f7525f80c3c48", func := "dewpond/dewpondlaw09.PoolAlike", spec := "poolAlike", unfollowed := true, recurses := true, apart := false, narrowed := true }
def PoolAlikeUptoSaid : Prop := poolAlikeUptoRow.holds Try.pinned (OpenSpec.upto poolAlikeSpec)

/-- 'dewpondlaw11.FoldKeeps', WHERE WHAT IT READS IS OF BULK AT MOST 1048576: true; the input reads as it did. -/
def foldKeepsUptoRow : OpenClaim := { program := "ytipnnogafanemaa", sum := "089ef5891f97009e32a4218da85d37d1bfbff865542e373f874f7525f80c3c48", func := "dewpond/dewpondlaw11.FoldKeeps", spec := "foldKeeps", apart := false, narrowed := true }
def FoldKeepsUptoSaid : Prop := foldKeepsUptoRow.holds Try.pinned (OpenSpec.upto foldKeepsSpec)

/-- 'dewpondlaw09.PoolPlays', WHERE WHAT IT READS IS OF BULK AT MOST 1048576: true; the input reads as it did. -/
def poolPlaysUptoRow : OpenClaim := { program := "ytipnnogafanemaa", sum := "089ef5891f97009e32a4218da85d37d1bfbff865542e373f874f7525f80c3c48", func := "dewpond/dewpondlaw09.PoolPlays", spec := "poolPlays", unfollowed := true, recurses := true, apart := false, narrowed := true }
def PoolPlaysUptoSaid : Prop := poolPlaysUptoRow.holds Try.pinned (OpenSpec.upto poolPlaysSpec)

/-- 'dewpondlaw11.FoldAgenda', WHERE WHAT IT READS IS OF BULK AT MOST 1048576: true; the input reads as it did. -/
def foldAgendaUptoRow : OpenClaim := { program := "ytipnnogafanemaa", sum := "089ef5891f97009e32a4218da85d37d1bfbff865542e373f874f7525f80c3c48", func := "dewpond/dewpondlaw11.FoldAgenda", spec := "foldAgenda", apart := false, narrowed := true }
def FoldAgendaUptoSaid : Prop := foldAgendaUptoRow.holds Try.pinned (OpenSpec.upto foldAgendaSpec)

/-- 'dewpondlaw09.PoolLoads', WHERE WHAT IT READS IS OF BULK AT MOST 1048576: true; the input reads as it did. -/
def poolLoadsUptoRow : OpenClaim := { program := "ytipnnogafanemaa", sum := "089ef5891f97009e32a4218da85d37d1bfbff865542e373f874f7525f80c3c48", func := "dewpond/dewpondlaw09.PoolLoads", spec := "poolLoads", unfollowed := true, recurses := true, apart := false, narrowed := true }
def PoolLoadsUptoSaid : Prop := poolLoadsUptoRow.holds Try.pinned (OpenSpec.upto poolLoadsSpec)

/-- 'dewpondlaw09.PoolNobody', WHERE WHAT IT READS IS OF BULK AT MOST 1048576: true; the input reads as it did. -/
def poolNobodyUptoRow : OpenClaim := { program := "ytipnnogafanemaa", sum := "089ef5891f97009e32a4218da85d37d1bfbff865542e373f874f7525f80c3c48", func := "dewpond/dewpondlaw09.PoolNobody", spec := "poolNobody", unfollowed := true, recurses := true, apart := false, narrowed := true }
def PoolNobodyUptoSaid : Prop := poolNobodyUptoRow.holds Try.pinned (OpenSpec.upto poolNobodySpec)

/-- 'dewpondlaw09.PoolTurns', WHERE WHAT IT READS IS OF BULK AT MOST 1048576: true; the input reads as it did. -/
def poolTurnsUptoRow : OpenClaim := { program := "ytipnnogafanemaa", sum := "089ef5891f97009e32a4218da85d37d1bfbff865542e373f874f7525f80c3c48", func := "dewpond/dewpondlaw09.PoolTurns", spec := "poolTurns", unfollowed := true, recurses := true, apart := false, narrowed := true }
def PoolTurnsUptoSaid : Prop := poolTurnsUptoRow.holds Try.pinned (OpenSpec.upto poolTurnsSpec)

/-- 'dewpondlaw11.FoldDoes', WHERE WHAT IT READS IS OF BULK AT MOST 1048576: true; the input reads as it did. -/
def foldDoesUptoRow : OpenClaim := { program := "ytipnnogafanemaa", sum := "089ef5891f97009e32a4218da85d37d1bfbff865542e373f874f7525f80c3c48", func := "dewpond/dewpondlaw11.FoldDoes", spec := "foldDoes", unfollowed := true, recurses := true, apart := false, narrowed := true }
def FoldDoesUptoSaid : Prop := foldDoesUptoRow.holds Try.pinned (OpenSpec.upto foldDoesSpec)

end Rows
end Go.Proofs.Ytipnnogafanemaa
