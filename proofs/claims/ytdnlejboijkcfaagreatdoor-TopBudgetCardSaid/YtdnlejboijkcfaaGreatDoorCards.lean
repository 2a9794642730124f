/-
  DERIVED. GIVEN WITH THE SEED: THE CARDS: each row of YtdnlejboijkcfaaGreatDoorRows.lean that lists a variable, with what it lists TIED to the program's text (the seventh form; the later family's looks); each row that meets fmt, with fmt's text TOLD by the authors' own Lean function (tested against real Go, not proved from fmt's source: count such statements apart). THE CARD IS WHAT COUNTS. Prove the row's statement (the work); the ties are given (YtdnlejboijkcfaaGreatDoorTie.lean); close each card by the builder's one call (the guide's Derived/Test/ToyasCard.lean, 'card_holds'). Laid BY PROGRAM, IN A SANDBOX (cutbox-door.mjs). By AI agents, Wed Nov 11 2026. No macro, syntax, notation, axiom, sorry.
-/
import Derived.Test.YtdnlejboijkcfaaGreatDoorRows
import GoSem.ClaimSeven
namespace Go.Proofs.YtdnlejboijkcfaaGreatDoor
namespace Rows

/-- THE TIED CARD OF 'dewpondtop.TopBudget'. -/
def topBudgetCard : Claim7 := { stood := { row := topBudgetRow, standIns := [], harness := (true, "bb2d445d3e97cfae64c98b58f5df4851665832091095afacafcea9822d593203"), looks := false }, kinds := [], alts := [], laidByText := true, laidKinds := [.data], laidTests := true, laidLooks := .later }
def TopBudgetCardSaid : Prop := Claim7.holds Tryz.pinned (.plain (OpenSpec.ofChange topBudgetSpec)) topBudgetCard

/-- THE SECOND FORM's CARD OF 'dewpondtop.TopBudget'. -/
def topBudgetUptoCard : Claim7 := { stood := { row := topBudgetUptoRow, standIns := [], harness := (true, "bb2d445d3e97cfae64c98b58f5df4851665832091095afacafcea9822d593203"), looks := false }, kinds := [], alts := [], laidByText := true, laidKinds := [.data], laidTests := true, laidLooks := .later }
def TopBudgetUptoCardSaid : Prop := Claim7.holds Tryz.pinned (.plain (OpenSpec.upto topBudgetSpec)) topBudgetUptoCard
end Rows
end Go.Proofs.YtdnlejboijkcfaaGreatDoor
