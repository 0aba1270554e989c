/-
  DERIVED. GIVEN WITH THE SEED: THE CARDS: each row of YtmdnpaekamkknaaGreatDoorRows.lean that lists a variable, with what it lists TIED to the program's text (the seventh form; the later family's looks); each row that meets fmt, with fmt's text TOLD by the authors' own Lean function (tested against real Go, not proved from fmt's source: count such statements apart). THE CARD IS WHAT COUNTS. Prove the row's statement (the work); the ties are given (YtmdnpaekamkknaaGreatDoorTie.lean); close each card by the builder's one call (the guide's Derived/Test/ToyasCard.lean, 'card_holds'). Laid BY PROGRAM, IN A SANDBOX (cutbox-door.mjs). By AI agents, Wed Nov 11 2026. No macro, syntax, notation, axiom, sorry.
-/
import Derived.Test.YtmdnpaekamkknaaGreatDoorRows
import GoSem.ClaimSeven
namespace Go.Proofs.YtmdnpaekamkknaaGreatDoor
namespace Rows

/-- THE TIED CARD OF 'laws.FnExactPrintScript'. -/
def fnExactPrintScriptCard : Claim7 := { stood := { row := fnExactPrintScriptRow, standIns := [], harness := (true, "71abfdf7d0c56c76498778b613124f0353781764741d7dffdfe79a443c789ed5"), looks := false }, kinds := [], alts := [], laidByText := true, laidKinds := [.data, .data, .data], laidTests := true, laidLooks := .later }
def FnExactPrintScriptCardSaid : Prop := Claim7.holds Tryz.pinned (.plain (OpenSpec.ofChange fnExactPrintScriptSpec)) fnExactPrintScriptCard

/-- THE SECOND FORM's CARD OF 'laws.FnExactPrintScript'. -/
def fnExactPrintScriptUptoCard : Claim7 := { stood := { row := fnExactPrintScriptUptoRow, standIns := [], harness := (true, "71abfdf7d0c56c76498778b613124f0353781764741d7dffdfe79a443c789ed5"), looks := false }, kinds := [], alts := [], laidByText := true, laidKinds := [.data, .data, .data], laidTests := true, laidLooks := .later }
def FnExactPrintScriptUptoCardSaid : Prop := Claim7.holds Tryz.pinned (.plain (OpenSpec.upto fnExactPrintScriptSpec)) fnExactPrintScriptUptoCard
end Rows
end Go.Proofs.YtmdnpaekamkknaaGreatDoor
