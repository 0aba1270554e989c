/-
  DERIVED. GIVEN WITH THE SEED: THE CARDS: each row of YtcjfheidmlcbfaaGreatDoorRows.lean that lists a variable, with what it lists TIED to the program's text (the seventh form; the later family's looks); each row that meets fmt, with fmt's text TOLD by the authors' own Lean function (tested against real Go, not proved from fmt's source: count such statements apart). THE CARD IS WHAT COUNTS. Prove the row's statement (the work); the ties are given (YtcjfheidmlcbfaaGreatDoorTie.lean); close each card by the builder's one call (the guide's Derived/Test/ToyasCard.lean, 'card_holds'). Laid BY PROGRAM, IN A SANDBOX (cutbox-door.mjs). By AI agents, Wed Nov 11 2026. No macro, syntax, notation, axiom, sorry.
-/
import Derived.Test.YtcjfheidmlcbfaaGreatDoorRows
import GoSem.ClaimSeven
namespace Go.Proofs.YtcjfheidmlcbfaaGreatDoor
namespace Rows

/-- THE TIED CARD OF 'laws.FnRead'. -/
def fnReadCard : Claim7 := { stood := { row := fnReadRow, standIns := [], harness := (true, "ee54074f6d97f63f5e5731bf069d36cd60ecc43c0f4e7aa1b98a3bd1a55386db"), looks := true }, kinds := [], alts := [], laidByText := true, laidKinds := [.data], laidTests := true, laidLooks := .later }
def FnReadCardSaid : Prop := Claim7.holds Tryz.pinned (.plain (OpenSpec.ofChange fnReadSpec)) fnReadCard

/-- THE TIED CARD OF 'laws.FnBorders'. -/
def fnBordersCard : Claim7 := { stood := { row := fnBordersRow, standIns := [], harness := (true, "ee54074f6d97f63f5e5731bf069d36cd60ecc43c0f4e7aa1b98a3bd1a55386db"), looks := true }, kinds := [], alts := [], laidByText := true, laidKinds := [.data], laidTests := true, laidLooks := .later }
def FnBordersCardSaid : Prop := Claim7.holds Tryz.pinned (.plain (OpenSpec.ofChange fnBordersSpec)) fnBordersCard

/-- THE TIED CARD OF 'laws.FnScriptRound'. -/
def fnScriptRoundCard : Claim7 := { stood := { row := fnScriptRoundRow, standIns := [], harness := (true, "ee54074f6d97f63f5e5731bf069d36cd60ecc43c0f4e7aa1b98a3bd1a55386db"), looks := true }, kinds := [], alts := [], laidByText := true, laidKinds := [.data, .data, .data, .data, .sentinel, .sentinel, .pinned], laidTests := true, laidLooks := .later }
def FnScriptRoundCardSaid : Prop := Claim7.holds Tryz.pinned (.plain (OpenSpec.ofChange fnScriptRoundSpec)) fnScriptRoundCard

/-- THE TIED CARD OF 'laws.FnExactParseScript'. -/
def fnExactParseScriptCard : Claim7 := { stood := { row := fnExactParseScriptRow, standIns := [], harness := (true, "ee54074f6d97f63f5e5731bf069d36cd60ecc43c0f4e7aa1b98a3bd1a55386db"), looks := true }, kinds := [], alts := [], laidByText := true, laidKinds := [.data, .data, .data, .data, .sentinel, .sentinel, .pinned], laidTests := true, laidLooks := .later }
def FnExactParseScriptCardSaid : Prop := Claim7.holds Tryz.pinned (.plain (OpenSpec.ofChange fnExactParseScriptSpec)) fnExactParseScriptCard

/-- THE SECOND FORM's CARD OF 'laws.FnRead'. -/
def fnReadUptoCard : Claim7 := { stood := { row := fnReadUptoRow, standIns := [], harness := (true, "ee54074f6d97f63f5e5731bf069d36cd60ecc43c0f4e7aa1b98a3bd1a55386db"), looks := true }, kinds := [], alts := [], laidByText := true, laidKinds := [.data], laidTests := true, laidLooks := .later }
def FnReadUptoCardSaid : Prop := Claim7.holds Tryz.pinned (.plain (OpenSpec.upto fnReadSpec)) fnReadUptoCard

/-- THE SECOND FORM's CARD OF 'laws.FnBorders'. -/
def fnBordersUptoCard : Claim7 := { stood := { row := fnBordersUptoRow, standIns := [], harness := (true, "ee54074f6d97f63f5e5731bf069d36cd60ecc43c0f4e7aa1b98a3bd1a55386db"), looks := true }, kinds := [], alts := [], laidByText := true, laidKinds := [.data], laidTests := true, laidLooks := .later }
def FnBordersUptoCardSaid : Prop := Claim7.holds Tryz.pinned (.plain (OpenSpec.upto fnBordersSpec)) fnBordersUptoCard

/-- THE SECOND FORM's CARD OF 'laws.FnScriptRound'. -/
def fnScriptRoundUptoCard : Claim7 := { stood := { row := fnScriptRoundUptoRow, standIns := [], harness := (true, "ee54074f6d97f63f5e5731bf069d36cd60ecc43c0f4e7aa1b98a3bd1a55386db"), looks := true }, kinds := [], alts := [], laidByText := true, laidKinds := [.data, .data, .data, .data, .sentinel, .sentinel, .pinned], laidTests := true, laidLooks := .later }
def FnScriptRoundUptoCardSaid : Prop := Claim7.holds Tryz.pinned (.plain (OpenSpec.upto fnScriptRoundSpec)) fnScriptRoundUptoCard

/-- THE SECOND FORM's CARD OF 'laws.FnExactParseScript'. -/
def fnExactParseScriptUptoCard : Claim7 := { stood := { row := fnExactParseScriptUptoRow, standIns := [], harness := (true, "ee54074f6d97f63f5e5731bf069d36cd60ecc43c0f4e7aa1b98a3bd1a55386db"), looks := true }, kinds := [], alts := [], laidByText := true, laidKinds := [.data, .data, .data, .data, .sentinel, .sentinel, .pinned], laidTests := true, laidLooks := .later }
def FnExactParseScriptUptoCardSaid : Prop := Claim7.holds Tryz.pinned (.plain (OpenSpec.upto fnExactParseScriptSpec)) fnExactParseScriptUptoCard
end Rows
end Go.Proofs.YtcjfheidmlcbfaaGreatDoor
