/-
  DERIVED. GIVEN WITH THE SEED: THE CARDS: each row of YtblgboigcpbidaaGreatDoorRows.lean that lists a variable, with what it lists TIED to the program's text (the seventh form; the later family's looks); each row that meets fmt, with fmt's text TOLD by the authors' own Lean function (tested against real Go, not proved from fmt's source: count such statements apart). THE CARD IS WHAT COUNTS. Prove the row's statement (the work); the ties are given (YtblgboigcpbidaaGreatDoorTie.lean); close each card by the builder's one call (the guide's Derived/Test/ToyasCard.lean, 'card_holds'). Laid BY PROGRAM, IN A SANDBOX (cutbox-door.mjs). By AI agents, Wed Nov 11 2026. No macro, syntax, notation, axiom, sorry.
-/
import Derived.Test.YtblgboigcpbidaaGreatDoorRows
import GoSem.ClaimSeven
namespace Go.Proofs.YtblgboigcpbidaaGreatDoor
namespace Rows

/-- THE TIED CARD OF 'provekernellaw.Files'. -/
def filesCard : Claim7 := { stood := { row := filesRow, standIns := [], harness := (true, "4bd21db97eb964c95144a01615343156c3379a64940f3289b138898e97faf2e4"), looks := true }, kinds := [], alts := [], laidByText := true, laidKinds := [.data, .data, .data, .handle, .data, .sentinel, .sentinel, .data, .widerDeep], laidTests := true, laidLooks := .later }
def FilesCardSaid : Prop := Claim7.holds Tryz.pinned (.plain (OpenSpec.ofChange filesSpec)) filesCard

/-- THE SECOND FORM's CARD OF 'provekernellaw.Files'. -/
def filesUptoCard : Claim7 := { stood := { row := filesUptoRow, standIns := [], harness := (true, "4bd21db97eb964c95144a01615343156c3379a64940f3289b138898e97faf2e4"), looks := true }, kinds := [], alts := [], laidByText := true, laidKinds := [.data, .data, .data, .handle, .data, .sentinel, .sentinel, .data, .widerDeep], laidTests := true, laidLooks := .later }
def FilesUptoCardSaid : Prop := Claim7.holds Tryz.pinned (.plain (OpenSpec.upto filesSpec)) filesUptoCard
end Rows
end Go.Proofs.YtblgboigcpbidaaGreatDoor
