/-
  DERIVED. GIVEN WITH THE SEED: THE CARDS: each row of YtifoglinlcfelaaGreatDoorRows.lean that lists a variable, with what it lists TIED to the program's text (the seventh form; the later family's looks); each row that meets fmt, with fmt's text TOLD by the authors' own Lean function (tested against real Go, not proved from fmt's source: count such statements apart). THE CARD IS WHAT COUNTS. Prove the row's statement (the work); the ties are given (YtifoglinlcfelaaGreatDoorTie.lean); close each card by the builder's one call (the guide's Derived/Test/ToyasCard.lean, 'card_holds'). Laid BY PROGRAM, IN A SANDBOX (cutbox-door.mjs). By AI agents, Wed Nov 11 2026. No macro, syntax, notation, axiom, sorry.
-/
import Derived.Test.YtifoglinlcfelaaGreatDoorRows
import GoSem.ClaimSeven
namespace Go.Proofs.YtifoglinlcfelaaGreatDoor
namespace Rows

/-- THE TIED CARD OF 'provekernellaw.TermMoves'. -/
def termMovesCard : Claim7 := { stood := { row := termMovesRow, standIns := [], harness := (true, "fe189604bda37fa5bcef99934c46a5e6cf7996ce562deb06b65b294ec3aa5188"), looks := false }, kinds := [], alts := [], laidByText := true, laidKinds := [.data, .data, .data, .data, .data, .widerDeep], laidTests := true, laidLooks := .later }
def TermMovesCardSaid : Prop := Claim7.holds Tryz.pinned (.plain (OpenSpec.ofChange termMovesSpec)) termMovesCard

/-- THE SECOND FORM's CARD OF 'provekernellaw.TermMoves'. -/
def termMovesUptoCard : Claim7 := { stood := { row := termMovesUptoRow, standIns := [], harness := (true, "fe189604bda37fa5bcef99934c46a5e6cf7996ce562deb06b65b294ec3aa5188"), looks := false }, kinds := [], alts := [], laidByText := true, laidKinds := [.data, .data, .data, .data, .data, .widerDeep], laidTests := true, laidLooks := .later }
def TermMovesUptoCardSaid : Prop := Claim7.holds Tryz.pinned (.plain (OpenSpec.upto termMovesSpec)) termMovesUptoCard
end Rows
end Go.Proofs.YtifoglinlcfelaaGreatDoor
