/-
  DERIVED. GIVEN WITH THE SEED: THE CARDS: each row of YtkecplbpffhdnaaGreatDoorRows.lean that lists a variable, with what it lists TIED to the program's text (the seventh form; the later family's looks); each row that meets fmt, with fmt's text TOLD by the authors' own Lean function (tested against real Go, not proved from fmt's source: count such statements apart). THE CARD IS WHAT COUNTS. Prove the row's statement (the work); the ties are given (YtkecplbpffhdnaaGreatDoorTie.lean); close each card by the builder's one call (the guide's Derived/Test/ToyasCard.lean, 'card_holds'). Laid BY PROGRAM, IN A SANDBOX (cutbox-door.mjs). By AI agents, Wed Nov 11 2026. No macro, syntax, notation, axiom, sorry.
-/
import Derived.Test.YtkecplbpffhdnaaGreatDoorRows
import GoSem.ClaimSeven
namespace Go.Proofs.YtkecplbpffhdnaaGreatDoor
namespace Rows

/-- THE TIED CARD OF 'provekernellaw.TermParses'. -/
def termParsesCard : Claim7 := { stood := { row := termParsesRow, standIns := [], harness := (true, "765ed3ff66c77ee78b10cc09ee0efaa13f4fb2a541120f625679c36bfc6096d9"), looks := true }, kinds := [], alts := [], laidByText := true, laidKinds := [.data, .data, .data, .handle, .data, .sentinel, .sentinel, .widerDeep], laidTests := true, laidLooks := .later }
def TermParsesCardSaid : Prop := Claim7.holds Tryz.pinned (.plain (OpenSpec.ofChange termParsesSpec)) termParsesCard

/-- THE TIED CARD OF 'provekernellaw.Files'. -/
def filesCard : Claim7 := { stood := { row := filesRow, standIns := [], harness := (true, "765ed3ff66c77ee78b10cc09ee0efaa13f4fb2a541120f625679c36bfc6096d9"), looks := true }, kinds := [], alts := [], laidByText := true, laidKinds := [.data, .data, .data, .handle, .data, .sentinel, .sentinel, .data, .widerDeep], laidTests := true, laidLooks := .later }
def FilesCardSaid : Prop := Claim7.holds Tryz.pinned (.plain (OpenSpec.ofChange filesSpec)) filesCard

/-- THE SECOND FORM's CARD OF 'provekernellaw.TermParses'. -/
def termParsesUptoCard : Claim7 := { stood := { row := termParsesUptoRow, standIns := [], harness := (true, "765ed3ff66c77ee78b10cc09ee0efaa13f4fb2a541120f625679c36bfc6096d9"), looks := true }, kinds := [], alts := [], laidByText := true, laidKinds := [.data, .data, .data, .handle, .data, .sentinel, .sentinel, .widerDeep], laidTests := true, laidLooks := .later }
def TermParsesUptoCardSaid : Prop := Claim7.holds Tryz.pinned (.plain (OpenSpec.upto termParsesSpec)) termParsesUptoCard

/-- THE SECOND FORM's CARD OF 'provekernellaw.Files'. -/
def filesUptoCard : Claim7 := { stood := { row := filesUptoRow, standIns := [], harness := (true, "765ed3ff66c77ee78b10cc09ee0efaa13f4fb2a541120f625679c36bfc6096d9"), looks := true }, kinds := [], alts := [], laidByText := true, laidKinds := [.data, .data, .data, .handle, .data, .sentinel, .sentinel, .data, .widerDeep], laidTests := true, laidLooks := .later }
def FilesUptoCardSaid : Prop := Claim7.holds Tryz.pinned (.plain (OpenSpec.upto filesSpec)) filesUptoCard
end Rows
end Go.Proofs.YtkecplbpffhdnaaGreatDoor
