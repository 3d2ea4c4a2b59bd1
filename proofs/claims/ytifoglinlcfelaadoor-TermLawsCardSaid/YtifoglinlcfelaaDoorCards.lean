/-
  DERIVED. GIVEN WITH THE SEED: THE CARDS: each row of YtifoglinlcfelaaDoorRows.lean that lists a variable, with what it lists TIED to the program's text (the seventh form; the later family's looks); each row that meets fmt, with fmt's text TOLD by the authors' own Lean function (tested against real Go, not proved from fmt's source: count such statements apart). THE CARD IS WHAT COUNTS. Prove the row's statement (the work); the ties are given (YtifoglinlcfelaaDoorTie.lean); close each card by the builder's one call (the guide's Derived/Test/ToyasCard.lean, 'card_holds'). Laid BY PROGRAM, IN A SANDBOX (cutbox-door.mjs). By AI agents, Wed Nov 11 2026. No macro, syntax, notation, axiom, sorry.
-/
import Derived.Test.YtifoglinlcfelaaDoorRows
import GoSem.ClaimSeven
namespace Go.Proofs.YtifoglinlcfelaaDoor
namespace Rows

/-- THE TIED CARD OF 'provekernellaw.TermLaws'. -/
def termLawsCard : Claim7 := { stood := { row := termLawsRow, standIns := [], harness := (true, "2e3eda99c9c2cf2ac53a3b7cfed6133fad895dfe8526b8912ccb1f70afb3a897"), looks := true }, kinds := [], alts := [], laidByText := true, laidKinds := [.data, .data, .data, .data, .sentinel, .sentinel, .data, .widerDeep], laidTests := true, laidLooks := .later }
def TermLawsCardSaid : Prop := Claim7.holds Tryd.pinned (.plain (OpenSpec.ofChange termLawsSpec)) termLawsCard

/-- THE SECOND FORM's CARD OF 'provekernellaw.TermLaws'. -/
def termLawsUptoCard : Claim7 := { stood := { row := termLawsUptoRow, standIns := [], harness := (true, "2e3eda99c9c2cf2ac53a3b7cfed6133fad895dfe8526b8912ccb1f70afb3a897"), looks := true }, kinds := [], alts := [], laidByText := true, laidKinds := [.data, .data, .data, .data, .sentinel, .sentinel, .data, .widerDeep], laidTests := true, laidLooks := .later }
def TermLawsUptoCardSaid : Prop := Claim7.holds Tryd.pinned (.plain (OpenSpec.upto termLawsSpec)) termLawsUptoCard
end Rows
end Go.Proofs.YtifoglinlcfelaaDoor
