/-
  DERIVED. GIVEN WITH THE SEED: THE CARDS: each row of YtcpdcpgblcapeaaDoorRows.lean that lists a variable, with what it lists TIED to the program's text (the seventh form; the later family's looks); each row that meets fmt, with fmt's text TOLD by the authors' own Lean function (tested against real Go, not proved from fmt's source: count such statements apart). THE CARD IS WHAT COUNTS. Prove the row's statement (the work); the ties are given (YtcpdcpgblcapeaaDoorTie.lean); close each card by the builder's one call (the guide's Derived/Test/ToyasCard.lean, 'card_holds'). Laid BY PROGRAM, IN A SANDBOX (cutbox-door.mjs). By AI agents, Wed Nov 11 2026. No macro, syntax, notation, axiom, sorry.
-/
import Derived.Test.YtcpdcpgblcapeaaDoorRows
import GoSem.ClaimSeven
namespace Go.Proofs.YtcpdcpgblcapeaaDoor
namespace Rows

/-- THE TIED CARD OF 'provekernellaw.LevelMakes'. -/
def levelMakesCard : Claim7 := { stood := { row := levelMakesRow, standIns := [], harness := (true, "5be6660e19647cf878dd93a7f9f8c102bdc7c61a674c911e530b34c4df488c4f"), looks := true }, kinds := [], alts := [], laidByText := true, laidKinds := [.data], laidTests := true, laidLooks := .later }
def LevelMakesCardSaid : Prop := Claim7.holds Tryd.pinned (.plain (OpenSpec.ofChange levelMakesSpec)) levelMakesCard

/-- THE TIED CARD OF 'provekernellaw.LevelParses'. -/
def levelParsesCard : Claim7 := { stood := { row := levelParsesRow, standIns := [], harness := (true, "5be6660e19647cf878dd93a7f9f8c102bdc7c61a674c911e530b34c4df488c4f"), looks := true }, kinds := [], alts := [], laidByText := true, laidKinds := [.handle], laidTests := true, laidLooks := .later }
def LevelParsesCardSaid : Prop := Claim7.holds Tryd.pinned (.plain (OpenSpec.ofChange levelParsesSpec)) levelParsesCard

/-- THE TIED CARD OF 'provekernellaw.LevelWorthy'. -/
def levelWorthyCard : Claim7 := { stood := { row := levelWorthyRow, standIns := [], harness := (true, "5be6660e19647cf878dd93a7f9f8c102bdc7c61a674c911e530b34c4df488c4f"), looks := true }, kinds := [], alts := [], laidByText := true, laidKinds := [.data], laidTests := true, laidLooks := .later }
def LevelWorthyCardSaid : Prop := Claim7.holds Tryd.pinned (.plain (OpenSpec.ofChange levelWorthySpec)) levelWorthyCard

/-- THE SECOND FORM's CARD OF 'provekernellaw.LevelMakes'. -/
def levelMakesUptoCard : Claim7 := { stood := { row := levelMakesUptoRow, standIns := [], harness := (true, "5be6660e19647cf878dd93a7f9f8c102bdc7c61a674c911e530b34c4df488c4f"), looks := true }, kinds := [], alts := [], laidByText := true, laidKinds := [.data], laidTests := true, laidLooks := .later }
def LevelMakesUptoCardSaid : Prop := Claim7.holds Tryd.pinned (.plain (OpenSpec.upto levelMakesSpec)) levelMakesUptoCard

/-- THE SECOND FORM's CARD OF 'provekernellaw.LevelParses'. -/
def levelParsesUptoCard : Claim7 := { stood := { row := levelParsesUptoRow, standIns := [], harness := (true, "5be6660e19647cf878dd93a7f9f8c102bdc7c61a674c911e530b34c4df488c4f"), looks := true }, kinds := [], alts := [], laidByText := true, laidKinds := [.handle], laidTests := true, laidLooks := .later }
def LevelParsesUptoCardSaid : Prop := Claim7.holds Tryd.pinned (.plain (OpenSpec.upto levelParsesSpec)) levelParsesUptoCard

/-- THE SECOND FORM's CARD OF 'provekernellaw.LevelWorthy'. -/
def levelWorthyUptoCard : Claim7 := { stood := { row := levelWorthyUptoRow, standIns := [], harness := (true, "5be6660e19647cf878dd93a7f9f8c102bdc7c61a674c911e530b34c4df488c4f"), looks := true }, kinds := [], alts := [], laidByText := true, laidKinds := [.data], laidTests := true, laidLooks := .later }
def LevelWorthyUptoCardSaid : Prop := Claim7.holds Tryd.pinned (.plain (OpenSpec.upto levelWorthySpec)) levelWorthyUptoCard
end Rows
end Go.Proofs.YtcpdcpgblcapeaaDoor
