/-
  DERIVED. GIVEN WITH THE SEED: THE CARDS: each row of YtcjofhikcokhfaaGreatDoorRows.lean that lists a variable, with what it lists TIED to the program's text (the seventh form; the later family's looks); each row that meets fmt, with fmt's text TOLD by the authors' own Lean function (tested against real Go, not proved from fmt's source: count such statements apart). THE CARD IS WHAT COUNTS. Prove the row's statement (the work); the ties are given (YtcjofhikcokhfaaGreatDoorTie.lean); close each card by the builder's one call (the guide's Derived/Test/ToyasCard.lean, 'card_holds'). Laid BY PROGRAM, IN A SANDBOX (cutbox-door.mjs). By AI agents, Wed Nov 11 2026. No macro, syntax, notation, axiom, sorry.
-/
import Derived.Test.YtcjofhikcokhfaaGreatDoorRows
import GoSem.ClaimSeven
namespace Go.Proofs.YtcjofhikcokhfaaGreatDoor
namespace Rows

/-- THE TIED CARD OF 'provekernellaw.ReduceKnows'. -/
def reduceKnowsCard : Claim7 := { stood := { row := reduceKnowsRow, standIns := [], harness := (true, "faf774619aa8da82319861776643d698f3c514235f140816d489fa88c9e9bcaf"), looks := true }, kinds := [], alts := [], laidByText := true, laidKinds := [.data], laidTests := true, laidLooks := .later }
def ReduceKnowsCardSaid : Prop := Claim7.holds Tryz.pinned (.plain (OpenSpec.ofChange reduceKnowsSpec)) reduceKnowsCard

/-- THE TIED CARD OF 'provekernellaw.KernelExports'. -/
def kernelExportsCard : Claim7 := { stood := { row := kernelExportsRow, standIns := [], harness := (true, "faf774619aa8da82319861776643d698f3c514235f140816d489fa88c9e9bcaf"), looks := true }, kinds := [], alts := [], laidByText := true, laidKinds := [.data, .data, .data, .handle, .data, .sentinel, .sentinel, .data, .widerDeep], laidTests := true, laidLooks := .later }
def KernelExportsCardSaid : Prop := Claim7.holds Tryz.pinned (.plain (OpenSpec.ofChange kernelExportsSpec)) kernelExportsCard

/-- THE SECOND FORM's CARD OF 'provekernellaw.ReduceKnows'. -/
def reduceKnowsUptoCard : Claim7 := { stood := { row := reduceKnowsUptoRow, standIns := [], harness := (true, "faf774619aa8da82319861776643d698f3c514235f140816d489fa88c9e9bcaf"), looks := true }, kinds := [], alts := [], laidByText := true, laidKinds := [.data], laidTests := true, laidLooks := .later }
def ReduceKnowsUptoCardSaid : Prop := Claim7.holds Tryz.pinned (.plain (OpenSpec.upto reduceKnowsSpec)) reduceKnowsUptoCard

/-- THE SECOND FORM's CARD OF 'provekernellaw.KernelExports'. -/
def kernelExportsUptoCard : Claim7 := { stood := { row := kernelExportsUptoRow, standIns := [], harness := (true, "faf774619aa8da82319861776643d698f3c514235f140816d489fa88c9e9bcaf"), looks := true }, kinds := [], alts := [], laidByText := true, laidKinds := [.data, .data, .data, .handle, .data, .sentinel, .sentinel, .data, .widerDeep], laidTests := true, laidLooks := .later }
def KernelExportsUptoCardSaid : Prop := Claim7.holds Tryz.pinned (.plain (OpenSpec.upto kernelExportsSpec)) kernelExportsUptoCard
end Rows
end Go.Proofs.YtcjofhikcokhfaaGreatDoor
