/-
  DERIVED. GIVEN WITH THE SEED: THE CARDS: each row of YtngfkonpehlaoaaGreatDoorRows.lean that lists a variable, with what it lists TIED to the program's text (the seventh form; the later family's looks); each row that meets fmt, with fmt's text TOLD by the authors' own Lean function (tested against real Go, not proved from fmt's source: count such statements apart). THE CARD IS WHAT COUNTS. Prove the row's statement (the work); the ties are given (YtngfkonpehlaoaaGreatDoorTie.lean); close each card by the builder's one call (the guide's Derived/Test/ToyasCard.lean, 'card_holds'). Laid BY PROGRAM, IN A SANDBOX (cutbox-door.mjs). By AI agents, Wed Nov 11 2026. No macro, syntax, notation, axiom, sorry.
-/
import Derived.Test.YtngfkonpehlaoaaGreatDoorRows
import GoSem.ClaimSeven
namespace Go.Proofs.YtngfkonpehlaoaaGreatDoor
namespace Rows

/-- THE TIED CARD OF 'marginalialaw26.WriteWrong'. -/
def writeWrongCard : Claim7 := { stood := { row := writeWrongRow, standIns := [], harness := (true, "62bbd64ef1d776246da6afad1ce3076ac85a2099fd547f0e078f40f00b2e0781"), looks := true }, kinds := [], alts := [], laidByText := true, laidKinds := [.data, .pinned], laidTests := true, laidLooks := .later }
def WriteWrongCardSaid : Prop := Claim7.holds Tryz.pinned (.plain (OpenSpec.ofChange writeWrongSpec)) writeWrongCard

/-- THE SECOND FORM's CARD OF 'marginalialaw26.WriteWrong'. -/
def writeWrongUptoCard : Claim7 := { stood := { row := writeWrongUptoRow, standIns := [], harness := (true, "62bbd64ef1d776246da6afad1ce3076ac85a2099fd547f0e078f40f00b2e0781"), looks := true }, kinds := [], alts := [], laidByText := true, laidKinds := [.data, .pinned], laidTests := true, laidLooks := .later }
def WriteWrongUptoCardSaid : Prop := Claim7.holds Tryz.pinned (.plain (OpenSpec.upto writeWrongSpec)) writeWrongUptoCard
end Rows
end Go.Proofs.YtngfkonpehlaoaaGreatDoor
