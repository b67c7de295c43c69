/-
  DERIVED. GIVEN WITH THE SEED: THE CARDS: each row of YtbkdijjliabfdaaGreatDoorRows.lean that lists a variable, with what it lists TIED to the program's text (the seventh form; the later family's looks); each row that meets fmt, with fmt's text TOLD by the authors' own Lean function (tested against real Go, not proved from fmt's source: count such statements apart). THE CARD IS WHAT COUNTS. Prove the row's statement (the work); the ties are given (YtbkdijjliabfdaaGreatDoorTie.lean); close each card by the builder's one call (the guide's Derived/Test/ToyasCard.lean, 'card_holds'). Laid BY PROGRAM, IN A SANDBOX (cutbox-door.mjs). By AI agents, Wed Nov 11 2026. No macro, syntax, notation, axiom, sorry.
-/
import Derived.Test.YtbkdijjliabfdaaGreatDoorRows
import GoSem.ClaimSeven
namespace Go.Proofs.YtbkdijjliabfdaaGreatDoor
namespace Rows

/-- THE TIED CARD OF 'marginalialaw19.SchemaResolves'. -/
def schemaResolvesCard : Claim7 := { stood := { row := schemaResolvesRow, standIns := [], harness := (true, "6f058d0487f73c9eb8ff42771bdc0e8de221253b07dcbc511d5a232d5f279ba6"), looks := true }, kinds := [], alts := [], laidByText := true, laidKinds := [.data, .data, .data, .data, .sentinel, .sentinel, .pinned], laidTests := true, laidLooks := .later }
def SchemaResolvesCardSaid : Prop := Claim7.holds Tryz.pinned (.plain (OpenSpec.ofChange schemaResolvesSpec)) schemaResolvesCard

/-- THE TIED CARD OF 'marginalialaw19.SchemaValues'. -/
def schemaValuesCard : Claim7 := { stood := { row := schemaValuesRow, standIns := [], harness := (true, "6f058d0487f73c9eb8ff42771bdc0e8de221253b07dcbc511d5a232d5f279ba6"), looks := true }, kinds := [], alts := [], laidByText := true, laidKinds := [.data, .data, .data, .data, .sentinel, .sentinel, .pinned], laidTests := true, laidLooks := .later }
def SchemaValuesCardSaid : Prop := Claim7.holds Tryz.pinned (.plain (OpenSpec.ofChange schemaValuesSpec)) schemaValuesCard

/-- THE SECOND FORM's CARD OF 'marginalialaw19.SchemaResolves'. -/
def schemaResolvesUptoCard : Claim7 := { stood := { row := schemaResolvesUptoRow, standIns := [], harness := (true, "6f058d0487f73c9eb8ff42771bdc0e8de221253b07dcbc511d5a232d5f279ba6"), looks := true }, kinds := [], alts := [], laidByText := true, laidKinds := [.data, .data, .data, .data, .sentinel, .sentinel, .pinned], laidTests := true, laidLooks := .later }
def SchemaResolvesUptoCardSaid : Prop := Claim7.holds Tryz.pinned (.plain (OpenSpec.upto schemaResolvesSpec)) schemaResolvesUptoCard

/-- THE SECOND FORM's CARD OF 'marginalialaw19.SchemaValues'. -/
def schemaValuesUptoCard : Claim7 := { stood := { row := schemaValuesUptoRow, standIns := [], harness := (true, "6f058d0487f73c9eb8ff42771bdc0e8de221253b07dcbc511d5a232d5f279ba6"), looks := true }, kinds := [], alts := [], laidByText := true, laidKinds := [.data, .data, .data, .data, .sentinel, .sentinel, .pinned], laidTests := true, laidLooks := .later }
def SchemaValuesUptoCardSaid : Prop := Claim7.holds Tryz.pinned (.plain (OpenSpec.upto schemaValuesSpec)) schemaValuesUptoCard
end Rows
end Go.Proofs.YtbkdijjliabfdaaGreatDoor
