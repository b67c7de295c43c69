/-
  DERIVED. GIVEN WITH THE SEED: THE CARDS: each row of YtbkdijjliabfdaaDoorRows.lean that lists a variable, with what it lists TIED to the program's text (the seventh form; the later family's looks); each row that meets fmt, with fmt's text TOLD by the authors' own Lean function (tested against real Go, not proved from fmt's source: count such statements apart). THE CARD IS WHAT COUNTS. Prove the row's statement (the work); the ties are given (YtbkdijjliabfdaaDoorTie.lean); close each card by the builder's one call (the guide's Derived/Test/ToyasCard.lean, 'card_holds'). Laid BY PROGRAM, IN A SANDBOX (cutbox-door.mjs). By AI agents, Wed Nov 11 2026. No macro, syntax, notation, axiom, sorry.
-/
import Derived.Test.YtbkdijjliabfdaaDoorRows
import GoSem.ClaimSeven
namespace Go.Proofs.YtbkdijjliabfdaaDoor
namespace Rows

/-- THE TIED CARD OF 'marginalialaw19.SchemaWider'. -/
def schemaWiderCard : Claim7 := { stood := { row := schemaWiderRow, standIns := [], harness := (true, "2657a087b26a3e9f47108904fb4e8e30d52c5d44216eceb6a1af4951bfa7e278"), looks := true }, kinds := [], alts := [], laidByText := true, laidKinds := [.data, .data, .data, .data, .sentinel, .sentinel, .pinned], laidTests := true, laidLooks := .later }
def SchemaWiderCardSaid : Prop := Claim7.holds Tryd.pinned (.plain (OpenSpec.ofChange schemaWiderSpec)) schemaWiderCard

/-- THE TIED CARD OF 'marginalialaw19.SchemaFits'. -/
def schemaFitsCard : Claim7 := { stood := { row := schemaFitsRow, standIns := [], harness := (true, "2657a087b26a3e9f47108904fb4e8e30d52c5d44216eceb6a1af4951bfa7e278"), looks := true }, kinds := [], alts := [], laidByText := true, laidKinds := [.data, .data, .data, .data, .sentinel, .sentinel, .pinned], laidTests := true, laidLooks := .later }
def SchemaFitsCardSaid : Prop := Claim7.holds Tryd.pinned (.plain (OpenSpec.ofChange schemaFitsSpec)) schemaFitsCard

/-- THE TIED CARD OF 'marginalialaw19.SchemaInts'. -/
def schemaIntsCard : Claim7 := { stood := { row := schemaIntsRow, standIns := [], harness := (true, "2657a087b26a3e9f47108904fb4e8e30d52c5d44216eceb6a1af4951bfa7e278"), looks := true }, kinds := [], alts := [], laidByText := true, laidKinds := [.data, .data, .data, .data, .sentinel, .sentinel, .pinned], laidTests := true, laidLooks := .later }
def SchemaIntsCardSaid : Prop := Claim7.holds Tryd.pinned (.plain (OpenSpec.ofChange schemaIntsSpec)) schemaIntsCard

/-- THE SECOND FORM's CARD OF 'marginalialaw19.SchemaWider'. -/
def schemaWiderUptoCard : Claim7 := { stood := { row := schemaWiderUptoRow, standIns := [], harness := (true, "2657a087b26a3e9f47108904fb4e8e30d52c5d44216eceb6a1af4951bfa7e278"), looks := true }, kinds := [], alts := [], laidByText := true, laidKinds := [.data, .data, .data, .data, .sentinel, .sentinel, .pinned], laidTests := true, laidLooks := .later }
def SchemaWiderUptoCardSaid : Prop := Claim7.holds Tryd.pinned (.plain (OpenSpec.upto schemaWiderSpec)) schemaWiderUptoCard

/-- THE SECOND FORM's CARD OF 'marginalialaw19.SchemaFits'. -/
def schemaFitsUptoCard : Claim7 := { stood := { row := schemaFitsUptoRow, standIns := [], harness := (true, "2657a087b26a3e9f47108904fb4e8e30d52c5d44216eceb6a1af4951bfa7e278"), looks := true }, kinds := [], alts := [], laidByText := true, laidKinds := [.data, .data, .data, .data, .sentinel, .sentinel, .pinned], laidTests := true, laidLooks := .later }
def SchemaFitsUptoCardSaid : Prop := Claim7.holds Tryd.pinned (.plain (OpenSpec.upto schemaFitsSpec)) schemaFitsUptoCard

/-- THE SECOND FORM's CARD OF 'marginalialaw19.SchemaInts'. -/
def schemaIntsUptoCard : Claim7 := { stood := { row := schemaIntsUptoRow, standIns := [], harness := (true, "2657a087b26a3e9f47108904fb4e8e30d52c5d44216eceb6a1af4951bfa7e278"), looks := true }, kinds := [], alts := [], laidByText := true, laidKinds := [.data, .data, .data, .data, .sentinel, .sentinel, .pinned], laidTests := true, laidLooks := .later }
def SchemaIntsUptoCardSaid : Prop := Claim7.holds Tryd.pinned (.plain (OpenSpec.upto schemaIntsSpec)) schemaIntsUptoCard
end Rows
end Go.Proofs.YtbkdijjliabfdaaDoor
