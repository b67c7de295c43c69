/-
  DERIVED. GIVEN WITH THE SEED: THE CARDS: each row of YtjfnjfneacfghaaGreatDoorRows.lean that lists a variable, with what it lists TIED to the program's text (the seventh form; the later family's looks); each row that meets fmt, with fmt's text TOLD by the authors' own Lean function (tested against real Go, not proved from fmt's source: count such statements apart). THE CARD IS WHAT COUNTS. Prove the row's statement (the work); the ties are given (YtjfnjfneacfghaaGreatDoorTie.lean); close each card by the builder's one call (the guide's Derived/Test/ToyasCard.lean, 'card_holds'). Laid BY PROGRAM, IN A SANDBOX (cutbox-door.mjs). By AI agents, Wed Nov 11 2026. No macro, syntax, notation, axiom, sorry.
-/
import Derived.Test.YtjfnjfneacfghaaGreatDoorRows
import GoSem.ClaimSeven
namespace Go.Proofs.YtjfnjfneacfghaaGreatDoor
namespace Rows

/-- THE TIED CARD OF 'marginalialaw27.EmitWrong'. -/
def emitWrongCard : Claim7 := { stood := { row := emitWrongRow, standIns := [], harness := (true, "e9dbff4a1b67793097ddaa69985cd8f13c4bdd5f9d10a064bab96763d43f7573"), looks := true }, kinds := [], alts := [], laidByText := true, laidKinds := [.data, .data, .data, .data, .sentinel, .sentinel, .pinned], laidTests := true, laidLooks := .later }
def EmitWrongCardSaid : Prop := Claim7.holds Tryz.pinned (.plain (OpenSpec.ofChange emitWrongSpec)) emitWrongCard

/-- THE SECOND FORM's CARD OF 'marginalialaw27.EmitWrong'. -/
def emitWrongUptoCard : Claim7 := { stood := { row := emitWrongUptoRow, standIns := [], harness := (true, "e9dbff4a1b67793097ddaa69985cd8f13c4bdd5f9d10a064bab96763d43f7573"), looks := true }, kinds := [], alts := [], laidByText := true, laidKinds := [.data, .data, .data, .data, .sentinel, .sentinel, .pinned], laidTests := true, laidLooks := .later }
def EmitWrongUptoCardSaid : Prop := Claim7.holds Tryz.pinned (.plain (OpenSpec.upto emitWrongSpec)) emitWrongUptoCard
end Rows
end Go.Proofs.YtjfnjfneacfghaaGreatDoor
