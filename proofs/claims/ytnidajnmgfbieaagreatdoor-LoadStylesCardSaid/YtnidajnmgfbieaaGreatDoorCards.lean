/-
  DERIVED. GIVEN WITH THE SEED: THE CARDS: each row of YtnidajnmgfbieaaGreatDoorRows.lean that lists a variable, with what it lists TIED to the program's text (the seventh form; the later family's looks); each row that meets fmt, with fmt's text TOLD by the authors' own Lean function (tested against real Go, not proved from fmt's source: count such statements apart). THE CARD IS WHAT COUNTS. Prove the row's statement (the work); the ties are given (YtnidajnmgfbieaaGreatDoorTie.lean); close each card by the builder's one call (the guide's Derived/Test/ToyasCard.lean, 'card_holds'). Laid BY PROGRAM, IN A SANDBOX (cutbox-door.mjs). By AI agents, Wed Nov 11 2026. No macro, syntax, notation, axiom, sorry.
-/
import Derived.Test.YtnidajnmgfbieaaGreatDoorRows
import GoSem.ClaimSeven
namespace Go.Proofs.YtnidajnmgfbieaaGreatDoor
namespace Rows

/-- THE TIED CARD OF 'marginalialaw21.LoadStyles'. -/
def loadStylesCard : Claim7 := { stood := { row := loadStylesRow, standIns := [], harness := (true, "202456fe11ef933394ed7a6b1e2fb08dafe542b027c7b61633de665d8788c200"), looks := true }, kinds := [], alts := [], laidByText := true, laidKinds := [.data, .data, .data, .data, .sentinel, .sentinel, .pinned], laidTests := true, laidLooks := .later }
def LoadStylesCardSaid : Prop := Claim7.holds Tryz.pinned (.plain (OpenSpec.ofChange loadStylesSpec)) loadStylesCard

/-- THE SECOND FORM's CARD OF 'marginalialaw21.LoadStyles'. -/
def loadStylesUptoCard : Claim7 := { stood := { row := loadStylesUptoRow, standIns := [], harness := (true, "202456fe11ef933394ed7a6b1e2fb08dafe542b027c7b61633de665d8788c200"), looks := true }, kinds := [], alts := [], laidByText := true, laidKinds := [.data, .data, .data, .data, .sentinel, .sentinel, .pinned], laidTests := true, laidLooks := .later }
def LoadStylesUptoCardSaid : Prop := Claim7.holds Tryz.pinned (.plain (OpenSpec.upto loadStylesSpec)) loadStylesUptoCard
end Rows
end Go.Proofs.YtnidajnmgfbieaaGreatDoor
