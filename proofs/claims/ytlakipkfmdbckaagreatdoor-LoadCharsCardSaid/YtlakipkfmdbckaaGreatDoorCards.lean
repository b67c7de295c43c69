/-
  DERIVED. GIVEN WITH THE SEED: THE CARDS: each row of YtlakipkfmdbckaaGreatDoorRows.lean that lists a variable, with what it lists TIED to the program's text (the seventh form; the later family's looks); each row that meets fmt, with fmt's text TOLD by the authors' own Lean function (tested against real Go, not proved from fmt's source: count such statements apart). THE CARD IS WHAT COUNTS. Prove the row's statement (the work); the ties are given (YtlakipkfmdbckaaGreatDoorTie.lean); close each card by the builder's one call (the guide's Derived/Test/ToyasCard.lean, 'card_holds'). Laid BY PROGRAM, IN A SANDBOX (cutbox-door.mjs). By AI agents, Wed Nov 11 2026. No macro, syntax, notation, axiom, sorry.
-/
import Derived.Test.YtlakipkfmdbckaaGreatDoorRows
import GoSem.ClaimSeven
namespace Go.Proofs.YtlakipkfmdbckaaGreatDoor
namespace Rows

/-- THE TIED CARD OF 'marginalialaw21.LoadChars'. -/
def loadCharsCard : Claim7 := { stood := { row := loadCharsRow, standIns := [], harness := (true, "16642341f6b155e48c6d0d5077be7fae6ae7a27908a122e85aafbd84a7289965"), looks := true }, kinds := [], alts := [], laidByText := true, laidKinds := [.data, .data, .data, .data, .sentinel, .sentinel, .pinned], laidTests := true, laidLooks := .later }
def LoadCharsCardSaid : Prop := Claim7.holds Tryz.pinned (.plain (OpenSpec.ofChange loadCharsSpec)) loadCharsCard

/-- THE SECOND FORM's CARD OF 'marginalialaw21.LoadChars'. -/
def loadCharsUptoCard : Claim7 := { stood := { row := loadCharsUptoRow, standIns := [], harness := (true, "16642341f6b155e48c6d0d5077be7fae6ae7a27908a122e85aafbd84a7289965"), looks := true }, kinds := [], alts := [], laidByText := true, laidKinds := [.data, .data, .data, .data, .sentinel, .sentinel, .pinned], laidTests := true, laidLooks := .later }
def LoadCharsUptoCardSaid : Prop := Claim7.holds Tryz.pinned (.plain (OpenSpec.upto loadCharsSpec)) loadCharsUptoCard
end Rows
end Go.Proofs.YtlakipkfmdbckaaGreatDoor
