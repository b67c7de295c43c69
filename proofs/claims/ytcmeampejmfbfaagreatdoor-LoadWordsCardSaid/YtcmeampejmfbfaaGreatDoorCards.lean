/-
  DERIVED. GIVEN WITH THE SEED: THE CARDS: each row of YtcmeampejmfbfaaGreatDoorRows.lean that lists a variable, with what it lists TIED to the program's text (the seventh form; the later family's looks); each row that meets fmt, with fmt's text TOLD by the authors' own Lean function (tested against real Go, not proved from fmt's source: count such statements apart). THE CARD IS WHAT COUNTS. Prove the row's statement (the work); the ties are given (YtcmeampejmfbfaaGreatDoorTie.lean); close each card by the builder's one call (the guide's Derived/Test/ToyasCard.lean, 'card_holds'). Laid BY PROGRAM, IN A SANDBOX (cutbox-door.mjs). By AI agents, Wed Nov 11 2026. No macro, syntax, notation, axiom, sorry.
-/
import Derived.Test.YtcmeampejmfbfaaGreatDoorRows
import GoSem.ClaimSeven
namespace Go.Proofs.YtcmeampejmfbfaaGreatDoor
namespace Rows

/-- THE TIED CARD OF 'marginalialaw21.LoadWords'. -/
def loadWordsCard : Claim7 := { stood := { row := loadWordsRow, standIns := [], harness := (true, "1f2598ef681d8dd452f08eb54072843cc7ce3c794b05b3c1d2c57a29ef5148f4"), looks := true }, kinds := [], alts := [], laidByText := true, laidKinds := [.data, .data, .data, .data, .sentinel, .sentinel, .pinned], laidTests := true, laidLooks := .later }
def LoadWordsCardSaid : Prop := Claim7.holds Tryz.pinned (.plain (OpenSpec.ofChange loadWordsSpec)) loadWordsCard

/-- THE SECOND FORM's CARD OF 'marginalialaw21.LoadWords'. -/
def loadWordsUptoCard : Claim7 := { stood := { row := loadWordsUptoRow, standIns := [], harness := (true, "1f2598ef681d8dd452f08eb54072843cc7ce3c794b05b3c1d2c57a29ef5148f4"), looks := true }, kinds := [], alts := [], laidByText := true, laidKinds := [.data, .data, .data, .data, .sentinel, .sentinel, .pinned], laidTests := true, laidLooks := .later }
def LoadWordsUptoCardSaid : Prop := Claim7.holds Tryz.pinned (.plain (OpenSpec.upto loadWordsSpec)) loadWordsUptoCard
end Rows
end Go.Proofs.YtcmeampejmfbfaaGreatDoor
