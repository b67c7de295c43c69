/-
  DERIVED. GIVEN WITH THE SEED: THE CARDS: each row of YtngcogkadpbonaaGreatDoorRows.lean that lists a variable, with what it lists TIED to the program's text (the seventh form; the later family's looks); each row that meets fmt, with fmt's text TOLD by the authors' own Lean function (tested against real Go, not proved from fmt's source: count such statements apart). THE CARD IS WHAT COUNTS. Prove the row's statement (the work); the ties are given (YtngcogkadpbonaaGreatDoorTie.lean); close each card by the builder's one call (the guide's Derived/Test/ToyasCard.lean, 'card_holds'). Laid BY PROGRAM, IN A SANDBOX (cutbox-door.mjs). By AI agents, Wed Nov 11 2026. No macro, syntax, notation, axiom, sorry.
-/
import Derived.Test.YtngcogkadpbonaaGreatDoorRows
import GoSem.ClaimSeven
namespace Go.Proofs.YtngcogkadpbonaaGreatDoor
namespace Rows

/-- THE TIED CARD OF 'marginalialaw21.LoadShares'. -/
def loadSharesCard : Claim7 := { stood := { row := loadSharesRow, standIns := [], harness := (true, "d7ae7e67407d8d422a462baf8bffde94f3e5ff114ed1baae6d46d34fb254fb87"), looks := true }, kinds := [], alts := [], laidByText := true, laidKinds := [.data, .data, .data, .data, .sentinel, .sentinel, .pinned], laidTests := true, laidLooks := .later }
def LoadSharesCardSaid : Prop := Claim7.holds Tryz.pinned (.plain (OpenSpec.ofChange loadSharesSpec)) loadSharesCard

/-- THE SECOND FORM's CARD OF 'marginalialaw21.LoadShares'. -/
def loadSharesUptoCard : Claim7 := { stood := { row := loadSharesUptoRow, standIns := [], harness := (true, "d7ae7e67407d8d422a462baf8bffde94f3e5ff114ed1baae6d46d34fb254fb87"), looks := true }, kinds := [], alts := [], laidByText := true, laidKinds := [.data, .data, .data, .data, .sentinel, .sentinel, .pinned], laidTests := true, laidLooks := .later }
def LoadSharesUptoCardSaid : Prop := Claim7.holds Tryz.pinned (.plain (OpenSpec.upto loadSharesSpec)) loadSharesUptoCard
end Rows
end Go.Proofs.YtngcogkadpbonaaGreatDoor
