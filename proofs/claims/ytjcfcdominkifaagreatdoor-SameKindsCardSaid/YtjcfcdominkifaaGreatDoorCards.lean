/-
  DERIVED. GIVEN WITH THE SEED: THE CARDS: each row of YtjcfcdominkifaaGreatDoorRows.lean that lists a variable, with what it lists TIED to the program's text (the seventh form; the later family's looks); each row that meets fmt, with fmt's text TOLD by the authors' own Lean function (tested against real Go, not proved from fmt's source: count such statements apart). THE CARD IS WHAT COUNTS. Prove the row's statement (the work); the ties are given (YtjcfcdominkifaaGreatDoorTie.lean); close each card by the builder's one call (the guide's Derived/Test/ToyasCard.lean, 'card_holds'). Laid BY PROGRAM, IN A SANDBOX (cutbox-door.mjs). By AI agents, Wed Nov 11 2026. No macro, syntax, notation, axiom, sorry.
-/
import Derived.Test.YtjcfcdominkifaaGreatDoorRows
import GoSem.ClaimSeven
namespace Go.Proofs.YtjcfcdominkifaaGreatDoor
namespace Rows

/-- THE TIED CARD OF 'marginalialaw20.SameKinds'. -/
def sameKindsCard : Claim7 := { stood := { row := sameKindsRow, standIns := [], harness := (true, "c68434d700643597baa746752bdd86ddbe67c855e608cc795d1062c4e1da7e1c"), looks := true }, kinds := [], alts := [], laidByText := true, laidKinds := [.data, .data, .data, .data, .sentinel, .sentinel, .pinned], laidTests := true, laidLooks := .later }
def SameKindsCardSaid : Prop := Claim7.holds Tryz.pinned (.plain (OpenSpec.ofChange sameKindsSpec)) sameKindsCard

/-- THE SECOND FORM's CARD OF 'marginalialaw20.SameKinds'. -/
def sameKindsUptoCard : Claim7 := { stood := { row := sameKindsUptoRow, standIns := [], harness := (true, "c68434d700643597baa746752bdd86ddbe67c855e608cc795d1062c4e1da7e1c"), looks := true }, kinds := [], alts := [], laidByText := true, laidKinds := [.data, .data, .data, .data, .sentinel, .sentinel, .pinned], laidTests := true, laidLooks := .later }
def SameKindsUptoCardSaid : Prop := Claim7.holds Tryz.pinned (.plain (OpenSpec.upto sameKindsSpec)) sameKindsUptoCard
end Rows
end Go.Proofs.YtjcfcdominkifaaGreatDoor
