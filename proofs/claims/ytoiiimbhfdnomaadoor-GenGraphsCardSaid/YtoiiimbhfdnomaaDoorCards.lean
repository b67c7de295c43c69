/-
  DERIVED. GIVEN WITH THE SEED: THE CARDS: each row of YtoiiimbhfdnomaaDoorRows.lean that lists a variable, with what it lists TIED to the program's text (the seventh form; the later family's looks); each row that meets fmt, with fmt's text TOLD by the authors' own Lean function (tested against real Go, not proved from fmt's source: count such statements apart). THE CARD IS WHAT COUNTS. Prove the row's statement (the work); the ties are given (YtoiiimbhfdnomaaDoorTie.lean); close each card by the builder's one call (the guide's Derived/Test/ToyasCard.lean, 'card_holds'). Laid BY PROGRAM, IN A SANDBOX (cutbox-door.mjs). By AI agents, Wed Nov 11 2026. No macro, syntax, notation, axiom, sorry.
-/
import Derived.Test.YtoiiimbhfdnomaaDoorRows
import GoSem.ClaimSeven
namespace Go.Proofs.YtoiiimbhfdnomaaDoor
namespace Rows

/-- THE TIED CARD OF 'marginalialaw28.GenLots'. -/
def genLotsCard : Claim7 := { stood := { row := genLotsRow, standIns := [], harness := (true, "c65c301fb9c4900a74706b8e6468592f366ffa4999e19ded0b72aa63604e2411"), looks := false }, kinds := [], alts := [], laidByText := true, laidKinds := [.data, .data, .data], laidTests := true, laidLooks := .later }
def GenLotsCardSaid : Prop := Claim7.holds Tryd.pinned (.plain (OpenSpec.ofChange genLotsSpec)) genLotsCard

/-- THE TIED CARD OF 'marginalialaw28.GenGraphs'. -/
def genGraphsCard : Claim7 := { stood := { row := genGraphsRow, standIns := [], harness := (true, "c65c301fb9c4900a74706b8e6468592f366ffa4999e19ded0b72aa63604e2411"), looks := false }, kinds := [], alts := [], laidByText := true, laidKinds := [.data, .data, .data], laidTests := true, laidLooks := .later }
def GenGraphsCardSaid : Prop := Claim7.holds Tryd.pinned (.plain (OpenSpec.ofChange genGraphsSpec)) genGraphsCard

/-- THE SECOND FORM's CARD OF 'marginalialaw28.GenLots'. -/
def genLotsUptoCard : Claim7 := { stood := { row := genLotsUptoRow, standIns := [], harness := (true, "c65c301fb9c4900a74706b8e6468592f366ffa4999e19ded0b72aa63604e2411"), looks := false }, kinds := [], alts := [], laidByText := true, laidKinds := [.data, .data, .data], laidTests := true, laidLooks := .later }
def GenLotsUptoCardSaid : Prop := Claim7.holds Tryd.pinned (.plain (OpenSpec.upto genLotsSpec)) genLotsUptoCard

/-- THE SECOND FORM's CARD OF 'marginalialaw28.GenGraphs'. -/
def genGraphsUptoCard : Claim7 := { stood := { row := genGraphsUptoRow, standIns := [], harness := (true, "c65c301fb9c4900a74706b8e6468592f366ffa4999e19ded0b72aa63604e2411"), looks := false }, kinds := [], alts := [], laidByText := true, laidKinds := [.data, .data, .data], laidTests := true, laidLooks := .later }
def GenGraphsUptoCardSaid : Prop := Claim7.holds Tryd.pinned (.plain (OpenSpec.upto genGraphsSpec)) genGraphsUptoCard
end Rows
end Go.Proofs.YtoiiimbhfdnomaaDoor
