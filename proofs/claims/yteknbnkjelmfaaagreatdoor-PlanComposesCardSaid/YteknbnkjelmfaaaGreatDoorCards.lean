/-
  DERIVED. GIVEN WITH THE SEED: THE CARDS: each row of YteknbnkjelmfaaaGreatDoorRows.lean that lists a variable, with what it lists TIED to the program's text (the seventh form; the later family's looks); each row that meets fmt, with fmt's text TOLD by the authors' own Lean function (tested against real Go, not proved from fmt's source: count such statements apart). THE CARD IS WHAT COUNTS. Prove the row's statement (the work); the ties are given (YteknbnkjelmfaaaGreatDoorTie.lean); close each card by the builder's one call (the guide's Derived/Test/ToyasCard.lean, 'card_holds'). Laid BY PROGRAM, IN A SANDBOX (cutbox-door.mjs). By AI agents, Wed Nov 11 2026. No macro, syntax, notation, axiom, sorry.
-/
import Derived.Test.YteknbnkjelmfaaaGreatDoorRows
import GoSem.ClaimSeven
namespace Go.Proofs.YteknbnkjelmfaaaGreatDoor
namespace Rows

/-- THE TIED CARD OF 'marginalialaw25.PlanWrites'. -/
def planWritesCard : Claim7 := { stood := { row := planWritesRow, standIns := [], harness := (true, "7eb32c8a8b991b4771d3dffb685e5e25451cee1c0ef78ba7deb29f19cab684fd"), looks := true }, kinds := [], alts := [], laidByText := true, laidKinds := [.data, .data, .data, .data, .sentinel, .sentinel, .pinned], laidTests := true, laidLooks := .later }
def PlanWritesCardSaid : Prop := Claim7.holds Tryz.pinned (.plain (OpenSpec.ofChange planWritesSpec)) planWritesCard

/-- THE TIED CARD OF 'marginalialaw25.PlanComposes'. -/
def planComposesCard : Claim7 := { stood := { row := planComposesRow, standIns := [], harness := (true, "7eb32c8a8b991b4771d3dffb685e5e25451cee1c0ef78ba7deb29f19cab684fd"), looks := true }, kinds := [], alts := [], laidByText := true, laidKinds := [.data, .data, .data, .data, .sentinel, .sentinel, .pinned], laidTests := true, laidLooks := .later }
def PlanComposesCardSaid : Prop := Claim7.holds Tryz.pinned (.plain (OpenSpec.ofChange planComposesSpec)) planComposesCard

/-- THE TIED CARD OF 'marginalialaw25.PlanAnchors'. -/
def planAnchorsCard : Claim7 := { stood := { row := planAnchorsRow, standIns := [], harness := (true, "7eb32c8a8b991b4771d3dffb685e5e25451cee1c0ef78ba7deb29f19cab684fd"), looks := true }, kinds := [], alts := [], laidByText := true, laidKinds := [.data, .data, .data, .data, .sentinel, .sentinel, .pinned], laidTests := true, laidLooks := .later }
def PlanAnchorsCardSaid : Prop := Claim7.holds Tryz.pinned (.plain (OpenSpec.ofChange planAnchorsSpec)) planAnchorsCard

/-- THE TIED CARD OF 'marginalialaw25.PlanDeep'. -/
def planDeepCard : Claim7 := { stood := { row := planDeepRow, standIns := [], harness := (true, "7eb32c8a8b991b4771d3dffb685e5e25451cee1c0ef78ba7deb29f19cab684fd"), looks := true }, kinds := [], alts := [], laidByText := true, laidKinds := [.data, .data, .data, .data, .sentinel, .sentinel, .pinned], laidTests := true, laidLooks := .later }
def PlanDeepCardSaid : Prop := Claim7.holds Tryz.pinned (.plain (OpenSpec.ofChange planDeepSpec)) planDeepCard

/-- THE SECOND FORM's CARD OF 'marginalialaw25.PlanWrites'. -/
def planWritesUptoCard : Claim7 := { stood := { row := planWritesUptoRow, standIns := [], harness := (true, "7eb32c8a8b991b4771d3dffb685e5e25451cee1c0ef78ba7deb29f19cab684fd"), looks := true }, kinds := [], alts := [], laidByText := true, laidKinds := [.data, .data, .data, .data, .sentinel, .sentinel, .pinned], laidTests := true, laidLooks := .later }
def PlanWritesUptoCardSaid : Prop := Claim7.holds Tryz.pinned (.plain (OpenSpec.upto planWritesSpec)) planWritesUptoCard

/-- THE SECOND FORM's CARD OF 'marginalialaw25.PlanComposes'. -/
def planComposesUptoCard : Claim7 := { stood := { row := planComposesUptoRow, standIns := [], harness := (true, "7eb32c8a8b991b4771d3dffb685e5e25451cee1c0ef78ba7deb29f19cab684fd"), looks := true }, kinds := [], alts := [], laidByText := true, laidKinds := [.data, .data, .data, .data, .sentinel, .sentinel, .pinned], laidTests := true, laidLooks := .later }
def PlanComposesUptoCardSaid : Prop := Claim7.holds Tryz.pinned (.plain (OpenSpec.upto planComposesSpec)) planComposesUptoCard

/-- THE SECOND FORM's CARD OF 'marginalialaw25.PlanAnchors'. -/
def planAnchorsUptoCard : Claim7 := { stood := { row := planAnchorsUptoRow, standIns := [], harness := (true, "7eb32c8a8b991b4771d3dffb685e5e25451cee1c0ef78ba7deb29f19cab684fd"), looks := true }, kinds := [], alts := [], laidByText := true, laidKinds := [.data, .data, .data, .data, .sentinel, .sentinel, .pinned], laidTests := true, laidLooks := .later }
def PlanAnchorsUptoCardSaid : Prop := Claim7.holds Tryz.pinned (.plain (OpenSpec.upto planAnchorsSpec)) planAnchorsUptoCard

/-- THE SECOND FORM's CARD OF 'marginalialaw25.PlanDeep'. -/
def planDeepUptoCard : Claim7 := { stood := { row := planDeepUptoRow, standIns := [], harness := (true, "7eb32c8a8b991b4771d3dffb685e5e25451cee1c0ef78ba7deb29f19cab684fd"), looks := true }, kinds := [], alts := [], laidByText := true, laidKinds := [.data, .data, .data, .data, .sentinel, .sentinel, .pinned], laidTests := true, laidLooks := .later }
def PlanDeepUptoCardSaid : Prop := Claim7.holds Tryz.pinned (.plain (OpenSpec.upto planDeepSpec)) planDeepUptoCard
end Rows
end Go.Proofs.YteknbnkjelmfaaaGreatDoor
