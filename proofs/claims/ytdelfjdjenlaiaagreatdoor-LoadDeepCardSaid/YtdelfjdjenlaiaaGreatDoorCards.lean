/-
  DERIVED. GIVEN WITH THE SEED: THE CARDS: each row of YtdelfjdjenlaiaaGreatDoorRows.lean that lists a variable, with what it lists TIED to the program's text (the seventh form; the later family's looks); each row that meets fmt, with fmt's text TOLD by the authors' own Lean function (tested against real Go, not proved from fmt's source: count such statements apart). THE CARD IS WHAT COUNTS. Prove the row's statement (the work); the ties are given (YtdelfjdjenlaiaaGreatDoorTie.lean); close each card by the builder's one call (the guide's Derived/Test/ToyasCard.lean, 'card_holds'). Laid BY PROGRAM, IN A SANDBOX (cutbox-door.mjs). By AI agents, Wed Nov 11 2026. No macro, syntax, notation, axiom, sorry.
-/
import Derived.Test.YtdelfjdjenlaiaaGreatDoorRows
import GoSem.ClaimSeven
namespace Go.Proofs.YtdelfjdjenlaiaaGreatDoor
namespace Rows

/-- THE TIED CARD OF 'marginalialaw21.LoadDeep'. -/
def loadDeepCard : Claim7 := { stood := { row := loadDeepRow, standIns := [], harness := (true, "b2d5bc82169550df944e36320f257ded7a62a630183429543ae80a4d26c4a1db"), looks := true }, kinds := [], alts := [], laidByText := true, laidKinds := [.data, .data, .data, .data, .sentinel, .sentinel, .pinned], laidTests := true, laidLooks := .later }
def LoadDeepCardSaid : Prop := Claim7.holds Tryz.pinned (.plain (OpenSpec.ofChange loadDeepSpec)) loadDeepCard

/-- THE TIED CARD OF 'marginalialaw21.LoadNodes'. -/
def loadNodesCard : Claim7 := { stood := { row := loadNodesRow, standIns := [], harness := (true, "b2d5bc82169550df944e36320f257ded7a62a630183429543ae80a4d26c4a1db"), looks := true }, kinds := [], alts := [], laidByText := true, laidKinds := [.data, .data, .data, .data, .sentinel, .sentinel, .pinned], laidTests := true, laidLooks := .later }
def LoadNodesCardSaid : Prop := Claim7.holds Tryz.pinned (.plain (OpenSpec.ofChange loadNodesSpec)) loadNodesCard

/-- THE SECOND FORM's CARD OF 'marginalialaw21.LoadDeep'. -/
def loadDeepUptoCard : Claim7 := { stood := { row := loadDeepUptoRow, standIns := [], harness := (true, "b2d5bc82169550df944e36320f257ded7a62a630183429543ae80a4d26c4a1db"), looks := true }, kinds := [], alts := [], laidByText := true, laidKinds := [.data, .data, .data, .data, .sentinel, .sentinel, .pinned], laidTests := true, laidLooks := .later }
def LoadDeepUptoCardSaid : Prop := Claim7.holds Tryz.pinned (.plain (OpenSpec.upto loadDeepSpec)) loadDeepUptoCard

/-- THE SECOND FORM's CARD OF 'marginalialaw21.LoadNodes'. -/
def loadNodesUptoCard : Claim7 := { stood := { row := loadNodesUptoRow, standIns := [], harness := (true, "b2d5bc82169550df944e36320f257ded7a62a630183429543ae80a4d26c4a1db"), looks := true }, kinds := [], alts := [], laidByText := true, laidKinds := [.data, .data, .data, .data, .sentinel, .sentinel, .pinned], laidTests := true, laidLooks := .later }
def LoadNodesUptoCardSaid : Prop := Claim7.holds Tryz.pinned (.plain (OpenSpec.upto loadNodesSpec)) loadNodesUptoCard
end Rows
end Go.Proofs.YtdelfjdjenlaiaaGreatDoor
