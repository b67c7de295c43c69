/- What of the row of PlanAnchors the program tells. -/
import Derived.Test.YteknbnkjelmfaaaGreatDoorRows
import Derived.ProofKit
import Derived.JoinedOf
set_option linter.unusedSimpArgs false
set_option linter.unusedVariables false
namespace Go.Proofs.YteknbnkjelmfaaaGreatDoor.PlanAnchors
open Go
theorem jLi : (Rows.planAnchorsRow.lifted == Tryz.prog.liftsFinal) = true := by kernel_rfl
theorem jPl : (Rows.planAnchorsRow.plainKeys == Tryz.prog.plainKeys) = true := by kernel_rfl
theorem jSt : Tryz.prog.stopsHeard = true := by kernel_rfl
theorem jMa : Tryz.prog.mayEnter = true := by kernel_rfl
theorem jLa : laidOutB Tryz.prog = true := by kernel_rfl
theorem jMr : mapsRowed Tryz.prog = true := by kernel_rfl
end Go.Proofs.YteknbnkjelmfaaaGreatDoor.PlanAnchors
