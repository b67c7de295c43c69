/- What of the row of PlanAnchors the program tells. -/
import Derived.Test.YteknbnkjelmfaaaGreatDoorRows
import Derived.ProofKit
import Derived.JoinedOf
set_option linter.unusedSimpArgs false
set_option linter.unusedVariables false
namespace Go.Proofs.YteknbnkjelmfaaaGreatDoor.PlanAnchors
open Go
theorem jRe : (Rows.planAnchorsRow.recurses == Tryz.prog.recurses 5) = true := by kernel_rfl
theorem jNa : (Rows.planAnchorsRow.named == Tryz.prog.varsNamed 5) = true := by kernel_rfl
end Go.Proofs.YteknbnkjelmfaaaGreatDoor.PlanAnchors
