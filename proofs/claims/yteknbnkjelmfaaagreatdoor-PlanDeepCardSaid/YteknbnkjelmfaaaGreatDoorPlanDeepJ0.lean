/- What of the row of PlanDeep the program tells. -/
import Derived.Test.YteknbnkjelmfaaaGreatDoorRows
import Derived.ProofKit
import Derived.JoinedOf
set_option linter.unusedSimpArgs false
set_option linter.unusedVariables false
namespace Go.Proofs.YteknbnkjelmfaaaGreatDoor.PlanDeep
open Go
theorem jIn : (Rows.planDeepRow.inPlace == Tryz.prog.inPlace 6) = true := by kernel_rfl
theorem jUn : (Rows.planDeepRow.unfollowed == Tryz.prog.unfollowed 6) = true := by kernel_rfl
end Go.Proofs.YteknbnkjelmfaaaGreatDoor.PlanDeep
