/- What of the row of PlanComposes the program tells. -/
import Derived.Test.YteknbnkjelmfaaaGreatDoorRows
import Derived.ProofKit
import Derived.JoinedOf
set_option linter.unusedSimpArgs false
set_option linter.unusedVariables false
namespace Go.Proofs.YteknbnkjelmfaaaGreatDoor.PlanComposes
open Go
theorem Vw:(Rows.planComposesRow.inPlace==Tryz.prog.inPlace 4)=true:=by kernel_rfl
theorem Vb:(Rows.planComposesRow.unfollowed==Tryz.prog.unfollowed 4)=true:=by kernel_rfl
end Go.Proofs.YteknbnkjelmfaaaGreatDoor.PlanComposes
