/- What of the row of PlanWrites the program tells. -/
import Derived.Test.YteknbnkjelmfaaaGreatDoorRows
import Derived.ProofKit
import Derived.JoinedOf
set_option linter.unusedSimpArgs false
set_option linter.unusedVariables false
namespace Go.Proofs.YteknbnkjelmfaaaGreatDoor.PlanWrites
open Go
theorem YC:(Rows.planWritesRow.inPlace==Tryz.prog.inPlace 3)=true:=by kernel_rfl
theorem Yk:(Rows.planWritesRow.unfollowed==Tryz.prog.unfollowed 3)=true:=by kernel_rfl
end Go.Proofs.YteknbnkjelmfaaaGreatDoor.PlanWrites
