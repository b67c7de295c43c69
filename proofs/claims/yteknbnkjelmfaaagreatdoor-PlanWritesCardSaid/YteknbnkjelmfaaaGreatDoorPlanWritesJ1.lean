/- What of the row of PlanWrites the program tells. -/
import Derived.Test.YteknbnkjelmfaaaGreatDoorRows
import Derived.ProofKit
import Derived.JoinedOf
set_option linter.unusedSimpArgs false
set_option linter.unusedVariables false
namespace Go.Proofs.YteknbnkjelmfaaaGreatDoor.PlanWrites
open Go
theorem Ys:(Rows.planWritesRow.recurses==Tryz.prog.recurses 3)=true:=by kernel_rfl
theorem YB:(Rows.planWritesRow.named==Tryz.prog.varsNamed 3)=true:=by kernel_rfl
end Go.Proofs.YteknbnkjelmfaaaGreatDoor.PlanWrites
