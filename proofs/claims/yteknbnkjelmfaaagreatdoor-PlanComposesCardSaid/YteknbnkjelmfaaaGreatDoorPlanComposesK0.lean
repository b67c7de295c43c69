/- What of the card of PlanComposes the program tells. -/
import Derived.Test.YteknbnkjelmfaaaGreatDoorRows
import Derived.Test.YteknbnkjelmfaaaGreatDoorCards
import Derived.ProofKit
import Derived.SevenTiedAt
set_option linter.unusedSimpArgs false
set_option linter.unusedVariables false
namespace Go.Proofs.YteknbnkjelmfaaaGreatDoor.PlanComposes
open Go
theorem cW:Rows.planComposesRow.wfByText (OpenSpec.ofChange Rows.planComposesSpec)=true:=by kernel_rfl
theorem cM : Tryz.pinned.checked.prog.mainIs = some (true, "7eb32c8a8b991b4771d3dffb685e5e25451cee1c0ef78ba7deb29f19cab684fd".toList) := by kernel_rfl
theorem cF:Tryz.pinned.checked.prog.funcNamed Rows.planComposesRow.func=some 4:=by kernel_rfl
theorem cS:([25,27].all fun u=> !Tryz.pinned.checked.prog.wantsStandIn u)=true:=by kernel_rfl
end Go.Proofs.YteknbnkjelmfaaaGreatDoor.PlanComposes
