/- What of the card of PlanComposes the program tells. -/
import Derived.Test.YteknbnkjelmfaaaGreatDoorRows
import Derived.Test.YteknbnkjelmfaaaGreatDoorCards
import Derived.ProofKit
import Derived.SevenTiedAt
set_option linter.unusedSimpArgs false
set_option linter.unusedVariables false
namespace Go.Proofs.YteknbnkjelmfaaaGreatDoor.PlanComposes
open Go
theorem cL:true=Tryz.pinned.checked.prog.looks []:=by kernel_rfl
end Go.Proofs.YteknbnkjelmfaaaGreatDoor.PlanComposes
