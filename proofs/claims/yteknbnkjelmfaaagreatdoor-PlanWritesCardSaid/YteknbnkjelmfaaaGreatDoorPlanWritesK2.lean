/- What of the card of PlanWrites the program tells. -/
import Derived.Test.YteknbnkjelmfaaaGreatDoorRows
import Derived.Test.YteknbnkjelmfaaaGreatDoorCards
import Derived.ProofKit
import Derived.SevenTiedAt
set_option linter.unusedSimpArgs false
set_option linter.unusedVariables false
namespace Go.Proofs.YteknbnkjelmfaaaGreatDoor.PlanWrites
open Go
theorem cG:false=Rows.planWritesRow.goesBy Tryz.pinned.checked.prog:=by kernel_rfl
end Go.Proofs.YteknbnkjelmfaaaGreatDoor.PlanWrites
