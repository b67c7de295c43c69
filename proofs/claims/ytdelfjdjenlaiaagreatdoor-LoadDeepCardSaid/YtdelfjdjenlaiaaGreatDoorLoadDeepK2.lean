/- What of the card of LoadDeep the program tells. -/
import Derived.Test.YtdelfjdjenlaiaaGreatDoorRows
import Derived.Test.YtdelfjdjenlaiaaGreatDoorCards
import Derived.ProofKit
import Derived.SevenTiedAt
set_option linter.unusedSimpArgs false
set_option linter.unusedVariables false
namespace Go.Proofs.YtdelfjdjenlaiaaGreatDoor.LoadDeep
open Go
theorem cG:false=Rows.loadDeepRow.goesBy Tryz.pinned.checked.prog:=by kernel_rfl
end Go.Proofs.YtdelfjdjenlaiaaGreatDoor.LoadDeep
