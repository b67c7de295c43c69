/- What of the card of LoadDeep the program tells. -/
import Derived.Test.YtdelfjdjenlaiaaGreatDoorRows
import Derived.Test.YtdelfjdjenlaiaaGreatDoorCards
import Derived.ProofKit
import Derived.SevenTiedAt
set_option linter.unusedSimpArgs false
set_option linter.unusedVariables false
namespace Go.Proofs.YtdelfjdjenlaiaaGreatDoor.LoadDeep
open Go
theorem cW:Rows.loadDeepRow.wfByText (OpenSpec.ofChange Rows.loadDeepSpec)=true:=by kernel_rfl
theorem cM : Tryz.pinned.checked.prog.mainIs = some (true, "b2d5bc82169550df944e36320f257ded7a62a630183429543ae80a4d26c4a1db".toList) := by kernel_rfl
theorem cF:Tryz.pinned.checked.prog.funcNamed Rows.loadDeepRow.func=some 3:=by kernel_rfl
theorem cS:([3,3,4].all fun u=> !Tryz.pinned.checked.prog.wantsStandIn u)=true:=by kernel_rfl
end Go.Proofs.YtdelfjdjenlaiaaGreatDoor.LoadDeep
