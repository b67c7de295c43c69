/- What of the row of LoadDeep the program tells. -/
import Derived.Test.YtdelfjdjenlaiaaGreatDoorRows
import Derived.ProofKit
import Derived.JoinedOf
set_option linter.unusedSimpArgs false
set_option linter.unusedVariables false
namespace Go.Proofs.YtdelfjdjenlaiaaGreatDoor.LoadDeep
open Go
theorem ZH:(Rows.loadDeepRow.recurses==Tryz.prog.recurses 3)=true:=by kernel_rfl
theorem ZS:(Rows.loadDeepRow.named==Tryz.prog.varsNamed 3)=true:=by kernel_rfl
end Go.Proofs.YtdelfjdjenlaiaaGreatDoor.LoadDeep
