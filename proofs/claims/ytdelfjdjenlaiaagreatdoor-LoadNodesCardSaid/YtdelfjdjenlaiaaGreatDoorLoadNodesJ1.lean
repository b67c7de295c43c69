/- What of the row of LoadNodes the program tells. -/
import Derived.Test.YtdelfjdjenlaiaaGreatDoorRows
import Derived.ProofKit
import Derived.JoinedOf
set_option linter.unusedSimpArgs false
set_option linter.unusedVariables false
namespace Go.Proofs.YtdelfjdjenlaiaaGreatDoor.LoadNodes
open Go
theorem Zz:(Rows.loadNodesRow.recurses==Tryz.prog.recurses 4)=true:=by kernel_rfl
theorem ZF:(Rows.loadNodesRow.named==Tryz.prog.varsNamed 4)=true:=by kernel_rfl
end Go.Proofs.YtdelfjdjenlaiaaGreatDoor.LoadNodes
