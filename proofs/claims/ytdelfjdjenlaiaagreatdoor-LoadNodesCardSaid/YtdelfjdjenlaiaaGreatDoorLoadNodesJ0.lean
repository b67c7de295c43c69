/- What of the row of LoadNodes the program tells. -/
import Derived.Test.YtdelfjdjenlaiaaGreatDoorRows
import Derived.ProofKit
import Derived.JoinedOf
set_option linter.unusedSimpArgs false
set_option linter.unusedVariables false
namespace Go.Proofs.YtdelfjdjenlaiaaGreatDoor.LoadNodes
open Go
theorem Zy:(Rows.loadNodesRow.inPlace==Tryz.prog.inPlace 4)=true:=by kernel_rfl
theorem ZJ:(Rows.loadNodesRow.unfollowed==Tryz.prog.unfollowed 4)=true:=by kernel_rfl
end Go.Proofs.YtdelfjdjenlaiaaGreatDoor.LoadNodes
