/- What of the row of LoadNodes the program tells. -/
import Derived.Test.YtdelfjdjenlaiaaGreatDoorRows
import Derived.ProofKit
import Derived.JoinedOf
set_option linter.unusedSimpArgs false
set_option linter.unusedVariables false
namespace Go.Proofs.YtdelfjdjenlaiaaGreatDoor.LoadNodes
open Go
theorem ZH:(Rows.loadNodesRow.lifted==Tryz.prog.liftsFinal)=true:=by kernel_rfl
theorem ZB:(Rows.loadNodesRow.plainKeys==Tryz.prog.plainKeys)=true:=by kernel_rfl
theorem ZA:Tryz.prog.stopsHeard=true:=by kernel_rfl
theorem Zs:Tryz.prog.mayEnter=true:=by kernel_rfl
theorem ZC:laidOutB Tryz.prog=true:=by kernel_rfl
theorem Zu:mapsRowed Tryz.prog=true:=by kernel_rfl
end Go.Proofs.YtdelfjdjenlaiaaGreatDoor.LoadNodes
