/- What of the row of PlanComposes the program tells. -/
import Derived.Test.YteknbnkjelmfaaaGreatDoorRows
import Derived.ProofKit
import Derived.JoinedOf
set_option linter.unusedSimpArgs false
set_option linter.unusedVariables false
namespace Go.Proofs.YteknbnkjelmfaaaGreatDoor.PlanComposes
open Go
theorem Vm:(Rows.planComposesRow.lifted==Tryz.prog.liftsFinal)=true:=by kernel_rfl
theorem Vq:(Rows.planComposesRow.plainKeys==Tryz.prog.plainKeys)=true:=by kernel_rfl
theorem Vs:Tryz.prog.stopsHeard=true:=by kernel_rfl
theorem Vj:Tryz.prog.mayEnter=true:=by kernel_rfl
theorem U9:laidOutB Tryz.prog=true:=by kernel_rfl
theorem Vi:mapsRowed Tryz.prog=true:=by kernel_rfl
end Go.Proofs.YteknbnkjelmfaaaGreatDoor.PlanComposes
