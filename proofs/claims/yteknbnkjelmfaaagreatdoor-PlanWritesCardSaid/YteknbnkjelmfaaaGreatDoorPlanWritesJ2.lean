/- What of the row of PlanWrites the program tells. -/
import Derived.Test.YteknbnkjelmfaaaGreatDoorRows
import Derived.ProofKit
import Derived.JoinedOf
set_option linter.unusedSimpArgs false
set_option linter.unusedVariables false
namespace Go.Proofs.YteknbnkjelmfaaaGreatDoor.PlanWrites
open Go
theorem Yv:(Rows.planWritesRow.lifted==Tryz.prog.liftsFinal)=true:=by kernel_rfl
theorem YA:(Rows.planWritesRow.plainKeys==Tryz.prog.plainKeys)=true:=by kernel_rfl
theorem Yp:Tryz.prog.stopsHeard=true:=by kernel_rfl
theorem Yn:Tryz.prog.mayEnter=true:=by kernel_rfl
theorem YF:laidOutB Tryz.prog=true:=by kernel_rfl
theorem Ym:mapsRowed Tryz.prog=true:=by kernel_rfl
end Go.Proofs.YteknbnkjelmfaaaGreatDoor.PlanWrites
