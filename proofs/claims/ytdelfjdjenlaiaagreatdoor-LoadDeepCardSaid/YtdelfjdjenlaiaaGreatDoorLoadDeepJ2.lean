/- What of the row of LoadDeep the program tells. -/
import Derived.Test.YtdelfjdjenlaiaaGreatDoorRows
import Derived.ProofKit
import Derived.JoinedOf
set_option linter.unusedSimpArgs false
set_option linter.unusedVariables false
namespace Go.Proofs.YtdelfjdjenlaiaaGreatDoor.LoadDeep
open Go
theorem ZC:(Rows.loadDeepRow.lifted==Tryz.prog.liftsFinal)=true:=by kernel_rfl
theorem ZP:(Rows.loadDeepRow.plainKeys==Tryz.prog.plainKeys)=true:=by kernel_rfl
theorem ZR:Tryz.prog.stopsHeard=true:=by kernel_rfl
theorem ZM:Tryz.prog.mayEnter=true:=by kernel_rfl
theorem ZU:laidOutB Tryz.prog=true:=by kernel_rfl
theorem Zz:mapsRowed Tryz.prog=true:=by kernel_rfl
end Go.Proofs.YtdelfjdjenlaiaaGreatDoor.LoadDeep
