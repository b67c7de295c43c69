/- What of the row of LoadStyles the program tells. -/
import Derived.Test.YtnidajnmgfbieaaGreatDoorRows
import Derived.ProofKit
import Derived.JoinedOf
set_option linter.unusedSimpArgs false
set_option linter.unusedVariables false
namespace Go.Proofs.YtnidajnmgfbieaaGreatDoor.LoadStyles
open Go
theorem so:(Rows.loadStylesRow.lifted==Tryz.prog.liftsFinal)=true:=by kernel_rfl
theorem sq:(Rows.loadStylesRow.plainKeys==Tryz.prog.plainKeys)=true:=by kernel_rfl
theorem sn:Tryz.prog.stopsHeard=true:=by kernel_rfl
theorem sB:Tryz.prog.mayEnter=true:=by kernel_rfl
theorem ss:laidOutB Tryz.prog=true:=by kernel_rfl
theorem sD:mapsRowed Tryz.prog=true:=by kernel_rfl
end Go.Proofs.YtnidajnmgfbieaaGreatDoor.LoadStyles
