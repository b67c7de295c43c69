/- What of the row of SameTells the program tells. -/
import Derived.Test.YtnddpppljnjmcaaGreatDoorRows
import Derived.ProofKit
import Derived.JoinedOf
set_option linter.unusedSimpArgs false
set_option linter.unusedVariables false
namespace Go.Proofs.YtnddpppljnjmcaaGreatDoor.SameTells
open Go
theorem TM:(Rows.sameTellsRow.lifted==Tryz.prog.liftsFinal)=true:=by kernel_rfl
theorem TB:(Rows.sameTellsRow.plainKeys==Tryz.prog.plainKeys)=true:=by kernel_rfl
theorem TF:Tryz.prog.stopsHeard=true:=by kernel_rfl
theorem TI:Tryz.prog.mayEnter=true:=by kernel_rfl
theorem Tz:laidOutB Tryz.prog=true:=by kernel_rfl
theorem TG:mapsRowed Tryz.prog=true:=by kernel_rfl
end Go.Proofs.YtnddpppljnjmcaaGreatDoor.SameTells
