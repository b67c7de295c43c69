/- What of the row of SameTwice the program tells. -/
import Derived.Test.YtnddpppljnjmcaaGreatDoorRows
import Derived.ProofKit
import Derived.JoinedOf
set_option linter.unusedSimpArgs false
set_option linter.unusedVariables false
namespace Go.Proofs.YtnddpppljnjmcaaGreatDoor.SameTwice
open Go
theorem jLi:(Rows.sameTwiceUptoRow.lifted==Tryz.prog.liftsFinal)=true:=by kernel_rfl
theorem jPl:(Rows.sameTwiceUptoRow.plainKeys==Tryz.prog.plainKeys)=true:=by kernel_rfl
theorem jSt:Tryz.prog.stopsHeard=true:=by kernel_rfl
theorem jMa:Tryz.prog.mayEnter=true:=by kernel_rfl
theorem jLa:laidOutB Tryz.prog=true:=by kernel_rfl
theorem jMr:mapsRowed Tryz.prog=true:=by kernel_rfl
end Go.Proofs.YtnddpppljnjmcaaGreatDoor.SameTwice
