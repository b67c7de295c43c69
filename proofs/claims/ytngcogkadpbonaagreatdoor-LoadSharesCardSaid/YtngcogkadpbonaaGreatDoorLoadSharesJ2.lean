/- What of the row of LoadShares the program tells. -/
import Derived.Test.YtngcogkadpbonaaGreatDoorRows
import Derived.ProofKit
import Derived.JoinedOf
set_option linter.unusedSimpArgs false
set_option linter.unusedVariables false
namespace Go.Proofs.YtngcogkadpbonaaGreatDoor.LoadShares
open Go
theorem Xw:(Rows.loadSharesRow.lifted==Tryz.prog.liftsFinal)=true:=by kernel_rfl
theorem XA:(Rows.loadSharesRow.plainKeys==Tryz.prog.plainKeys)=true:=by kernel_rfl
theorem Xq:Tryz.prog.stopsHeard=true:=by kernel_rfl
theorem Xz:Tryz.prog.mayEnter=true:=by kernel_rfl
theorem Xx:laidOutB Tryz.prog=true:=by kernel_rfl
theorem Xt:mapsRowed Tryz.prog=true:=by kernel_rfl
end Go.Proofs.YtngcogkadpbonaaGreatDoor.LoadShares
