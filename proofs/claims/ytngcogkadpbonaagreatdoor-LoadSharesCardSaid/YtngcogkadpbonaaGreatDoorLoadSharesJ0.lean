/- What of the row of LoadShares the program tells. -/
import Derived.Test.YtngcogkadpbonaaGreatDoorRows
import Derived.ProofKit
import Derived.JoinedOf
set_option linter.unusedSimpArgs false
set_option linter.unusedVariables false
namespace Go.Proofs.YtngcogkadpbonaaGreatDoor.LoadShares
open Go
theorem XB:(Rows.loadSharesRow.inPlace==Tryz.prog.inPlace 3)=true:=by kernel_rfl
theorem Xy:(Rows.loadSharesRow.unfollowed==Tryz.prog.unfollowed 3)=true:=by kernel_rfl
end Go.Proofs.YtngcogkadpbonaaGreatDoor.LoadShares
