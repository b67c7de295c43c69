/- What of the row of LoadShares the program tells. -/
import Derived.Test.YtngcogkadpbonaaGreatDoorRows
import Derived.ProofKit
import Derived.JoinedOf
set_option linter.unusedSimpArgs false
set_option linter.unusedVariables false
namespace Go.Proofs.YtngcogkadpbonaaGreatDoor.LoadShares
open Go
theorem Xp:(Rows.loadSharesRow.recurses==Tryz.prog.recurses 3)=true:=by kernel_rfl
theorem Xv:(Rows.loadSharesRow.named==Tryz.prog.varsNamed 3)=true:=by kernel_rfl
end Go.Proofs.YtngcogkadpbonaaGreatDoor.LoadShares
