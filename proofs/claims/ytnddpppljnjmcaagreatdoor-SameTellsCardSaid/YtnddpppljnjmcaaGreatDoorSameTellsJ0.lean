/- What of the row of SameTells the program tells. -/
import Derived.Test.YtnddpppljnjmcaaGreatDoorRows
import Derived.ProofKit
import Derived.JoinedOf
set_option linter.unusedSimpArgs false
set_option linter.unusedVariables false
namespace Go.Proofs.YtnddpppljnjmcaaGreatDoor.SameTells
open Go
theorem TW:(Rows.sameTellsRow.inPlace==Tryz.prog.inPlace 6)=true:=by kernel_rfl
theorem TD:(Rows.sameTellsRow.unfollowed==Tryz.prog.unfollowed 6)=true:=by kernel_rfl
end Go.Proofs.YtnddpppljnjmcaaGreatDoor.SameTells
