/- What of the row of SameTells the program tells. -/
import Derived.Test.YtnddpppljnjmcaaGreatDoorRows
import Derived.ProofKit
import Derived.JoinedOf
set_option linter.unusedSimpArgs false
set_option linter.unusedVariables false
namespace Go.Proofs.YtnddpppljnjmcaaGreatDoor.SameTells
open Go
theorem TS:(Rows.sameTellsRow.recurses==Tryz.prog.recurses 6)=true:=by kernel_rfl
theorem TN:(Rows.sameTellsRow.named==Tryz.prog.varsNamed 6)=true:=by kernel_rfl
end Go.Proofs.YtnddpppljnjmcaaGreatDoor.SameTells
