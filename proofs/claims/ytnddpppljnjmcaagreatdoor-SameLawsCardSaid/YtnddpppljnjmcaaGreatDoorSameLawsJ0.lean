/- What of the row of SameLaws the program tells. -/
import Derived.Test.YtnddpppljnjmcaaGreatDoorRows
import Derived.ProofKit
import Derived.JoinedOf
set_option linter.unusedSimpArgs false
set_option linter.unusedVariables false
namespace Go.Proofs.YtnddpppljnjmcaaGreatDoor.SameLaws
open Go
theorem jIn : (Rows.sameLawsRow.inPlace == Tryz.prog.inPlace 3) = true := by kernel_rfl
theorem jUn : (Rows.sameLawsRow.unfollowed == Tryz.prog.unfollowed 3) = true := by kernel_rfl
end Go.Proofs.YtnddpppljnjmcaaGreatDoor.SameLaws
