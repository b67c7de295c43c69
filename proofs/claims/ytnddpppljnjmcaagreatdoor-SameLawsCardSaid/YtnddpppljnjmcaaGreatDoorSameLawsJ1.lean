/- What of the row of SameLaws the program tells. -/
import Derived.Test.YtnddpppljnjmcaaGreatDoorRows
import Derived.ProofKit
import Derived.JoinedOf
set_option linter.unusedSimpArgs false
set_option linter.unusedVariables false
namespace Go.Proofs.YtnddpppljnjmcaaGreatDoor.SameLaws
open Go
theorem jRe : (Rows.sameLawsRow.recurses == Tryz.prog.recurses 3) = true := by kernel_rfl
theorem jNa : (Rows.sameLawsRow.named == Tryz.prog.varsNamed 3) = true := by kernel_rfl
end Go.Proofs.YtnddpppljnjmcaaGreatDoor.SameLaws
