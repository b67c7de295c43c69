/- What of the row of SameRings the program tells. -/
import Derived.Test.YtnddpppljnjmcaaGreatDoorRows
import Derived.ProofKit
import Derived.JoinedOf
set_option linter.unusedSimpArgs false
set_option linter.unusedVariables false
namespace Go.Proofs.YtnddpppljnjmcaaGreatDoor.SameRings
open Go
theorem jRe : (Rows.sameRingsRow.recurses == Tryz.prog.recurses 4) = true := by kernel_rfl
theorem jNa : (Rows.sameRingsRow.named == Tryz.prog.varsNamed 4) = true := by kernel_rfl
end Go.Proofs.YtnddpppljnjmcaaGreatDoor.SameRings
