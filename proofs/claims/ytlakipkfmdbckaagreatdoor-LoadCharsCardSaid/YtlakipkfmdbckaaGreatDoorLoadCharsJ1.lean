/- What of the row of LoadChars the program tells. -/
import Derived.Test.YtlakipkfmdbckaaGreatDoorRows
import Derived.ProofKit
import Derived.JoinedOf
set_option linter.unusedSimpArgs false
set_option linter.unusedVariables false
namespace Go.Proofs.YtlakipkfmdbckaaGreatDoor.LoadChars
open Go
theorem jRe : (Rows.loadCharsRow.recurses == Tryz.prog.recurses 3) = true := by kernel_rfl
theorem jNa : (Rows.loadCharsRow.named == Tryz.prog.varsNamed 3) = true := by kernel_rfl
end Go.Proofs.YtlakipkfmdbckaaGreatDoor.LoadChars
