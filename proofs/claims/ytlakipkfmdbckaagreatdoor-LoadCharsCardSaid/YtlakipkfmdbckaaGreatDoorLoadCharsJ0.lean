/- What of the row of LoadChars the program tells. -/
import Derived.Test.YtlakipkfmdbckaaGreatDoorRows
import Derived.ProofKit
import Derived.JoinedOf
set_option linter.unusedSimpArgs false
set_option linter.unusedVariables false
namespace Go.Proofs.YtlakipkfmdbckaaGreatDoor.LoadChars
open Go
theorem jIn : (Rows.loadCharsRow.inPlace == Tryz.prog.inPlace 3) = true := by kernel_rfl
theorem jUn : (Rows.loadCharsRow.unfollowed == Tryz.prog.unfollowed 3) = true := by kernel_rfl
end Go.Proofs.YtlakipkfmdbckaaGreatDoor.LoadChars
