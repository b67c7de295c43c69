/- What of the card of LoadChars the program tells. -/
import Derived.Test.YtlakipkfmdbckaaGreatDoorRows
import Derived.Test.YtlakipkfmdbckaaGreatDoorCards
import Derived.ProofKit
import Derived.SevenTiedAt
set_option linter.unusedSimpArgs false
set_option linter.unusedVariables false
namespace Go.Proofs.YtlakipkfmdbckaaGreatDoor.LoadChars
open Go
theorem cG : false = Rows.loadCharsRow.goesBy Tryz.pinned.checked.prog := by kernel_rfl
end Go.Proofs.YtlakipkfmdbckaaGreatDoor.LoadChars
