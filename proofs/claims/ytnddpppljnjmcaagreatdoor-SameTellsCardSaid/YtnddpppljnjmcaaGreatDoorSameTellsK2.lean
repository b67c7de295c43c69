/- What of the card of SameTells the program tells. -/
import Derived.Test.YtnddpppljnjmcaaGreatDoorRows
import Derived.Test.YtnddpppljnjmcaaGreatDoorCards
import Derived.ProofKit
import Derived.SevenTiedAt
set_option linter.unusedSimpArgs false
set_option linter.unusedVariables false
namespace Go.Proofs.YtnddpppljnjmcaaGreatDoor.SameTells
open Go
theorem cG:false=Rows.sameTellsRow.goesBy Tryz.pinned.checked.prog:=by kernel_rfl
end Go.Proofs.YtnddpppljnjmcaaGreatDoor.SameTells
