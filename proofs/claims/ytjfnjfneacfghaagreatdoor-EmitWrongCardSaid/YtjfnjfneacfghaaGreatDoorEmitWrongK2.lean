/- What of the card of EmitWrong the program tells. -/
import Derived.Test.YtjfnjfneacfghaaGreatDoorRows
import Derived.Test.YtjfnjfneacfghaaGreatDoorCards
import Derived.ProofKit
import Derived.SevenTiedAt
set_option linter.unusedSimpArgs false
set_option linter.unusedVariables false
namespace Go.Proofs.YtjfnjfneacfghaaGreatDoor.EmitWrong
open Go
theorem cG : false = Rows.emitWrongRow.goesBy Tryz.pinned.checked.prog := by kernel_rfl
end Go.Proofs.YtjfnjfneacfghaaGreatDoor.EmitWrong
