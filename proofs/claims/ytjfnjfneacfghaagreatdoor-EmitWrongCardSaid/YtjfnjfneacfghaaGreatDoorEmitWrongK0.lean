/- What of the card of EmitWrong the program tells. -/
import Derived.Test.YtjfnjfneacfghaaGreatDoorRows
import Derived.Test.YtjfnjfneacfghaaGreatDoorCards
import Derived.ProofKit
import Derived.SevenTiedAt
set_option linter.unusedSimpArgs false
set_option linter.unusedVariables false
namespace Go.Proofs.YtjfnjfneacfghaaGreatDoor.EmitWrong
open Go
theorem cW : Rows.emitWrongRow.wfByText (OpenSpec.ofChange Rows.emitWrongSpec) = true := by kernel_rfl
theorem cM : Tryz.pinned.checked.prog.mainIs = some (true, "e9dbff4a1b67793097ddaa69985cd8f13c4bdd5f9d10a064bab96763d43f7573".toList) := by kernel_rfl
theorem cF : Tryz.pinned.checked.prog.funcNamed Rows.emitWrongRow.func = some 3 := by kernel_rfl
theorem cS : ([25, 27].all fun u => !Tryz.pinned.checked.prog.wantsStandIn u) = true := by kernel_rfl
end Go.Proofs.YtjfnjfneacfghaaGreatDoor.EmitWrong
