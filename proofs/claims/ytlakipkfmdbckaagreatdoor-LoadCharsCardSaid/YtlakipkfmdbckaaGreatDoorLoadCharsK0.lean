/- What of the card of LoadChars the program tells. -/
import Derived.Test.YtlakipkfmdbckaaGreatDoorRows
import Derived.Test.YtlakipkfmdbckaaGreatDoorCards
import Derived.ProofKit
import Derived.SevenTiedAt
set_option linter.unusedSimpArgs false
set_option linter.unusedVariables false
namespace Go.Proofs.YtlakipkfmdbckaaGreatDoor.LoadChars
open Go
theorem cW : Rows.loadCharsRow.wfByText (OpenSpec.ofChange Rows.loadCharsSpec) = true := by kernel_rfl
theorem cM : Tryz.pinned.checked.prog.mainIs = some (true, "16642341f6b155e48c6d0d5077be7fae6ae7a27908a122e85aafbd84a7289965".toList) := by kernel_rfl
theorem cF : Tryz.pinned.checked.prog.funcNamed Rows.loadCharsRow.func = some 3 := by kernel_rfl
theorem cS : ([9, 9, 3].all fun u => !Tryz.pinned.checked.prog.wantsStandIn u) = true := by kernel_rfl
end Go.Proofs.YtlakipkfmdbckaaGreatDoor.LoadChars
