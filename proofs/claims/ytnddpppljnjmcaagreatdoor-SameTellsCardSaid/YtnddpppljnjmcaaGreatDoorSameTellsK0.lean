/- What of the card of SameTells the program tells. -/
import Derived.Test.YtnddpppljnjmcaaGreatDoorRows
import Derived.Test.YtnddpppljnjmcaaGreatDoorCards
import Derived.ProofKit
import Derived.SevenTiedAt
set_option linter.unusedSimpArgs false
set_option linter.unusedVariables false
namespace Go.Proofs.YtnddpppljnjmcaaGreatDoor.SameTells
open Go
theorem cW:Rows.sameTellsRow.wfByText (OpenSpec.ofChange Rows.sameTellsSpec)=true:=by kernel_rfl
theorem cM : Tryz.pinned.checked.prog.mainIs = some (true, "395c1735d1f40614b60adc0b52107bacaa94cc9dd79c31152037534c2cd93bd4".toList) := by kernel_rfl
theorem cF:Tryz.pinned.checked.prog.funcNamed Rows.sameTellsRow.func=some 6:=by kernel_rfl
theorem cS:([25,3,3,40,40].all fun u=> !Tryz.pinned.checked.prog.wantsStandIn u)=true:=by kernel_rfl
end Go.Proofs.YtnddpppljnjmcaaGreatDoor.SameTells
