/- What of the row of EmitWrong the program tells. -/
import Derived.Test.YtjfnjfneacfghaaGreatDoorRows
import Derived.ProofKit
import Derived.JoinedOf
set_option linter.unusedSimpArgs false
set_option linter.unusedVariables false
namespace Go.Proofs.YtjfnjfneacfghaaGreatDoor.EmitWrong
open Go
theorem jRe : (Rows.emitWrongRow.recurses == Tryz.prog.recurses 3) = true := by kernel_rfl
theorem jNa : (Rows.emitWrongRow.named == Tryz.prog.varsNamed 3) = true := by kernel_rfl
end Go.Proofs.YtjfnjfneacfghaaGreatDoor.EmitWrong
