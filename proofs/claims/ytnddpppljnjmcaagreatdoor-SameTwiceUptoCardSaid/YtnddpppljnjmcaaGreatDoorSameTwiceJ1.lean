/- What of the row of SameTwice the program tells. -/
import Derived.Test.YtnddpppljnjmcaaGreatDoorRows
import Derived.ProofKit
import Derived.JoinedOf
set_option linter.unusedSimpArgs false
set_option linter.unusedVariables false
namespace Go.Proofs.YtnddpppljnjmcaaGreatDoor.SameTwice
open Go
theorem jRe:(Rows.sameTwiceUptoRow.recurses==Tryz.prog.recurses 7)=true:=by kernel_rfl
theorem jNa:(Rows.sameTwiceUptoRow.named==Tryz.prog.varsNamed 7)=true:=by kernel_rfl
end Go.Proofs.YtnddpppljnjmcaaGreatDoor.SameTwice
