/- What of the row of LoadStyles the program tells. -/
import Derived.Test.YtnidajnmgfbieaaGreatDoorRows
import Derived.ProofKit
import Derived.JoinedOf
set_option linter.unusedSimpArgs false
set_option linter.unusedVariables false
namespace Go.Proofs.YtnidajnmgfbieaaGreatDoor.LoadStyles
open Go
theorem sr:(Rows.loadStylesRow.recurses==Tryz.prog.recurses 3)=true:=by kernel_rfl
theorem sm:(Rows.loadStylesRow.named==Tryz.prog.varsNamed 3)=true:=by kernel_rfl
end Go.Proofs.YtnidajnmgfbieaaGreatDoor.LoadStyles
