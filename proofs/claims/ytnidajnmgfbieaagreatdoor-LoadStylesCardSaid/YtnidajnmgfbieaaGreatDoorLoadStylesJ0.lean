/- What of the row of LoadStyles the program tells. -/
import Derived.Test.YtnidajnmgfbieaaGreatDoorRows
import Derived.ProofKit
import Derived.JoinedOf
set_option linter.unusedSimpArgs false
set_option linter.unusedVariables false
namespace Go.Proofs.YtnidajnmgfbieaaGreatDoor.LoadStyles
open Go
theorem sj:(Rows.loadStylesRow.inPlace==Tryz.prog.inPlace 3)=true:=by kernel_rfl
theorem sy:(Rows.loadStylesRow.unfollowed==Tryz.prog.unfollowed 3)=true:=by kernel_rfl
end Go.Proofs.YtnidajnmgfbieaaGreatDoor.LoadStyles
