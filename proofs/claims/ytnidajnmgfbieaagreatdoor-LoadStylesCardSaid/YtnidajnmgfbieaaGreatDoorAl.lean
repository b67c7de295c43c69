/- 'alive' returns true: it is run once. -/
import Derived.Test.YtnidajnmgfbieaaGreatDoorGl
set_option linter.unusedSimpArgs false
set_option linter.unusedVariables false
namespace Go.Proofs.YtnidajnmgfbieaaGreatDoor
open Go Go.Iv
theorem lp:aH ((bW Tryz.prog hint aw 3000).call 4 [] (aP []))=true:=by kernel_rfl
theorem bh:ai Tryz.prog (au 4):=jK mixed bd (by kernel_rfl) lp
end Go.Proofs.YtnidajnmgfbieaaGreatDoor
