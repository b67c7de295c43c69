/- 'alive' returns true: it is run once. -/
import Derived.Test.YtdelfjdjenlaiaaGreatDoorProg
import Derived.Test.YtdelfjdjenlaiaaGreatDoorGs
import Derived.Test.YtdelfjdjenlaiaaGreatDoorGvRow
import Derived.Test.YtdelfjdjenlaiaaGreatDoorIvRowF
import Derived.KernelRfl
set_option linter.unusedSimpArgs false
set_option linter.unusedVariables false
namespace Go.Proofs.YtdelfjdjenlaiaaGreatDoor
open Go Go.Iv Go.Gv
set_option maxRecDepth 100000
theorem Wt:Tryz.prog.follows .mixedOrders=true:=by kernel_rfl
theorem XX:jE Tryz.prog=true:=by kernel_rfl
theorem NQ:xX ((Xp Tryz.prog hint Dm 3000).call 5 [] (bn []))=true:=by kernel_rfl
theorem QG:jB Tryz.prog (jU 5):=GW Wt XX (by kernel_rfl) NQ
end Go.Proofs.YtdelfjdjenlaiaaGreatDoor
