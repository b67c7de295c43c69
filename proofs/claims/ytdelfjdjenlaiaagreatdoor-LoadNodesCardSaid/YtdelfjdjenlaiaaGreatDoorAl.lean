/- 'alive' returns true: it is run once. -/
import Derived.Test.YtdelfjdjenlaiaaGreatDoorProg
import Derived.Test.YtdelfjdjenlaiaaGreatDoorGs
import Derived.Test.YtdelfjdjenlaiaaGreatDoorGvRow
import Derived.Test.YtdelfjdjenlaiaaGreatDoorIvRowF
import Derived.KernelRfl
set_option linter.unusedSimpArgs false
set_option linter.unusedVariables false
namespace Go.Proofs.YtdelfjdjenlaiaaGreatDoor
open Go Go.Iv Go.Gv
set_option maxRecDepth 100000
theorem WH:Tryz.prog.follows .mixedOrders=true:=by kernel_rfl
theorem W8:jv Tryz.prog=true:=by kernel_rfl
theorem Mu:xM ((Xb Tryz.prog hint Dl 3000).call 5 [] (bn []))=true:=by kernel_rfl
theorem QO:jt Tryz.prog (jV 5):=FB WH W8 (by kernel_rfl) Mu
end Go.Proofs.YtdelfjdjenlaiaaGreatDoor
