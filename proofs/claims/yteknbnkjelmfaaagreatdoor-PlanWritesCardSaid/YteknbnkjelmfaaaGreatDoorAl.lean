/- 'alive' returns true: it is run once. -/
import Derived.Test.YteknbnkjelmfaaaGreatDoorProg
import Derived.Test.YteknbnkjelmfaaaGreatDoorGs
import Derived.Test.YteknbnkjelmfaaaGreatDoorGvRow
import Derived.Test.YteknbnkjelmfaaaGreatDoorIvRowF
import Derived.KernelRfl
set_option linter.unusedSimpArgs false
set_option linter.unusedVariables false
namespace Go.Proofs.YteknbnkjelmfaaaGreatDoor
open Go Go.Iv Go.Gv
set_option maxRecDepth 100000
theorem U3:Tryz.prog.follows .mixedOrders=true:=by kernel_rfl
theorem Wa:jx Tryz.prog=true:=by kernel_rfl
theorem L4:wF ((V2 Tryz.prog hint Dm 300).call 7 [] (bf []))=true:=by kernel_rfl
theorem Oj:jt Tryz.prog (j8 7):=Eh U3 Wa (by kernel_rfl) L4
end Go.Proofs.YteknbnkjelmfaaaGreatDoor
