/- 'alive' returns true: it is run once. -/
import Derived.Test.YtnddpppljnjmcaaGreatDoorProg
import Derived.Test.YtnddpppljnjmcaaGreatDoorGs
import Derived.Test.YtnddpppljnjmcaaGreatDoorGvRow
import Derived.Test.YtnddpppljnjmcaaGreatDoorIvRowF
import Derived.KernelRfl
set_option linter.unusedSimpArgs false
set_option linter.unusedVariables false
namespace Go.Proofs.YtnddpppljnjmcaaGreatDoor
open Go Go.Iv Go.Gv
set_option maxRecDepth 100000
theorem mixedA:Tryz.prog.follows .mixedOrders=true:=by kernel_rfl
theorem noRtA:noNG Tryz.prog=true:=by kernel_rfl
theorem alive_run:endsTrue ((evF Tryz.prog hint noSpec 300).call 8 [] (startH []))=true:=by kernel_rfl
theorem alive_ok:SpecOK Tryz.prog (trueSpec 8):=trueSpec_ok mixedA noRtA (by kernel_rfl) alive_run
end Go.Proofs.YtnddpppljnjmcaaGreatDoor
