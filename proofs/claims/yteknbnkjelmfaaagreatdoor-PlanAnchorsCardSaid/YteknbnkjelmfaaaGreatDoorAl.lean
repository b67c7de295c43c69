/- 'alive' returns true: it is run once. -/
import Derived.Test.YteknbnkjelmfaaaGreatDoorProg
import Derived.Test.YteknbnkjelmfaaaGreatDoorGs
import Derived.Test.YteknbnkjelmfaaaGreatDoorGvRow
import Derived.Test.YteknbnkjelmfaaaGreatDoorIvRowF
import Derived.KernelRfl
set_option linter.unusedSimpArgs false
set_option linter.unusedVariables false
namespace Go.Proofs.YteknbnkjelmfaaaGreatDoor
open Go Go.Iv Go.Gv
set_option maxRecDepth 100000
theorem mixedA : Tryz.prog.follows .mixedOrders = true := by kernel_rfl
theorem noRtA : noNG Tryz.prog = true := by kernel_rfl
theorem alive_run : endsTrue ((evF Tryz.prog hint noSpec 300).call 7 [] (startH [])) = true := by kernel_rfl
theorem alive_ok : SpecOK Tryz.prog (trueSpec 7) := trueSpec_ok mixedA noRtA (by kernel_rfl) alive_run
end Go.Proofs.YteknbnkjelmfaaaGreatDoor
