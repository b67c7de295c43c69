/- 'alive' returns true: it is run once. -/
import Derived.Test.YtngfkonpehlaoaaGreatDoorGl
namespace Go.Proofs.YtngfkonpehlaoaaGreatDoor
open Go Go.Iv
theorem alive_run : endsTrue ((evF Tryz.prog hint noSpec 200).call 4 [] (startH [])) = true := by kernel_rfl
theorem alive_ok : SpecOK Tryz.prog (trueSpec 4) := trueSpec_ok mixed noRt (by kernel_rfl) alive_run
end Go.Proofs.YtngfkonpehlaoaaGreatDoor
