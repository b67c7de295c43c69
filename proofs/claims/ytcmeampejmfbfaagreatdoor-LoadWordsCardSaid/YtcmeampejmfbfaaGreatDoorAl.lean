/- 'alive' returns true: it is run once. -/
import Derived.Test.YtcmeampejmfbfaaGreatDoorGl
namespace Go.Proofs.YtcmeampejmfbfaaGreatDoor
open Go Go.Iv
theorem alive_run : endsTrue ((evF Tryz.prog hint noSpec 300).call 4 [] (startH [])) = true := by kernel_rfl
theorem alive_ok : SpecOK Tryz.prog (trueSpec 4) := trueSpec_ok mixed noRt (by kernel_rfl) alive_run
end Go.Proofs.YtcmeampejmfbfaaGreatDoor
