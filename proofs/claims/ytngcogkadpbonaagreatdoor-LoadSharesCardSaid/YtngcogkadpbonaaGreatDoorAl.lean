/- 'alive' returns true: it is run once. -/
import Derived.Test.YtngcogkadpbonaaGreatDoorGl
set_option linter.unusedSimpArgs false
set_option linter.unusedVariables false
namespace Go.Proofs.YtngcogkadpbonaaGreatDoor
open Go Go.Iv
theorem zN:au ((aj Tryz.prog hint af 3000).call 4 [] (aw []))=true:=by kernel_rfl
theorem av:ab Tryz.prog (ai 4):=mm mixed ah (by kernel_rfl) zN
end Go.Proofs.YtngcogkadpbonaaGreatDoor
