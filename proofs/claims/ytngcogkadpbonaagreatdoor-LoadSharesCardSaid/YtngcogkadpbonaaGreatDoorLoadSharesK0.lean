/- What of the card of LoadShares the program tells. -/
import Derived.Test.YtngcogkadpbonaaGreatDoorRows
import Derived.Test.YtngcogkadpbonaaGreatDoorCards
import Derived.ProofKit
import Derived.SevenTiedAt
namespace Go.Proofs.YtngcogkadpbonaaGreatDoor.LoadShares
open Go
theorem cW : Rows.loadSharesRow.wfByText (OpenSpec.ofChange Rows.loadSharesSpec) = true := by kernel_rfl
theorem cM : Tryz.pinned.checked.prog.mainIs = some (true, "d7ae7e67407d8d422a462baf8bffde94f3e5ff114ed1baae6d46d34fb254fb87".toList) := by kernel_rfl
theorem cF : Tryz.pinned.checked.prog.funcNamed Rows.loadSharesRow.func = some 3 := by kernel_rfl
theorem cS : ([3, 3].all fun u => !Tryz.pinned.checked.prog.wantsStandIn u) = true := by kernel_rfl
end Go.Proofs.YtngcogkadpbonaaGreatDoor.LoadShares
