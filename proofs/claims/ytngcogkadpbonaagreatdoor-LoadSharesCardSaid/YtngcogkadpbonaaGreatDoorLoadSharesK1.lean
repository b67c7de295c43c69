/- What of the card of LoadShares the program tells. -/
import Derived.Test.YtngcogkadpbonaaGreatDoorRows
import Derived.Test.YtngcogkadpbonaaGreatDoorCards
import Derived.ProofKit
import Derived.SevenTiedAt
namespace Go.Proofs.YtngcogkadpbonaaGreatDoor.LoadShares
open Go
theorem cL : true = Tryz.pinned.checked.prog.looks [] := by kernel_rfl
end Go.Proofs.YtngcogkadpbonaaGreatDoor.LoadShares
