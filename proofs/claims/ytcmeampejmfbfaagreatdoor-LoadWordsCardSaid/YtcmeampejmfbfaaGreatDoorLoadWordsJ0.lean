/- What of the row of LoadWords the program tells. -/
import Derived.Test.YtcmeampejmfbfaaGreatDoorRows
import Derived.ProofKit
import Derived.JoinedOf
namespace Go.Proofs.YtcmeampejmfbfaaGreatDoor.LoadWords
open Go
theorem jIn : (Rows.loadWordsRow.inPlace == Tryz.prog.inPlace 3) = true := by kernel_rfl
theorem jUn : (Rows.loadWordsRow.unfollowed == Tryz.prog.unfollowed 3) = true := by kernel_rfl
end Go.Proofs.YtcmeampejmfbfaaGreatDoor.LoadWords
