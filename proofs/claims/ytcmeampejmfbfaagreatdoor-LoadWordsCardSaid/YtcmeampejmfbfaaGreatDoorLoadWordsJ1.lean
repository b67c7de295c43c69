/- What of the row of LoadWords the program tells. -/
import Derived.Test.YtcmeampejmfbfaaGreatDoorRows
import Derived.ProofKit
import Derived.JoinedOf
namespace Go.Proofs.YtcmeampejmfbfaaGreatDoor.LoadWords
open Go
theorem jRe : (Rows.loadWordsRow.recurses == Tryz.prog.recurses 3) = true := by kernel_rfl
theorem jNa : (Rows.loadWordsRow.named == Tryz.prog.varsNamed 3) = true := by kernel_rfl
end Go.Proofs.YtcmeampejmfbfaaGreatDoor.LoadWords
