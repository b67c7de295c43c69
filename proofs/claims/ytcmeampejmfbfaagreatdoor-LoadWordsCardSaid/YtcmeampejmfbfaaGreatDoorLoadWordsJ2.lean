/- What of the row of LoadWords the program tells. -/
import Derived.Test.YtcmeampejmfbfaaGreatDoorRows
import Derived.ProofKit
import Derived.JoinedOf
namespace Go.Proofs.YtcmeampejmfbfaaGreatDoor.LoadWords
open Go
theorem jLi : (Rows.loadWordsRow.lifted == Tryz.prog.liftsFinal) = true := by kernel_rfl
theorem jPl : (Rows.loadWordsRow.plainKeys == Tryz.prog.plainKeys) = true := by kernel_rfl
theorem jSt : Tryz.prog.stopsHeard = true := by kernel_rfl
theorem jMa : Tryz.prog.mayEnter = true := by kernel_rfl
theorem jLa : laidOutB Tryz.prog = true := by kernel_rfl
theorem jMr : mapsRowed Tryz.prog = true := by kernel_rfl
end Go.Proofs.YtcmeampejmfbfaaGreatDoor.LoadWords
