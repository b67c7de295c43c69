/- WriteWrong: its listed tables. -/
import Derived.Test.YtngfkonpehlaoaaGreatDoorGl
namespace Go.Proofs.YtngfkonpehlaoaaGreatDoor.WriteWrong
open Go Go.Iv
def laidAll : List (String × DataW Unit) := [("unicode/utf8.acceptRanges", Rows.laid_unicode_utf8_acceptRanges), ("unicode/utf8.first", Rows.laid_unicode_utf8_first)]
def gl : List (Nat × List Value) := [(1, [128, 191, 160, 191, 128, 159, 144, 191, 128, 143, 0, 0, 0, 0, 0, 0, 0, 0, 0, 0, 0, 0, 0, 0, 0, 0, 0, 0, 0, 0, 0, 0].map fun n => .int .u8 (Int.ofNat n)), (0, Go.Pinned.utf8FirstZ.map fun n => .int .u8 (Int.ofNat n))]
theorem noHandle : (laidAll.filter fun x => x.2.handleName?.isSome) = [] := by kernel_rfl
theorem gl_is : gvals Tryz.prog 4 laidAll = gl := by kernel_rfl
end Go.Proofs.YtngfkonpehlaoaaGreatDoor.WriteWrong
