/- What the two listed tables hold. -/
import Derived.Test.YtdpbghgeolhomaaDoorIvRow
import Derived.Test.YtdpbghgeolhomaaDoorRows
namespace Go.Proofs.YtdpbghgeolhomaaDoor
open Go Go.Iv
def laidAll : List (String × DataW Unit) := [("unicode/utf8.acceptRanges", Rows.laid_unicode_utf8_acceptRanges), ("unicode/utf8.first", Rows.laid_unicode_utf8_first)]
def gl : List (Nat × List Value) := [(1, [128, 191, 160, 191, 128, 159, 144, 191, 128, 143, 0, 0, 0, 0, 0, 0, 0, 0, 0, 0, 0, 0, 0, 0, 0, 0, 0, 0, 0, 0, 0, 0].map fun n => .int .u8 (Int.ofNat n)), (0, Go.Pinned.utf8FirstZ.map fun n => .int .u8 (Int.ofNat n))]
theorem gl_is : gvals Tryd.prog 4 laidAll = some gl := by kernel_rfl
theorem noHandle : (laidAll.filter fun x => x.2.handleName?.isSome) = [] := by kernel_rfl
theorem mixed : Tryd.prog.follows .mixedOrders = true := by kernel_rfl
theorem noRt : noNG Tryd.prog = true := by kernel_rfl
end Go.Proofs.YtdpbghgeolhomaaDoor
