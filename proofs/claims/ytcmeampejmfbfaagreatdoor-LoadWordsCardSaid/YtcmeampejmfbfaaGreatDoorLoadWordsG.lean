/- LoadWords: its listed tables. -/
import Derived.Test.YtcmeampejmfbfaaGreatDoorGl
namespace Go.Proofs.YtcmeampejmfbfaaGreatDoor.LoadWords
open Go Go.Iv
def laidAll : List (String × DataW Unit) := [("math/bits.deBruijn32tab", Rows.laid_math_bits_deBruijn32tab), ("math/bits.deBruijn64tab", Rows.laid_math_bits_deBruijn64tab), ("internal/strconv.uint64pow10", Rows.laid_internal_strconv_uint64pow10), ("unicode/utf8.acceptRanges", Rows.laid_unicode_utf8_acceptRanges), ("strconv.ErrRange", Rows.laid_strconv_ErrRange), ("strconv.ErrSyntax", Rows.laid_strconv_ErrSyntax), ("unicode/utf8.first", Rows.laid_unicode_utf8_first)]
def gl : List (Nat × List Value) := [(1, [128, 191, 160, 191, 128, 159, 144, 191, 128, 143, 0, 0, 0, 0, 0, 0, 0, 0, 0, 0, 0, 0, 0, 0, 0, 0, 0, 0, 0, 0, 0, 0].map fun n => .int .u8 (Int.ofNat n)), (0, Go.Pinned.utf8FirstZ.map fun n => .int .u8 (Int.ofNat n))]
theorem noHandle : (laidAll.filter fun x => x.2.handleName?.isSome) = [] := by kernel_rfl
theorem gl_is : (gvals Tryz.prog 4 laidAll).filter (fun x => Nat.ble x.1 1) = gl := by kernel_rfl
end Go.Proofs.YtcmeampejmfbfaaGreatDoor.LoadWords
