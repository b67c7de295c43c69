/- LoadShares: its listed tables. -/
import Derived.Test.YtngcogkadpbonaaGreatDoorAl
set_option linter.unusedSimpArgs false
set_option linter.unusedVariables false
namespace Go.Proofs.YtngcogkadpbonaaGreatDoor.LoadShares
open Go Go.Iv
def laidAll : List (String × DataW Unit) := [("math/bits.deBruijn32tab", Rows.laid_math_bits_deBruijn32tab), ("math/bits.deBruijn64tab", Rows.laid_math_bits_deBruijn64tab), ("internal/strconv.uint64pow10", Rows.laid_internal_strconv_uint64pow10), ("unicode/utf8.acceptRanges", Rows.laid_unicode_utf8_acceptRanges), ("strconv.ErrRange", Rows.laid_strconv_ErrRange), ("strconv.ErrSyntax", Rows.laid_strconv_ErrSyntax), ("unicode/utf8.first", Rows.laid_unicode_utf8_first)]
theorem IV:(laidAll.filter fun x=>x.2.handleName?.isSome)= []:=by kernel_rfl
theorem Xd:∀ x∈([]:List (Nat×List Value)),x∈fm Tryz.prog 4 laidAll:=fun _ h=>by cases h
def Shown (a b:Int):Prop:=∃ sp:Go.Iv.Spec,ab Tryz.prog sp/\∀ E:Nat->TypeId,au ((aj Tryz.prog hint sp 3000).call 3 [.int .i64 a,.int .i64 b] (aw (bf [] E)))=true
end Go.Proofs.YtngcogkadpbonaaGreatDoor.LoadShares
