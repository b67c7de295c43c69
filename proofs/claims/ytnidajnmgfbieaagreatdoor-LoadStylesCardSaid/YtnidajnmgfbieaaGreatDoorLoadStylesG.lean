/- LoadStyles: its listed tables. -/
import Derived.Test.YtnidajnmgfbieaaGreatDoorAl
set_option linter.unusedSimpArgs false
set_option linter.unusedVariables false
namespace Go.Proofs.YtnidajnmgfbieaaGreatDoor.LoadStyles
open Go Go.Iv
def laidAll : List (String × DataW Unit) := [("math/bits.deBruijn32tab", Rows.laid_math_bits_deBruijn32tab), ("math/bits.deBruijn64tab", Rows.laid_math_bits_deBruijn64tab), ("internal/strconv.uint64pow10", Rows.laid_internal_strconv_uint64pow10), ("unicode/utf8.acceptRanges", Rows.laid_unicode_utf8_acceptRanges), ("strconv.ErrRange", Rows.laid_strconv_ErrRange), ("strconv.ErrSyntax", Rows.laid_strconv_ErrSyntax), ("unicode/utf8.first", Rows.laid_unicode_utf8_first)]
noncomputable def gl:List (Nat×List Value):=c5 Tryz.prog 4 laidAll
theorem mD:(laidAll.filter fun x=>x.2.handleName?.isSome)= []:=by kernel_rfl
theorem im:∀ x∈([]:List (Nat×List Value)),x∈c5 Tryz.prog 4 laidAll:=fun _ h=>by cases h
def Shown (a0:Int):Prop:=∃ (gl:List (Nat×List Value)) (sp:Go.Iv.Spec),(∀ x∈gl,x∈c5 Tryz.prog 4 laidAll)/\ai Tryz.prog sp/\∀ E:Nat->TypeId,aH ((bW Tryz.prog hint sp 3000).call 3 [.int .i64 a0] (aP (kh gl E)))=true
end Go.Proofs.YtnidajnmgfbieaaGreatDoor.LoadStyles
