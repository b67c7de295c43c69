/-
  NARROWER THAN 'FOR EVERY INPUT', by the rows' own cells (each row's printed sentence says how): UtfPoints: laid · UtfWide: laid · UtfLong: laid · UtfWrong: laid · UtfBytes: laid.
  DERIVED. THE GIVEN ROWS OF THIS SEAT. 5 by the template 'for every input the law returns true; each argument reads behind the call as it read before'; 0 by the template 'total and deterministic' (their statements: YtjaiiojikollmaaDoorTotals.lean).
  GIVEN WITH THE SEED: the statements are not yours to turn. If you find one false, say at which input.
  Laid BY PROGRAM, IN A SANDBOX (cutbox-rows.mjs): the forced cells as the released guide's own fill.sh prints them over the translation 55fe45cf6b793c62… (all of the seat's roots in one cut). By AI agents, Wed Nov 11 2026. No macro, syntax, notation, axiom, sorry.
-/
import Derived.Test.YtjaiiojikollmaaDoorChecked
import GoSem.PinnedTables
import GoSem.Claim
import GoSem.ClaimJoined
import GoSem.ClaimMapViews
import Derived.JoinedTies
import Derived.KernelRfl
namespace Go.Proofs.YtjaiiojikollmaaDoor
/- THE CELL 'sum', in the pinned program and in every row, IS THE sha256 OF THE DUMP (.gsa) THAT YtjaiiojikollmaaDoorProg.lean LOADS. Nothing in Lean hashes anything: it is a label: what it is worth is what the hold of that sum in a sandbox is worth. -/
noncomputable def Tryd.pinned : Pinned := { name := "ytjaiiojikollmaadoor", sum := "55fe45cf6b793c626c9cd266d7cbd137e518f353a8d9c82043a528da09e76d85", checked := Tryd.checked }
namespace Rows
def none {H : Type} : Left H := { results := [], args := [] }

/- WHAT THE LISTED PACKAGE-LEVEL VARIABLES READ AS WHEN THE CALL BEGINS. Each datum BY PROGRAM (the guide's laid-datum.mjs) off the statement by which the dump's own 'gosem.cut.vars' lays the variable. In a bare row this is a premise. The card (YtjaiiojikollmaaDoorCards.lean) ties it to the program's text. -/
def laid_unicode_utf8_acceptRanges {H : Type} : DataW H := .agg [.agg [.lit (.int .u8 128), .lit (.int .u8 191)], .agg [.lit (.int .u8 160), .lit (.int .u8 191)], .agg [.lit (.int .u8 128), .lit (.int .u8 159)], .agg [.lit (.int .u8 144), .lit (.int .u8 191)], .agg [.lit (.int .u8 128), .lit (.int .u8 143)], .agg [.lit (.int .u8 0), .lit (.int .u8 0)], .agg [.lit (.int .u8 0), .lit (.int .u8 0)], .agg [.lit (.int .u8 0), .lit (.int .u8 0)], .agg [.lit (.int .u8 0), .lit (.int .u8 0)], .agg [.lit (.int .u8 0), .lit (.int .u8 0)], .agg [.lit (.int .u8 0), .lit (.int .u8 0)], .agg [.lit (.int .u8 0), .lit (.int .u8 0)], .agg [.lit (.int .u8 0), .lit (.int .u8 0)], .agg [.lit (.int .u8 0), .lit (.int .u8 0)], .agg [.lit (.int .u8 0), .lit (.int .u8 0)], .agg [.lit (.int .u8 0), .lit (.int .u8 0)]]
/-- One of Go's own tables, pinned by name: the form's constant. -/
def laid_unicode_utf8_first : DataW Unit := Go.Pinned.utf8First

/-- 'marginalialaw1.UtfPoints': WHATEVER THE INPUT: true; the input reads as it did. -/
def utfPointsSpec : ChangeSpec := { name := "utfPoints", fn := fun _ => fun
  | [d] => { results := [.lit (.bool true)], args := [d] }
  | _ => none }
def utfPointsRow : OpenClaim := { program := "ytjaiiojikollmaadoor", sum := "55fe45cf6b793c626c9cd266d7cbd137e518f353a8d9c82043a528da09e76d85", func := "marginalia/marginalialaw1.UtfPoints", spec := "utfPoints", unfollowed := true, recurses := true, named := ["unicode/utf8.first", "unicode/utf8.acceptRanges"], apart := false, laid := [("unicode/utf8.acceptRanges", laid_unicode_utf8_acceptRanges), ("unicode/utf8.first", laid_unicode_utf8_first)] }
def UtfPointsSaid : Prop := utfPointsRow.holds Tryd.pinned (OpenSpec.ofChange utfPointsSpec)

/-- ITS FALSE NEIGHBOUR: 'it returns false'. Refute it at one input. -/
def utfPointsWrong : ChangeSpec := { name := "utfPoints", fn := fun _ => fun
  | [d] => { results := [.lit (.bool false)], args := [d] }
  | _ => none }
def UtfPointsWrongFalsely : Prop := utfPointsRow.holds Tryd.pinned (OpenSpec.ofChange utfPointsWrong)

/-- 'marginalialaw1.UtfWide': WHATEVER THE INPUT: true; the input reads as it did. -/
def utfWideSpec : ChangeSpec := { name := "utfWide", fn := fun _ => fun
  | [d1, d2, d3] => { results := [.lit (.bool true)], args := [d1, d2, d3] }
  | _ => none }
def utfWideRow : OpenClaim := { program := "ytjaiiojikollmaadoor", sum := "55fe45cf6b793c626c9cd266d7cbd137e518f353a8d9c82043a528da09e76d85", func := "marginalia/marginalialaw1.UtfWide", spec := "utfWide", unfollowed := true, recurses := true, named := ["unicode/utf8.first", "unicode/utf8.acceptRanges"], apart := false, laid := [("unicode/utf8.acceptRanges", laid_unicode_utf8_acceptRanges), ("unicode/utf8.first", laid_unicode_utf8_first)] }
def UtfWideSaid : Prop := utfWideRow.holds Tryd.pinned (OpenSpec.ofChange utfWideSpec)

/-- ITS FALSE NEIGHBOUR: 'it returns false'. Refute it at one input. -/
def utfWideWrong : ChangeSpec := { name := "utfWide", fn := fun _ => fun
  | [d1, d2, d3] => { results := [.lit (.bool false)], args := [d1, d2, d3] }
  | _ => none }
def UtfWideWrongFalsely : Prop := utfWideRow.holds Tryd.pinned (OpenSpec.ofChange utfWideWrong)

/-- 'marginalialaw1.UtfLong': WHATEVER THE INPUT: true; the input reads as it did. -/
def utfLongSpec : ChangeSpec := { name := "utfLong", fn := fun _ => fun
  | [d] => { results := [.lit (.bool true)], args := [d] }
  | _ => none }
def utfLongRow : OpenClaim := { program := "ytjaiiojikollmaadoor", sum := "55fe45cf6b793c626c9cd266d7cbd137e518f353a8d9c82043a528da09e76d85", func := "marginalia/marginalialaw1.UtfLong", spec := "utfLong", unfollowed := true, recurses := true, named := ["unicode/utf8.first", "unicode/utf8.acceptRanges"], apart := false, laid := [("unicode/utf8.acceptRanges", laid_unicode_utf8_acceptRanges), ("unicode/utf8.first", laid_unicode_utf8_first)] }
def UtfLongSaid : Prop := utfLongRow.holds Tryd.pinned (OpenSpec.ofChange utfLongSpec)

/-- ITS FALSE NEIGHBOUR: 'it returns false'. Refute it at one input. -/
def utfLongWrong : ChangeSpec := { name := "utfLong", fn := fun _ => fun
  | [d] => { results := [.lit (.bool false)], args := [d] }
  | _ => none }
def UtfLongWrongFalsely : Prop := utfLongRow.holds Tryd.pinned (OpenSpec.ofChange utfLongWrong)

/-- 'marginalialaw1.UtfWrong': WHATEVER THE INPUT: true; the input reads as it did. -/
def utfWrongSpec : ChangeSpec := { name := "utfWrong", fn := fun _ => fun
  | [d] => { results := [.lit (.bool true)], args := [d] }
  | _ => none }
def utfWrongRow : OpenClaim := { program := "ytjaiiojikollmaadoor", sum := "55fe45cf6b793c626c9cd266d7cbd137e518f353a8d9c82043a528da09e76d85", func := "marginalia/marginalialaw1.UtfWrong", spec := "utfWrong", unfollowed := true, recurses := true, named := ["unicode/utf8.first", "unicode/utf8.acceptRanges"], apart := false, laid := [("unicode/utf8.acceptRanges", laid_unicode_utf8_acceptRanges), ("unicode/utf8.first", laid_unicode_utf8_first)] }
def UtfWrongSaid : Prop := utfWrongRow.holds Tryd.pinned (OpenSpec.ofChange utfWrongSpec)

/-- ITS FALSE NEIGHBOUR: 'it returns false'. Refute it at one input. -/
def utfWrongWrong : ChangeSpec := { name := "utfWrong", fn := fun _ => fun
  | [d] => { results := [.lit (.bool false)], args := [d] }
  | _ => none }
def UtfWrongWrongFalsely : Prop := utfWrongRow.holds Tryd.pinned (OpenSpec.ofChange utfWrongWrong)

/-- 'marginalialaw1.UtfBytes': WHATEVER THE INPUT: true; the input reads as it did. -/
def utfBytesSpec : ChangeSpec := { name := "utfBytes", fn := fun _ => fun
  | [d] => { results := [.lit (.bool true)], args := [d] }
  | _ => none }
def utfBytesRow : OpenClaim := { program := "ytjaiiojikollmaadoor", sum := "55fe45cf6b793c626c9cd266d7cbd137e518f353a8d9c82043a528da09e76d85", func := "marginalia/marginalialaw1.UtfBytes", spec := "utfBytes", unfollowed := true, recurses := true, named := ["unicode/utf8.first", "unicode/utf8.acceptRanges"], apart := false, laid := [("unicode/utf8.acceptRanges", laid_unicode_utf8_acceptRanges), ("unicode/utf8.first", laid_unicode_utf8_first)] }
def UtfBytesSaid : Prop := utfBytesRow.holds Tryd.pinned (OpenSpec.ofChange utfBytesSpec)

/-- ITS FALSE NEIGHBOUR: 'it returns false'. Refute it at one input. -/
def utfBytesWrong : ChangeSpec := { name := "utfBytes", fn := fun _ => fun
  | [d] => { results := [.lit (.bool false)], args := [d] }
  | _ => none }
def UtfBytesWrongFalsely : Prop := utfBytesRow.holds Tryd.pinned (OpenSpec.ofChange utfBytesWrong)

/- THE SECOND FORM. 'bulk': how many values and letters a reading holds, each counted each time it is reached (what is shared counts as often as it is met; a slice's spare places count too). A statement '..UptoSaid' is the law's where the arguments, and the package variables that the reading takes, are together of bulk at most 1048576: NARROWER than '..Said'. Prove '..Said' where nothing that the law and all that it calls make is longer than what came in: it says more and counts as full. Else prove '..UptoSaid'. A law counts once. -/
mutual
def uptoBulk {H : Type} : DataW H → Nat
  | .lit (.string bytes) => bytes.length + 1
  | .lit _ => 1
  | .nil => 1
  | .ptr d => uptoBulk d + 1
  | .slice elems spare => uptoBulkAll elems + uptoBulkAll spare + 1
  | .agg parts => uptoBulkAll parts + 1
  | .iface _ d => uptoBulk d + 1
  | .map entries => uptoBulkEntries entries + 1
  | .held _ => 1
def uptoBulkAll {H : Type} : List (DataW H) → Nat
  | [] => 0
  | d :: r => uptoBulk d + uptoBulkAll r
def uptoBulkEntries {H : Type} : List (Lit × DataW H) → Nat
  | [] => 0
  | x :: r => uptoBulkEntry x + uptoBulkEntries r
def uptoBulkEntry {H : Type} : Lit × DataW H → Nat
  | (.string bytes, d) => bytes.length + uptoBulk d + 1
  | (_, d) => uptoBulk d + 1
 end
def uptoSmall : (H : Type) → List (DataW H) → Bool := fun _ ds => decide (uptoBulkAll ds ≤ 1048576)
def OpenSpec.upto (s : _root_.Go.ChangeSpec) : _root_.Go.OpenSpec := { _root_.Go.OpenSpec.ofChange s with cond := some uptoSmall }

/-- 'marginalialaw1.UtfPoints', WHERE WHAT IT READS IS OF BULK AT MOST 1048576: true; the input reads as it did. -/
def utfPointsUptoRow : OpenClaim := { program := "ytjaiiojikollmaadoor", sum := "55fe45cf6b793c626c9cd266d7cbd137e518f353a8d9c82043a528da09e76d85", func := "marginalia/marginalialaw1.UtfPoints", spec := "utfPoints", unfollowed := true, recurses := true, named := ["unicode/utf8.first", "unicode/utf8.acceptRanges"], apart := false, laid := [("unicode/utf8.acceptRanges", laid_unicode_utf8_acceptRanges), ("unicode/utf8.first", laid_unicode_utf8_first)], narrowed := true }
def UtfPointsUptoSaid : Prop := utfPointsUptoRow.holds Tryd.pinned (OpenSpec.upto utfPointsSpec)

/-- 'marginalialaw1.UtfWide', WHERE WHAT IT READS IS OF BULK AT MOST 1048576: true; the input reads as it did. -/
def utfWideUptoRow : OpenClaim := { program := "ytjaiiojikollmaadoor", sum := "55fe45cf6b793c626c9cd266d7cbd137e518f353a8d9c82043a528da09e76d85", func := "marginalia/marginalialaw1.UtfWide", spec := "utfWide", unfollowed := true, recurses := true, named := ["unicode/utf8.first", "unicode/utf8.acceptRanges"], apart := false, laid := [("unicode/utf8.acceptRanges", laid_unicode_utf8_acceptRanges), ("unicode/utf8.first", laid_unicode_utf8_first)], narrowed := true }
def UtfWideUptoSaid : Prop := utfWideUptoRow.holds Tryd.pinned (OpenSpec.upto utfWideSpec)

/-- 'marginalialaw1.UtfLong', WHERE WHAT IT READS IS OF BULK AT MOST 1048576: true; the input reads as it did. -/
def utfLongUptoRow : OpenClaim := { program := "ytjaiiojikollmaadoor", sum := "55fe45cf6b793c626c9cd266d7cbd137e518f353a8d9c82043a528da09e76d85", func := "marginalia/marginalialaw1.UtfLong", spec := "utfLong", unfollowed := true, recurses := true, named := ["unicode/utf8.first", "unicode/utf8.acceptRanges"], apart := false, laid := [("unicode/utf8.acceptRanges", laid_unicode_utf8_acceptRanges), ("unicode/utf8.first", laid_unicode_utf8_first)], narrowed := true }
def UtfLongUptoSaid : Prop := utfLongUptoRow.holds Tryd.pinned (OpenSpec.upto utfLongSpec)

/-- 'marginalialaw1.UtfWrong', WHERE WHAT IT READS IS OF BULK AT MOST 1048576: true; the input reads as it did. -/
def utfWrongUptoRow : OpenClaim := { program := "ytjaiiojikollmaadoor", sum := "55fe45cf6b793c626c9cd266d7cbd137e518f353a8d9c82043a528da09e76d85", func := "marginalia/marginalialaw1.UtfWrong", spec := "utfWrong", unfollowed := true, recurses := true, named := ["unicode/utf8.first", "unicode/utf8.acceptRanges"], apart := false, laid := [("unicode/utf8.acceptRanges", laid_unicode_utf8_acceptRanges), ("unicode/utf8.first", laid_unicode_utf8_first)], narrowed := true }
def UtfWrongUptoSaid : Prop := utfWrongUptoRow.holds Tryd.pinned (OpenSpec.upto utfWrongSpec)

/-- 'marginalialaw1.UtfBytes', WHERE WHAT IT READS IS OF BULK AT MOST 1048576: true; the input reads as it did. -/
def utfBytesUptoRow : OpenClaim := { program := "ytjaiiojikollmaadoor", sum := "55fe45cf6b793c626c9cd266d7cbd137e518f353a8d9c82043a528da09e76d85", func := "marginalia/marginalialaw1.UtfBytes", spec := "utfBytes", unfollowed := true, recurses := true, named := ["unicode/utf8.first", "unicode/utf8.acceptRanges"], apart := false, laid := [("unicode/utf8.acceptRanges", laid_unicode_utf8_acceptRanges), ("unicode/utf8.first", laid_unicode_utf8_first)], narrowed := true }
def UtfBytesUptoSaid : Prop := utfBytesUptoRow.holds Tryd.pinned (OpenSpec.upto utfBytesSpec)

end Rows
end Go.Proofs.YtjaiiojikollmaaDoor
