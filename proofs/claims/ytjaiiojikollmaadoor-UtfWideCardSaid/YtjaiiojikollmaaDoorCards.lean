/-
  DERIVED. GIVEN WITH THE SEED: THE CARDS: each row of YtjaiiojikollmaaDoorRows.lean that lists a variable, with what it lists TIED to the program's text (the seventh form; the later family's looks); each row that meets fmt, with fmt's text TOLD by the authors' own Lean function (tested against real Go, not proved from fmt's source: count such statements apart). THE CARD IS WHAT COUNTS. Prove the row's statement (the work); the ties are given (YtjaiiojikollmaaDoorTie.lean); close each card by the builder's one call (the guide's Derived/Test/ToyasCard.lean, 'card_holds'). Laid BY PROGRAM, IN A SANDBOX (cutbox-door.mjs). By AI agents, Wed Nov 11 2026. No macro, syntax, notation, axiom, sorry.
-/
import Derived.Test.YtjaiiojikollmaaDoorRows
import GoSem.ClaimSeven
namespace Go.Proofs.YtjaiiojikollmaaDoor
namespace Rows

/-- THE TIED CARD OF 'marginalialaw1.UtfPoints'. -/
def utfPointsCard : Claim7 := { stood := { row := utfPointsRow, standIns := [], harness := (true, "0c9780cbc520b66bbb8f6ca56c5180ff45fec871a831e5afd37c1503c81d530c"), looks := false }, kinds := [], alts := [], laidByText := true, laidKinds := [.data, .pinned], laidTests := true, laidLooks := .later }
def UtfPointsCardSaid : Prop := Claim7.holds Tryd.pinned (.plain (OpenSpec.ofChange utfPointsSpec)) utfPointsCard

/-- THE TIED CARD OF 'marginalialaw1.UtfWide'. -/
def utfWideCard : Claim7 := { stood := { row := utfWideRow, standIns := [], harness := (true, "0c9780cbc520b66bbb8f6ca56c5180ff45fec871a831e5afd37c1503c81d530c"), looks := false }, kinds := [], alts := [], laidByText := true, laidKinds := [.data, .pinned], laidTests := true, laidLooks := .later }
def UtfWideCardSaid : Prop := Claim7.holds Tryd.pinned (.plain (OpenSpec.ofChange utfWideSpec)) utfWideCard

/-- THE TIED CARD OF 'marginalialaw1.UtfLong'. -/
def utfLongCard : Claim7 := { stood := { row := utfLongRow, standIns := [], harness := (true, "0c9780cbc520b66bbb8f6ca56c5180ff45fec871a831e5afd37c1503c81d530c"), looks := false }, kinds := [], alts := [], laidByText := true, laidKinds := [.data, .pinned], laidTests := true, laidLooks := .later }
def UtfLongCardSaid : Prop := Claim7.holds Tryd.pinned (.plain (OpenSpec.ofChange utfLongSpec)) utfLongCard

/-- THE TIED CARD OF 'marginalialaw1.UtfWrong'. -/
def utfWrongCard : Claim7 := { stood := { row := utfWrongRow, standIns := [], harness := (true, "0c9780cbc520b66bbb8f6ca56c5180ff45fec871a831e5afd37c1503c81d530c"), looks := false }, kinds := [], alts := [], laidByText := true, laidKinds := [.data, .pinned], laidTests := true, laidLooks := .later }
def UtfWrongCardSaid : Prop := Claim7.holds Tryd.pinned (.plain (OpenSpec.ofChange utfWrongSpec)) utfWrongCard

/-- THE TIED CARD OF 'marginalialaw1.UtfBytes'. -/
def utfBytesCard : Claim7 := { stood := { row := utfBytesRow, standIns := [], harness := (true, "0c9780cbc520b66bbb8f6ca56c5180ff45fec871a831e5afd37c1503c81d530c"), looks := false }, kinds := [], alts := [], laidByText := true, laidKinds := [.data, .pinned], laidTests := true, laidLooks := .later }
def UtfBytesCardSaid : Prop := Claim7.holds Tryd.pinned (.plain (OpenSpec.ofChange utfBytesSpec)) utfBytesCard

/-- THE SECOND FORM's CARD OF 'marginalialaw1.UtfPoints'. -/
def utfPointsUptoCard : Claim7 := { stood := { row := utfPointsUptoRow, standIns := [], harness := (true, "0c9780cbc520b66bbb8f6ca56c5180ff45fec871a831e5afd37c1503c81d530c"), looks := false }, kinds := [], alts := [], laidByText := true, laidKinds := [.data, .pinned], laidTests := true, laidLooks := .later }
def UtfPointsUptoCardSaid : Prop := Claim7.holds Tryd.pinned (.plain (OpenSpec.upto utfPointsSpec)) utfPointsUptoCard

/-- THE SECOND FORM's CARD OF 'marginalialaw1.UtfWide'. -/
def utfWideUptoCard : Claim7 := { stood := { row := utfWideUptoRow, standIns := [], harness := (true, "0c9780cbc520b66bbb8f6ca56c5180ff45fec871a831e5afd37c1503c81d530c"), looks := false }, kinds := [], alts := [], laidByText := true, laidKinds := [.data, .pinned], laidTests := true, laidLooks := .later }
def UtfWideUptoCardSaid : Prop := Claim7.holds Tryd.pinned (.plain (OpenSpec.upto utfWideSpec)) utfWideUptoCard

/-- THE SECOND FORM's CARD OF 'marginalialaw1.UtfLong'. -/
def utfLongUptoCard : Claim7 := { stood := { row := utfLongUptoRow, standIns := [], harness := (true, "0c9780cbc520b66bbb8f6ca56c5180ff45fec871a831e5afd37c1503c81d530c"), looks := false }, kinds := [], alts := [], laidByText := true, laidKinds := [.data, .pinned], laidTests := true, laidLooks := .later }
def UtfLongUptoCardSaid : Prop := Claim7.holds Tryd.pinned (.plain (OpenSpec.upto utfLongSpec)) utfLongUptoCard

/-- THE SECOND FORM's CARD OF 'marginalialaw1.UtfWrong'. -/
def utfWrongUptoCard : Claim7 := { stood := { row := utfWrongUptoRow, standIns := [], harness := (true, "0c9780cbc520b66bbb8f6ca56c5180ff45fec871a831e5afd37c1503c81d530c"), looks := false }, kinds := [], alts := [], laidByText := true, laidKinds := [.data, .pinned], laidTests := true, laidLooks := .later }
def UtfWrongUptoCardSaid : Prop := Claim7.holds Tryd.pinned (.plain (OpenSpec.upto utfWrongSpec)) utfWrongUptoCard

/-- THE SECOND FORM's CARD OF 'marginalialaw1.UtfBytes'. -/
def utfBytesUptoCard : Claim7 := { stood := { row := utfBytesUptoRow, standIns := [], harness := (true, "0c9780cbc520b66bbb8f6ca56c5180ff45fec871a831e5afd37c1503c81d530c"), looks := false }, kinds := [], alts := [], laidByText := true, laidKinds := [.data, .pinned], laidTests := true, laidLooks := .later }
def UtfBytesUptoCardSaid : Prop := Claim7.holds Tryd.pinned (.plain (OpenSpec.upto utfBytesSpec)) utfBytesUptoCard
end Rows
end Go.Proofs.YtjaiiojikollmaaDoor
