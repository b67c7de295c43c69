/-
  DERIVED. GIVEN WITH THE SEED: THE CARDS: each row of YtpobfjjmnemioaaDoorRows.lean that lists a variable, with what it lists TIED to the program's text (the seventh form; the later family's looks); each row that meets fmt, with fmt's text TOLD by the authors' own Lean function (tested against real Go, not proved from fmt's source: count such statements apart). THE CARD IS WHAT COUNTS. Prove the row's statement (the work); the ties are given (YtpobfjjmnemioaaDoorTie.lean); close each card by the builder's one call (the guide's Derived/Test/ToyasCard.lean, 'card_holds'). Laid BY PROGRAM, IN A SANDBOX (cutbox-door.mjs). By AI agents, Wed Nov 11 2026. No macro, syntax, notation, axiom, sorry.
-/
import Derived.Test.YtpobfjjmnemioaaDoorRows
import GoSem.ClaimSeven
namespace Go.Proofs.YtpobfjjmnemioaaDoor
namespace Rows

/-- THE TIED CARD OF 'marginalialaw5.DecimalMoves'. -/
def decimalMovesCard : Claim7 := { stood := { row := decimalMovesRow, standIns := [], harness := (true, "6a30511db9f4e788827fb6c39f9aeb970ac8ef97ae4c9301d5a3461390e6d2a6"), looks := true }, kinds := [], alts := [], laidByText := true, laidKinds := [.data, .data, .data, .data, .sentinel, .sentinel, .pinned], laidTests := true, laidLooks := .later }
def DecimalMovesCardSaid : Prop := Claim7.holds Tryd.pinned (.plain (OpenSpec.ofChange decimalMovesSpec)) decimalMovesCard

/-- THE TIED CARD OF 'marginalialaw5.DecimalTexts'. -/
def decimalTextsCard : Claim7 := { stood := { row := decimalTextsRow, standIns := [], harness := (true, "6a30511db9f4e788827fb6c39f9aeb970ac8ef97ae4c9301d5a3461390e6d2a6"), looks := true }, kinds := [], alts := [], laidByText := true, laidKinds := [.data, .data, .data, .data, .sentinel, .sentinel, .pinned], laidTests := true, laidLooks := .later }
def DecimalTextsCardSaid : Prop := Claim7.holds Tryd.pinned (.plain (OpenSpec.ofChange decimalTextsSpec)) decimalTextsCard

/-- THE TIED CARD OF 'marginalialaw5.DecimalReads'. -/
def decimalReadsCard : Claim7 := { stood := { row := decimalReadsRow, standIns := [], harness := (true, "6a30511db9f4e788827fb6c39f9aeb970ac8ef97ae4c9301d5a3461390e6d2a6"), looks := true }, kinds := [], alts := [], laidByText := true, laidKinds := [.data, .data, .data, .data, .sentinel, .sentinel, .pinned], laidTests := true, laidLooks := .later }
def DecimalReadsCardSaid : Prop := Claim7.holds Tryd.pinned (.plain (OpenSpec.ofChange decimalReadsSpec)) decimalReadsCard

/-- THE TIED CARD OF 'marginalialaw5.DecimalInts'. -/
def decimalIntsCard : Claim7 := { stood := { row := decimalIntsRow, standIns := [], harness := (true, "6a30511db9f4e788827fb6c39f9aeb970ac8ef97ae4c9301d5a3461390e6d2a6"), looks := true }, kinds := [], alts := [], laidByText := true, laidKinds := [.data, .data, .data, .data, .sentinel, .sentinel, .pinned], laidTests := true, laidLooks := .later }
def DecimalIntsCardSaid : Prop := Claim7.holds Tryd.pinned (.plain (OpenSpec.ofChange decimalIntsSpec)) decimalIntsCard

/-- THE TIED CARD OF 'marginalialaw5.DecimalWrong'. -/
def decimalWrongCard : Claim7 := { stood := { row := decimalWrongRow, standIns := [], harness := (true, "6a30511db9f4e788827fb6c39f9aeb970ac8ef97ae4c9301d5a3461390e6d2a6"), looks := true }, kinds := [], alts := [], laidByText := true, laidKinds := [.data, .data, .data, .data, .sentinel, .sentinel, .pinned], laidTests := true, laidLooks := .later }
def DecimalWrongCardSaid : Prop := Claim7.holds Tryd.pinned (.plain (OpenSpec.ofChange decimalWrongSpec)) decimalWrongCard

/-- THE SECOND FORM's CARD OF 'marginalialaw5.DecimalMoves'. -/
def decimalMovesUptoCard : Claim7 := { stood := { row := decimalMovesUptoRow, standIns := [], harness := (true, "6a30511db9f4e788827fb6c39f9aeb970ac8ef97ae4c9301d5a3461390e6d2a6"), looks := true }, kinds := [], alts := [], laidByText := true, laidKinds := [.data, .data, .data, .data, .sentinel, .sentinel, .pinned], laidTests := true, laidLooks := .later }
def DecimalMovesUptoCardSaid : Prop := Claim7.holds Tryd.pinned (.plain (OpenSpec.upto decimalMovesSpec)) decimalMovesUptoCard

/-- THE SECOND FORM's CARD OF 'marginalialaw5.DecimalTexts'. -/
def decimalTextsUptoCard : Claim7 := { stood := { row := decimalTextsUptoRow, standIns := [], harness := (true, "6a30511db9f4e788827fb6c39f9aeb970ac8ef97ae4c9301d5a3461390e6d2a6"), looks := true }, kinds := [], alts := [], laidByText := true, laidKinds := [.data, .data, .data, .data, .sentinel, .sentinel, .pinned], laidTests := true, laidLooks := .later }
def DecimalTextsUptoCardSaid : Prop := Claim7.holds Tryd.pinned (.plain (OpenSpec.upto decimalTextsSpec)) decimalTextsUptoCard

/-- THE SECOND FORM's CARD OF 'marginalialaw5.DecimalReads'. -/
def decimalReadsUptoCard : Claim7 := { stood := { row := decimalReadsUptoRow, standIns := [], harness := (true, "6a30511db9f4e788827fb6c39f9aeb970ac8ef97ae4c9301d5a3461390e6d2a6"), looks := true }, kinds := [], alts := [], laidByText := true, laidKinds := [.data, .data, .data, .data, .sentinel, .sentinel, .pinned], laidTests := true, laidLooks := .later }
def DecimalReadsUptoCardSaid : Prop := Claim7.holds Tryd.pinned (.plain (OpenSpec.upto decimalReadsSpec)) decimalReadsUptoCard

/-- THE SECOND FORM's CARD OF 'marginalialaw5.DecimalInts'. -/
def decimalIntsUptoCard : Claim7 := { stood := { row := decimalIntsUptoRow, standIns := [], harness := (true, "6a30511db9f4e788827fb6c39f9aeb970ac8ef97ae4c9301d5a3461390e6d2a6"), looks := true }, kinds := [], alts := [], laidByText := true, laidKinds := [.data, .data, .data, .data, .sentinel, .sentinel, .pinned], laidTests := true, laidLooks := .later }
def DecimalIntsUptoCardSaid : Prop := Claim7.holds Tryd.pinned (.plain (OpenSpec.upto decimalIntsSpec)) decimalIntsUptoCard

/-- THE SECOND FORM's CARD OF 'marginalialaw5.DecimalWrong'. -/
def decimalWrongUptoCard : Claim7 := { stood := { row := decimalWrongUptoRow, standIns := [], harness := (true, "6a30511db9f4e788827fb6c39f9aeb970ac8ef97ae4c9301d5a3461390e6d2a6"), looks := true }, kinds := [], alts := [], laidByText := true, laidKinds := [.data, .data, .data, .data, .sentinel, .sentinel, .pinned], laidTests := true, laidLooks := .later }
def DecimalWrongUptoCardSaid : Prop := Claim7.holds Tryd.pinned (.plain (OpenSpec.upto decimalWrongSpec)) decimalWrongUptoCard
end Rows
end Go.Proofs.YtpobfjjmnemioaaDoor
