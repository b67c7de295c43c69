/-
  DERIVED. GIVEN WITH THE SEED: THE CARDS: each row of YtnddpppljnjmcaaGreatDoorRows.lean that lists a variable, with what it lists TIED to the program's text (the seventh form; the later family's looks); each row that meets fmt, with fmt's text TOLD by the authors' own Lean function (tested against real Go, not proved from fmt's source: count such statements apart). THE CARD IS WHAT COUNTS. Prove the row's statement (the work); the ties are given (YtnddpppljnjmcaaGreatDoorTie.lean); close each card by the builder's one call (the guide's Derived/Test/ToyasCard.lean, 'card_holds'). Laid BY PROGRAM, IN A SANDBOX (cutbox-door.mjs). By AI agents, Wed Nov 11 2026. No macro, syntax, notation, axiom, sorry.
-/
import Derived.Test.YtnddpppljnjmcaaGreatDoorRows
import GoSem.ClaimSeven
namespace Go.Proofs.YtnddpppljnjmcaaGreatDoor
namespace Rows

/-- THE TIED CARD OF 'marginalialaw20.SameLaws'. -/
def sameLawsCard : Claim7 := { stood := { row := sameLawsRow, standIns := [], harness := (true, "395c1735d1f40614b60adc0b52107bacaa94cc9dd79c31152037534c2cd93bd4"), looks := true }, kinds := [], alts := [], laidByText := true, laidKinds := [.data, .data, .data, .data, .sentinel, .sentinel, .pinned], laidTests := true, laidLooks := .later }
def SameLawsCardSaid : Prop := Claim7.holds Tryz.pinned (.plain (OpenSpec.ofChange sameLawsSpec)) sameLawsCard

/-- THE TIED CARD OF 'marginalialaw20.SameRings'. -/
def sameRingsCard : Claim7 := { stood := { row := sameRingsRow, standIns := [], harness := (true, "395c1735d1f40614b60adc0b52107bacaa94cc9dd79c31152037534c2cd93bd4"), looks := true }, kinds := [], alts := [], laidByText := true, laidKinds := [.data, .data, .data, .data, .sentinel, .sentinel, .pinned], laidTests := true, laidLooks := .later }
def SameRingsCardSaid : Prop := Claim7.holds Tryz.pinned (.plain (OpenSpec.ofChange sameRingsSpec)) sameRingsCard

/-- THE TIED CARD OF 'marginalialaw20.SameKinds'. -/
def sameKindsCard : Claim7 := { stood := { row := sameKindsRow, standIns := [], harness := (true, "395c1735d1f40614b60adc0b52107bacaa94cc9dd79c31152037534c2cd93bd4"), looks := true }, kinds := [], alts := [], laidByText := true, laidKinds := [.data, .data, .data, .data, .sentinel, .sentinel, .pinned], laidTests := true, laidLooks := .later }
def SameKindsCardSaid : Prop := Claim7.holds Tryz.pinned (.plain (OpenSpec.ofChange sameKindsSpec)) sameKindsCard

/-- THE TIED CARD OF 'marginalialaw20.SameTells'. -/
def sameTellsCard : Claim7 := { stood := { row := sameTellsRow, standIns := [], harness := (true, "395c1735d1f40614b60adc0b52107bacaa94cc9dd79c31152037534c2cd93bd4"), looks := true }, kinds := [], alts := [], laidByText := true, laidKinds := [.data, .data, .data, .data, .sentinel, .sentinel, .pinned], laidTests := true, laidLooks := .later }
def SameTellsCardSaid : Prop := Claim7.holds Tryz.pinned (.plain (OpenSpec.ofChange sameTellsSpec)) sameTellsCard

/-- THE TIED CARD OF 'marginalialaw20.SameTwice'. -/
def sameTwiceCard : Claim7 := { stood := { row := sameTwiceRow, standIns := [], harness := (true, "395c1735d1f40614b60adc0b52107bacaa94cc9dd79c31152037534c2cd93bd4"), looks := true }, kinds := [], alts := [], laidByText := true, laidKinds := [.data, .data, .data, .data, .sentinel, .sentinel, .pinned], laidTests := true, laidLooks := .later }
def SameTwiceCardSaid : Prop := Claim7.holds Tryz.pinned (.plain (OpenSpec.ofChange sameTwiceSpec)) sameTwiceCard

/-- THE SECOND FORM's CARD OF 'marginalialaw20.SameLaws'. -/
def sameLawsUptoCard : Claim7 := { stood := { row := sameLawsUptoRow, standIns := [], harness := (true, "395c1735d1f40614b60adc0b52107bacaa94cc9dd79c31152037534c2cd93bd4"), looks := true }, kinds := [], alts := [], laidByText := true, laidKinds := [.data, .data, .data, .data, .sentinel, .sentinel, .pinned], laidTests := true, laidLooks := .later }
def SameLawsUptoCardSaid : Prop := Claim7.holds Tryz.pinned (.plain (OpenSpec.upto sameLawsSpec)) sameLawsUptoCard

/-- THE SECOND FORM's CARD OF 'marginalialaw20.SameRings'. -/
def sameRingsUptoCard : Claim7 := { stood := { row := sameRingsUptoRow, standIns := [], harness := (true, "395c1735d1f40614b60adc0b52107bacaa94cc9dd79c31152037534c2cd93bd4"), looks := true }, kinds := [], alts := [], laidByText := true, laidKinds := [.data, .data, .data, .data, .sentinel, .sentinel, .pinned], laidTests := true, laidLooks := .later }
def SameRingsUptoCardSaid : Prop := Claim7.holds Tryz.pinned (.plain (OpenSpec.upto sameRingsSpec)) sameRingsUptoCard

/-- THE SECOND FORM's CARD OF 'marginalialaw20.SameKinds'. -/
def sameKindsUptoCard : Claim7 := { stood := { row := sameKindsUptoRow, standIns := [], harness := (true, "395c1735d1f40614b60adc0b52107bacaa94cc9dd79c31152037534c2cd93bd4"), looks := true }, kinds := [], alts := [], laidByText := true, laidKinds := [.data, .data, .data, .data, .sentinel, .sentinel, .pinned], laidTests := true, laidLooks := .later }
def SameKindsUptoCardSaid : Prop := Claim7.holds Tryz.pinned (.plain (OpenSpec.upto sameKindsSpec)) sameKindsUptoCard

/-- THE SECOND FORM's CARD OF 'marginalialaw20.SameTells'. -/
def sameTellsUptoCard : Claim7 := { stood := { row := sameTellsUptoRow, standIns := [], harness := (true, "395c1735d1f40614b60adc0b52107bacaa94cc9dd79c31152037534c2cd93bd4"), looks := true }, kinds := [], alts := [], laidByText := true, laidKinds := [.data, .data, .data, .data, .sentinel, .sentinel, .pinned], laidTests := true, laidLooks := .later }
def SameTellsUptoCardSaid : Prop := Claim7.holds Tryz.pinned (.plain (OpenSpec.upto sameTellsSpec)) sameTellsUptoCard

/-- THE SECOND FORM's CARD OF 'marginalialaw20.SameTwice'. -/
def sameTwiceUptoCard : Claim7 := { stood := { row := sameTwiceUptoRow, standIns := [], harness := (true, "395c1735d1f40614b60adc0b52107bacaa94cc9dd79c31152037534c2cd93bd4"), looks := true }, kinds := [], alts := [], laidByText := true, laidKinds := [.data, .data, .data, .data, .sentinel, .sentinel, .pinned], laidTests := true, laidLooks := .later }
def SameTwiceUptoCardSaid : Prop := Claim7.holds Tryz.pinned (.plain (OpenSpec.upto sameTwiceSpec)) sameTwiceUptoCard
end Rows
end Go.Proofs.YtnddpppljnjmcaaGreatDoor
