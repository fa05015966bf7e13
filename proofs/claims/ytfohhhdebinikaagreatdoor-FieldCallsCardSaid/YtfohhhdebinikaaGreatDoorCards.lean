/-
  DERIVED. GIVEN WITH THE SEED: THE CARDS: each row of YtfohhhdebinikaaGreatDoorRows.lean that lists a variable, with what it lists TIED to the program's text (the seventh form; the later family's looks); each row that meets fmt, with fmt's text TOLD by the authors' own Lean function (tested against real Go, not proved from fmt's source: count such statements apart). THE CARD IS WHAT COUNTS. Prove the row's statement (the work); the ties are given (YtfohhhdebinikaaGreatDoorTie.lean); close each card by the builder's one call (the guide's Derived/Test/ToyasCard.lean, 'card_holds'). Laid BY PROGRAM, IN A SANDBOX (cutbox-door.mjs). By AI agents, Wed Nov 11 2026. No macro, syntax, notation, axiom, sorry.
-/
import Derived.Test.YtfohhhdebinikaaGreatDoorRows
import GoSem.ClaimSeven
namespace Go.Proofs.YtfohhhdebinikaaGreatDoor
namespace Rows

/-- THE TIED CARD OF 'halfwayhouselaw02.FieldBack'. -/
def fieldBackCard : Claim7 := { stood := { row := fieldBackRow, standIns := [], harness := (true, "e52232ef627bfcf5be220781a130e86afa1dbfe2f9c5b9e9ea18606a3c4c1124"), looks := true }, kinds := [], alts := [], laidByText := true, laidKinds := [.data, .pinned], laidTests := true, laidLooks := .later }
def FieldBackCardSaid : Prop := Claim7.holds Tryz.pinned (.plain (OpenSpec.ofChange fieldBackSpec)) fieldBackCard

/-- THE TIED CARD OF 'halfwayhouselaw02.FieldJoins'. -/
def fieldJoinsCard : Claim7 := { stood := { row := fieldJoinsRow, standIns := [], harness := (true, "e52232ef627bfcf5be220781a130e86afa1dbfe2f9c5b9e9ea18606a3c4c1124"), looks := true }, kinds := [], alts := [], laidByText := true, laidKinds := [.data, .pinned], laidTests := true, laidLooks := .later }
def FieldJoinsCardSaid : Prop := Claim7.holds Tryz.pinned (.plain (OpenSpec.ofChange fieldJoinsSpec)) fieldJoinsCard

/-- THE TIED CARD OF 'halfwayhouselaw02.FieldNamed'. -/
def fieldNamedCard : Claim7 := { stood := { row := fieldNamedRow, standIns := [], harness := (true, "e52232ef627bfcf5be220781a130e86afa1dbfe2f9c5b9e9ea18606a3c4c1124"), looks := true }, kinds := [], alts := [], laidByText := true, laidKinds := [.data, .pinned], laidTests := true, laidLooks := .later }
def FieldNamedCardSaid : Prop := Claim7.holds Tryz.pinned (.plain (OpenSpec.ofChange fieldNamedSpec)) fieldNamedCard

/-- THE TIED CARD OF 'halfwayhouselaw02.FieldSets'. -/
def fieldSetsCard : Claim7 := { stood := { row := fieldSetsRow, standIns := [], harness := (true, "e52232ef627bfcf5be220781a130e86afa1dbfe2f9c5b9e9ea18606a3c4c1124"), looks := true }, kinds := [], alts := [], laidByText := true, laidKinds := [.data, .pinned], laidTests := true, laidLooks := .later }
def FieldSetsCardSaid : Prop := Claim7.holds Tryz.pinned (.plain (OpenSpec.ofChange fieldSetsSpec)) fieldSetsCard

/-- THE TIED CARD OF 'halfwayhouselaw02.FieldNames'. -/
def fieldNamesCard : Claim7 := { stood := { row := fieldNamesRow, standIns := [], harness := (true, "e52232ef627bfcf5be220781a130e86afa1dbfe2f9c5b9e9ea18606a3c4c1124"), looks := true }, kinds := [], alts := [], laidByText := true, laidKinds := [.data, .pinned], laidTests := true, laidLooks := .later }
def FieldNamesCardSaid : Prop := Claim7.holds Tryz.pinned (.plain (OpenSpec.ofChange fieldNamesSpec)) fieldNamesCard

/-- THE TIED CARD OF 'halfwayhouselaw02.FieldCalls'. -/
def fieldCallsCard : Claim7 := { stood := { row := fieldCallsRow, standIns := [], harness := (true, "e52232ef627bfcf5be220781a130e86afa1dbfe2f9c5b9e9ea18606a3c4c1124"), looks := true }, kinds := [], alts := [], laidByText := true, laidKinds := [.data, .pinned], laidTests := true, laidLooks := .later }
def FieldCallsCardSaid : Prop := Claim7.holds Tryz.pinned (.plain (OpenSpec.ofChange fieldCallsSpec)) fieldCallsCard

/-- THE SECOND FORM's CARD OF 'halfwayhouselaw02.FieldBack'. -/
def fieldBackUptoCard : Claim7 := { stood := { row := fieldBackUptoRow, standIns := [], harness := (true, "e52232ef627bfcf5be220781a130e86afa1dbfe2f9c5b9e9ea18606a3c4c1124"), looks := true }, kinds := [], alts := [], laidByText := true, laidKinds := [.data, .pinned], laidTests := true, laidLooks := .later }
def FieldBackUptoCardSaid : Prop := Claim7.holds Tryz.pinned (.plain (OpenSpec.upto fieldBackSpec)) fieldBackUptoCard

/-- THE SECOND FORM's CARD OF 'halfwayhouselaw02.FieldJoins'. -/
def fieldJoinsUptoCard : Claim7 := { stood := { row := fieldJoinsUptoRow, standIns := [], harness := (true, "e52232ef627bfcf5be220781a130e86afa1dbfe2f9c5b9e9ea18606a3c4c1124"), looks := true }, kinds := [], alts := [], laidByText := true, laidKinds := [.data, .pinned], laidTests := true, laidLooks := .later }
def FieldJoinsUptoCardSaid : Prop := Claim7.holds Tryz.pinned (.plain (OpenSpec.upto fieldJoinsSpec)) fieldJoinsUptoCard

/-- THE SECOND FORM's CARD OF 'halfwayhouselaw02.FieldNamed'. -/
def fieldNamedUptoCard : Claim7 := { stood := { row := fieldNamedUptoRow, standIns := [], harness := (true, "e52232ef627bfcf5be220781a130e86afa1dbfe2f9c5b9e9ea18606a3c4c1124"), looks := true }, kinds := [], alts := [], laidByText := true, laidKinds := [.data, .pinned], laidTests := true, laidLooks := .later }
def FieldNamedUptoCardSaid : Prop := Claim7.holds Tryz.pinned (.plain (OpenSpec.upto fieldNamedSpec)) fieldNamedUptoCard

/-- THE SECOND FORM's CARD OF 'halfwayhouselaw02.FieldSets'. -/
def fieldSetsUptoCard : Claim7 := { stood := { row := fieldSetsUptoRow, standIns := [], harness := (true, "e52232ef627bfcf5be220781a130e86afa1dbfe2f9c5b9e9ea18606a3c4c1124"), looks := true }, kinds := [], alts := [], laidByText := true, laidKinds := [.data, .pinned], laidTests := true, laidLooks := .later }
def FieldSetsUptoCardSaid : Prop := Claim7.holds Tryz.pinned (.plain (OpenSpec.upto fieldSetsSpec)) fieldSetsUptoCard

/-- THE SECOND FORM's CARD OF 'halfwayhouselaw02.FieldNames'. -/
def fieldNamesUptoCard : Claim7 := { stood := { row := fieldNamesUptoRow, standIns := [], harness := (true, "e52232ef627bfcf5be220781a130e86afa1dbfe2f9c5b9e9ea18606a3c4c1124"), looks := true }, kinds := [], alts := [], laidByText := true, laidKinds := [.data, .pinned], laidTests := true, laidLooks := .later }
def FieldNamesUptoCardSaid : Prop := Claim7.holds Tryz.pinned (.plain (OpenSpec.upto fieldNamesSpec)) fieldNamesUptoCard

/-- THE SECOND FORM's CARD OF 'halfwayhouselaw02.FieldCalls'. -/
def fieldCallsUptoCard : Claim7 := { stood := { row := fieldCallsUptoRow, standIns := [], harness := (true, "e52232ef627bfcf5be220781a130e86afa1dbfe2f9c5b9e9ea18606a3c4c1124"), looks := true }, kinds := [], alts := [], laidByText := true, laidKinds := [.data, .pinned], laidTests := true, laidLooks := .later }
def FieldCallsUptoCardSaid : Prop := Claim7.holds Tryz.pinned (.plain (OpenSpec.upto fieldCallsSpec)) fieldCallsUptoCard
end Rows
end Go.Proofs.YtfohhhdebinikaaGreatDoor
