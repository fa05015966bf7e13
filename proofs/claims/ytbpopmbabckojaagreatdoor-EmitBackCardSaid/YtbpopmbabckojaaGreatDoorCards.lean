/-
  DERIVED. GIVEN WITH THE SEED: THE CARDS: each row of YtbpopmbabckojaaGreatDoorRows.lean that lists a variable, with what it lists TIED to the program's text (the seventh form; the later family's looks); each row that meets fmt, with fmt's text TOLD by the authors' own Lean function (tested against real Go, not proved from fmt's source: count such statements apart). THE CARD IS WHAT COUNTS. Prove the row's statement (the work); the ties are given (YtbpopmbabckojaaGreatDoorTie.lean); close each card by the builder's one call (the guide's Derived/Test/ToyasCard.lean, 'card_holds'). Laid BY PROGRAM, IN A SANDBOX (cutbox-door.mjs). By AI agents, Wed Nov 11 2026. No macro, syntax, notation, axiom, sorry.
-/
import Derived.Test.YtbpopmbabckojaaGreatDoorRows
import GoSem.ClaimSeven
namespace Go.Proofs.YtbpopmbabckojaaGreatDoor
namespace Rows

/-- THE TIED CARD OF 'halfwayhouselaw08.EmitAnswers'. -/
def emitAnswersCard : Claim7 := { stood := { row := emitAnswersRow, standIns := [], harness := (true, "150943c82031bdda57913b4e788a9de0e42b12305ea2599a0cc4c91e71073b90"), looks := true }, kinds := [], alts := [], laidByText := true, laidKinds := [.data, .data, .data, .data, .pinned], laidTests := true, laidLooks := .later }
def EmitAnswersCardSaid : Prop := Claim7.holds Tryz.pinned (.plain (OpenSpec.ofChange emitAnswersSpec)) emitAnswersCard

/-- THE TIED CARD OF 'halfwayhouselaw08.EmitOwn'. -/
def emitOwnCard : Claim7 := { stood := { row := emitOwnRow, standIns := [], harness := (true, "150943c82031bdda57913b4e788a9de0e42b12305ea2599a0cc4c91e71073b90"), looks := true }, kinds := [], alts := [], laidByText := true, laidKinds := [.data, .data, .data, .data, .pinned], laidTests := true, laidLooks := .later }
def EmitOwnCardSaid : Prop := Claim7.holds Tryz.pinned (.plain (OpenSpec.ofChange emitOwnSpec)) emitOwnCard

/-- THE TIED CARD OF 'halfwayhouselaw08.EmitBack'. -/
def emitBackCard : Claim7 := { stood := { row := emitBackRow, standIns := [], harness := (true, "150943c82031bdda57913b4e788a9de0e42b12305ea2599a0cc4c91e71073b90"), looks := true }, kinds := [], alts := [], laidByText := true, laidKinds := [.data, .data, .data, .data, .pinned], laidTests := true, laidLooks := .later }
def EmitBackCardSaid : Prop := Claim7.holds Tryz.pinned (.plain (OpenSpec.ofChange emitBackSpec)) emitBackCard

/-- THE TIED CARD OF 'halfwayhouselaw08.EmitNames'. -/
def emitNamesCard : Claim7 := { stood := { row := emitNamesRow, standIns := [], harness := (true, "150943c82031bdda57913b4e788a9de0e42b12305ea2599a0cc4c91e71073b90"), looks := true }, kinds := [], alts := [], laidByText := true, laidKinds := [.data, .data, .data, .data, .pinned], laidTests := true, laidLooks := .later }
def EmitNamesCardSaid : Prop := Claim7.holds Tryz.pinned (.plain (OpenSpec.ofChange emitNamesSpec)) emitNamesCard

/-- THE TIED CARD OF 'halfwayhouselaw08.EmitCalls'. -/
def emitCallsCard : Claim7 := { stood := { row := emitCallsRow, standIns := [], harness := (true, "150943c82031bdda57913b4e788a9de0e42b12305ea2599a0cc4c91e71073b90"), looks := true }, kinds := [], alts := [], laidByText := true, laidKinds := [.data, .data, .data, .data, .pinned], laidTests := true, laidLooks := .later }
def EmitCallsCardSaid : Prop := Claim7.holds Tryz.pinned (.plain (OpenSpec.ofChange emitCallsSpec)) emitCallsCard

/-- THE SECOND FORM's CARD OF 'halfwayhouselaw08.EmitAnswers'. -/
def emitAnswersUptoCard : Claim7 := { stood := { row := emitAnswersUptoRow, standIns := [], harness := (true, "150943c82031bdda57913b4e788a9de0e42b12305ea2599a0cc4c91e71073b90"), looks := true }, kinds := [], alts := [], laidByText := true, laidKinds := [.data, .data, .data, .data, .pinned], laidTests := true, laidLooks := .later }
def EmitAnswersUptoCardSaid : Prop := Claim7.holds Tryz.pinned (.plain (OpenSpec.upto emitAnswersSpec)) emitAnswersUptoCard

/-- THE SECOND FORM's CARD OF 'halfwayhouselaw08.EmitOwn'. -/
def emitOwnUptoCard : Claim7 := { stood := { row := emitOwnUptoRow, standIns := [], harness := (true, "150943c82031bdda57913b4e788a9de0e42b12305ea2599a0cc4c91e71073b90"), looks := true }, kinds := [], alts := [], laidByText := true, laidKinds := [.data, .data, .data, .data, .pinned], laidTests := true, laidLooks := .later }
def EmitOwnUptoCardSaid : Prop := Claim7.holds Tryz.pinned (.plain (OpenSpec.upto emitOwnSpec)) emitOwnUptoCard

/-- THE SECOND FORM's CARD OF 'halfwayhouselaw08.EmitBack'. -/
def emitBackUptoCard : Claim7 := { stood := { row := emitBackUptoRow, standIns := [], harness := (true, "150943c82031bdda57913b4e788a9de0e42b12305ea2599a0cc4c91e71073b90"), looks := true }, kinds := [], alts := [], laidByText := true, laidKinds := [.data, .data, .data, .data, .pinned], laidTests := true, laidLooks := .later }
def EmitBackUptoCardSaid : Prop := Claim7.holds Tryz.pinned (.plain (OpenSpec.upto emitBackSpec)) emitBackUptoCard

/-- THE SECOND FORM's CARD OF 'halfwayhouselaw08.EmitNames'. -/
def emitNamesUptoCard : Claim7 := { stood := { row := emitNamesUptoRow, standIns := [], harness := (true, "150943c82031bdda57913b4e788a9de0e42b12305ea2599a0cc4c91e71073b90"), looks := true }, kinds := [], alts := [], laidByText := true, laidKinds := [.data, .data, .data, .data, .pinned], laidTests := true, laidLooks := .later }
def EmitNamesUptoCardSaid : Prop := Claim7.holds Tryz.pinned (.plain (OpenSpec.upto emitNamesSpec)) emitNamesUptoCard

/-- THE SECOND FORM's CARD OF 'halfwayhouselaw08.EmitCalls'. -/
def emitCallsUptoCard : Claim7 := { stood := { row := emitCallsUptoRow, standIns := [], harness := (true, "150943c82031bdda57913b4e788a9de0e42b12305ea2599a0cc4c91e71073b90"), looks := true }, kinds := [], alts := [], laidByText := true, laidKinds := [.data, .data, .data, .data, .pinned], laidTests := true, laidLooks := .later }
def EmitCallsUptoCardSaid : Prop := Claim7.holds Tryz.pinned (.plain (OpenSpec.upto emitCallsSpec)) emitCallsUptoCard
end Rows
end Go.Proofs.YtbpopmbabckojaaGreatDoor
