/-
  DERIVED. GIVEN WITH THE SEED: THE CARDS: each row of YtbhpcmbbbomknaaGreatDoorRows.lean that lists a variable, with what it lists TIED to the program's text (the seventh form; the later family's looks); each row that meets fmt, with fmt's text TOLD by the authors' own Lean function (tested against real Go, not proved from fmt's source: count such statements apart). THE CARD IS WHAT COUNTS. Prove the row's statement (the work); the ties are given (YtbhpcmbbbomknaaGreatDoorTie.lean); close each card by the builder's one call (the guide's Derived/Test/ToyasCard.lean, 'card_holds'). Laid BY PROGRAM, IN A SANDBOX (cutbox-door.mjs). By AI agents, Wed Nov 11 2026. No macro, syntax, notation, axiom, sorry.
-/
import Derived.Test.YtbhpcmbbbomknaaGreatDoorRows
import GoSem.ClaimSeven
namespace Go.Proofs.YtbhpcmbbbomknaaGreatDoor
namespace Rows

/-- THE TIED CARD OF 'halfwayhouselaw01.TokenQuoted'. -/
def tokenQuotedCard : Claim7 := { stood := { row := tokenQuotedRow, standIns := [], harness := (true, "c9bbfb513b678c6d384d47725c74963c49713bede4201fee94b8d7a43e4f6333"), looks := true }, kinds := [], alts := [], laidByText := true, laidKinds := [.data, .data, .data, .data, .pinned], laidTests := true, laidLooks := .later }
def TokenQuotedCardSaid : Prop := Claim7.holds Tryz.pinned (.plain (OpenSpec.ofChange tokenQuotedSpec)) tokenQuotedCard

/-- THE TIED CARD OF 'halfwayhouselaw01.TokenBack'. -/
def tokenBackCard : Claim7 := { stood := { row := tokenBackRow, standIns := [], harness := (true, "c9bbfb513b678c6d384d47725c74963c49713bede4201fee94b8d7a43e4f6333"), looks := true }, kinds := [], alts := [], laidByText := true, laidKinds := [.data, .data, .data, .data, .sentinel, .sentinel, .pinned], laidTests := true, laidLooks := .later }
def TokenBackCardSaid : Prop := Claim7.holds Tryz.pinned (.plain (OpenSpec.ofChange tokenBackSpec)) tokenBackCard

/-- THE TIED CARD OF 'halfwayhouselaw01.TokenNames'. -/
def tokenNamesCard : Claim7 := { stood := { row := tokenNamesRow, standIns := [], harness := (true, "c9bbfb513b678c6d384d47725c74963c49713bede4201fee94b8d7a43e4f6333"), looks := true }, kinds := [], alts := [], laidByText := true, laidKinds := [.data, .data, .data, .data, .sentinel, .sentinel, .pinned], laidTests := true, laidLooks := .later }
def TokenNamesCardSaid : Prop := Claim7.holds Tryz.pinned (.plain (OpenSpec.ofChange tokenNamesSpec)) tokenNamesCard

/-- THE SECOND FORM's CARD OF 'halfwayhouselaw01.TokenQuoted'. -/
def tokenQuotedUptoCard : Claim7 := { stood := { row := tokenQuotedUptoRow, standIns := [], harness := (true, "c9bbfb513b678c6d384d47725c74963c49713bede4201fee94b8d7a43e4f6333"), looks := true }, kinds := [], alts := [], laidByText := true, laidKinds := [.data, .data, .data, .data, .pinned], laidTests := true, laidLooks := .later }
def TokenQuotedUptoCardSaid : Prop := Claim7.holds Tryz.pinned (.plain (OpenSpec.upto tokenQuotedSpec)) tokenQuotedUptoCard

/-- THE SECOND FORM's CARD OF 'halfwayhouselaw01.TokenBack'. -/
def tokenBackUptoCard : Claim7 := { stood := { row := tokenBackUptoRow, standIns := [], harness := (true, "c9bbfb513b678c6d384d47725c74963c49713bede4201fee94b8d7a43e4f6333"), looks := true }, kinds := [], alts := [], laidByText := true, laidKinds := [.data, .data, .data, .data, .sentinel, .sentinel, .pinned], laidTests := true, laidLooks := .later }
def TokenBackUptoCardSaid : Prop := Claim7.holds Tryz.pinned (.plain (OpenSpec.upto tokenBackSpec)) tokenBackUptoCard

/-- THE SECOND FORM's CARD OF 'halfwayhouselaw01.TokenNames'. -/
def tokenNamesUptoCard : Claim7 := { stood := { row := tokenNamesUptoRow, standIns := [], harness := (true, "c9bbfb513b678c6d384d47725c74963c49713bede4201fee94b8d7a43e4f6333"), looks := true }, kinds := [], alts := [], laidByText := true, laidKinds := [.data, .data, .data, .data, .sentinel, .sentinel, .pinned], laidTests := true, laidLooks := .later }
def TokenNamesUptoCardSaid : Prop := Claim7.holds Tryz.pinned (.plain (OpenSpec.upto tokenNamesSpec)) tokenNamesUptoCard
end Rows
end Go.Proofs.YtbhpcmbbbomknaaGreatDoor
