/-
  DERIVED. GIVEN WITH THE SEED: THE CARDS: each row of YtfkobhagdjaleaaGreatDoorRows.lean that lists a variable, with what it lists TIED to the program's text (the seventh form; the later family's looks); each row that meets fmt, with fmt's text TOLD by the authors' own Lean function (tested against real Go, not proved from fmt's source: count such statements apart). THE CARD IS WHAT COUNTS. Prove the row's statement (the work); the ties are given (YtfkobhagdjaleaaGreatDoorTie.lean); close each card by the builder's one call (the guide's Derived/Test/ToyasCard.lean, 'card_holds'). Laid BY PROGRAM, IN A SANDBOX (cutbox-door.mjs). By AI agents, Wed Nov 11 2026. No macro, syntax, notation, axiom, sorry.
-/
import Derived.Test.YtfkobhagdjaleaaGreatDoorRows
import GoSem.ClaimSeven
namespace Go.Proofs.YtfkobhagdjaleaaGreatDoor
namespace Rows

/-- THE TIED CARD OF 'halfwayhouselaw03.StartNames'. -/
def startNamesCard : Claim7 := { stood := { row := startNamesRow, standIns := [], harness := (true, "510ff0610403ba27fee14cae61b8f40fcfe659fb3593a2a18b787a85f5c8ba5d"), looks := true }, kinds := [], alts := [], laidByText := true, laidKinds := [.data, .data, .data, .data, .sentinel, .sentinel, .pinned], laidTests := true, laidLooks := .later }
def StartNamesCardSaid : Prop := Claim7.holds Tryz.pinned (.plain (OpenSpec.ofChange startNamesSpec)) startNamesCard

/-- THE TIED CARD OF 'halfwayhouselaw03.StartCalls'. -/
def startCallsCard : Claim7 := { stood := { row := startCallsRow, standIns := [], harness := (true, "510ff0610403ba27fee14cae61b8f40fcfe659fb3593a2a18b787a85f5c8ba5d"), looks := true }, kinds := [], alts := [], laidByText := true, laidKinds := [.data, .data, .data, .data, .sentinel, .sentinel, .pinned], laidTests := true, laidLooks := .later }
def StartCallsCardSaid : Prop := Claim7.holds Tryz.pinned (.plain (OpenSpec.ofChange startCallsSpec)) startCallsCard

/-- THE TIED CARD OF 'halfwayhouselaw03.StartBack'. -/
def startBackCard : Claim7 := { stood := { row := startBackRow, standIns := [], harness := (true, "510ff0610403ba27fee14cae61b8f40fcfe659fb3593a2a18b787a85f5c8ba5d"), looks := true }, kinds := [], alts := [], laidByText := true, laidKinds := [.data, .data, .data, .data, .sentinel, .sentinel, .pinned], laidTests := true, laidLooks := .later }
def StartBackCardSaid : Prop := Claim7.holds Tryz.pinned (.plain (OpenSpec.ofChange startBackSpec)) startBackCard

/-- THE SECOND FORM's CARD OF 'halfwayhouselaw03.StartNames'. -/
def startNamesUptoCard : Claim7 := { stood := { row := startNamesUptoRow, standIns := [], harness := (true, "510ff0610403ba27fee14cae61b8f40fcfe659fb3593a2a18b787a85f5c8ba5d"), looks := true }, kinds := [], alts := [], laidByText := true, laidKinds := [.data, .data, .data, .data, .sentinel, .sentinel, .pinned], laidTests := true, laidLooks := .later }
def StartNamesUptoCardSaid : Prop := Claim7.holds Tryz.pinned (.plain (OpenSpec.upto startNamesSpec)) startNamesUptoCard

/-- THE SECOND FORM's CARD OF 'halfwayhouselaw03.StartCalls'. -/
def startCallsUptoCard : Claim7 := { stood := { row := startCallsUptoRow, standIns := [], harness := (true, "510ff0610403ba27fee14cae61b8f40fcfe659fb3593a2a18b787a85f5c8ba5d"), looks := true }, kinds := [], alts := [], laidByText := true, laidKinds := [.data, .data, .data, .data, .sentinel, .sentinel, .pinned], laidTests := true, laidLooks := .later }
def StartCallsUptoCardSaid : Prop := Claim7.holds Tryz.pinned (.plain (OpenSpec.upto startCallsSpec)) startCallsUptoCard

/-- THE SECOND FORM's CARD OF 'halfwayhouselaw03.StartBack'. -/
def startBackUptoCard : Claim7 := { stood := { row := startBackUptoRow, standIns := [], harness := (true, "510ff0610403ba27fee14cae61b8f40fcfe659fb3593a2a18b787a85f5c8ba5d"), looks := true }, kinds := [], alts := [], laidByText := true, laidKinds := [.data, .data, .data, .data, .sentinel, .sentinel, .pinned], laidTests := true, laidLooks := .later }
def StartBackUptoCardSaid : Prop := Claim7.holds Tryz.pinned (.plain (OpenSpec.upto startBackSpec)) startBackUptoCard
end Rows
end Go.Proofs.YtfkobhagdjaleaaGreatDoor
