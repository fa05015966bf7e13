/-
  DERIVED. GIVEN WITH THE SEED: THE CARDS: each row of YtkaaeajidejchaaGreatDoorRows.lean that lists a variable, with what it lists TIED to the program's text (the seventh form; the later family's looks); each row that meets fmt, with fmt's text TOLD by the authors' own Lean function (tested against real Go, not proved from fmt's source: count such statements apart). THE CARD IS WHAT COUNTS. Prove the row's statement (the work); the ties are given (YtkaaeajidejchaaGreatDoorTie.lean); close each card by the builder's one call (the guide's Derived/Test/ToyasCard.lean, 'card_holds'). Laid BY PROGRAM, IN A SANDBOX (cutbox-door.mjs). By AI agents, Wed Nov 11 2026. No macro, syntax, notation, axiom, sorry.
-/
import Derived.Test.YtkaaeajidejchaaGreatDoorRows
import GoSem.ClaimSeven
namespace Go.Proofs.YtkaaeajidejchaaGreatDoor
namespace Rows

/-- THE TIED CARD OF 'halfwayhouselaw05.ChunkStays'. -/
def chunkStaysCard : Claim7 := { stood := { row := chunkStaysRow, standIns := [], harness := (true, "246b574670bfcb8329dd0c33c4a12696c3a0cd634e60a816438e84ce57c8954c"), looks := true }, kinds := [], alts := [], laidByText := true, laidKinds := [.data, .data, .data, .data, .sentinel, .sentinel, .pinned], laidTests := true, laidLooks := .later }
def ChunkStaysCardSaid : Prop := Claim7.holds Tryz.pinned (.plain (OpenSpec.ofChange chunkStaysSpec)) chunkStaysCard

/-- THE TIED CARD OF 'halfwayhouselaw05.ChunkSizes'. -/
def chunkSizesCard : Claim7 := { stood := { row := chunkSizesRow, standIns := [], harness := (true, "246b574670bfcb8329dd0c33c4a12696c3a0cd634e60a816438e84ce57c8954c"), looks := true }, kinds := [], alts := [], laidByText := true, laidKinds := [.data, .data, .data, .data, .sentinel, .sentinel, .pinned], laidTests := true, laidLooks := .later }
def ChunkSizesCardSaid : Prop := Claim7.holds Tryz.pinned (.plain (OpenSpec.ofChange chunkSizesSpec)) chunkSizesCard

/-- THE TIED CARD OF 'halfwayhouselaw05.ChunkCuts'. -/
def chunkCutsCard : Claim7 := { stood := { row := chunkCutsRow, standIns := [], harness := (true, "246b574670bfcb8329dd0c33c4a12696c3a0cd634e60a816438e84ce57c8954c"), looks := true }, kinds := [], alts := [], laidByText := true, laidKinds := [.data, .data, .data, .data, .sentinel, .sentinel, .pinned], laidTests := true, laidLooks := .later }
def ChunkCutsCardSaid : Prop := Claim7.holds Tryz.pinned (.plain (OpenSpec.ofChange chunkCutsSpec)) chunkCutsCard

/-- THE TIED CARD OF 'halfwayhouselaw05.ChunkCalls'. -/
def chunkCallsCard : Claim7 := { stood := { row := chunkCallsRow, standIns := [], harness := (true, "246b574670bfcb8329dd0c33c4a12696c3a0cd634e60a816438e84ce57c8954c"), looks := true }, kinds := [], alts := [], laidByText := true, laidKinds := [.data, .data, .data, .data, .sentinel, .sentinel, .pinned], laidTests := true, laidLooks := .later }
def ChunkCallsCardSaid : Prop := Claim7.holds Tryz.pinned (.plain (OpenSpec.ofChange chunkCallsSpec)) chunkCallsCard

/-- THE TIED CARD OF 'halfwayhouselaw05.ChunkNames'. -/
def chunkNamesCard : Claim7 := { stood := { row := chunkNamesRow, standIns := [], harness := (true, "246b574670bfcb8329dd0c33c4a12696c3a0cd634e60a816438e84ce57c8954c"), looks := true }, kinds := [], alts := [], laidByText := true, laidKinds := [.data, .data, .data, .data, .sentinel, .sentinel, .pinned], laidTests := true, laidLooks := .later }
def ChunkNamesCardSaid : Prop := Claim7.holds Tryz.pinned (.plain (OpenSpec.ofChange chunkNamesSpec)) chunkNamesCard

/-- THE TIED CARD OF 'halfwayhouselaw05.ChunkBack'. -/
def chunkBackCard : Claim7 := { stood := { row := chunkBackRow, standIns := [], harness := (true, "246b574670bfcb8329dd0c33c4a12696c3a0cd634e60a816438e84ce57c8954c"), looks := true }, kinds := [], alts := [], laidByText := true, laidKinds := [.data, .data, .data, .data, .sentinel, .sentinel, .pinned], laidTests := true, laidLooks := .later }
def ChunkBackCardSaid : Prop := Claim7.holds Tryz.pinned (.plain (OpenSpec.ofChange chunkBackSpec)) chunkBackCard

/-- THE SECOND FORM's CARD OF 'halfwayhouselaw05.ChunkStays'. -/
def chunkStaysUptoCard : Claim7 := { stood := { row := chunkStaysUptoRow, standIns := [], harness := (true, "246b574670bfcb8329dd0c33c4a12696c3a0cd634e60a816438e84ce57c8954c"), looks := true }, kinds := [], alts := [], laidByText := true, laidKinds := [.data, .data, .data, .data, .sentinel, .sentinel, .pinned], laidTests := true, laidLooks := .later }
def ChunkStaysUptoCardSaid : Prop := Claim7.holds Tryz.pinned (.plain (OpenSpec.upto chunkStaysSpec)) chunkStaysUptoCard

/-- THE SECOND FORM's CARD OF 'halfwayhouselaw05.ChunkSizes'. -/
def chunkSizesUptoCard : Claim7 := { stood := { row := chunkSizesUptoRow, standIns := [], harness := (true, "246b574670bfcb8329dd0c33c4a12696c3a0cd634e60a816438e84ce57c8954c"), looks := true }, kinds := [], alts := [], laidByText := true, laidKinds := [.data, .data, .data, .data, .sentinel, .sentinel, .pinned], laidTests := true, laidLooks := .later }
def ChunkSizesUptoCardSaid : Prop := Claim7.holds Tryz.pinned (.plain (OpenSpec.upto chunkSizesSpec)) chunkSizesUptoCard

/-- THE SECOND FORM's CARD OF 'halfwayhouselaw05.ChunkCuts'. -/
def chunkCutsUptoCard : Claim7 := { stood := { row := chunkCutsUptoRow, standIns := [], harness := (true, "246b574670bfcb8329dd0c33c4a12696c3a0cd634e60a816438e84ce57c8954c"), looks := true }, kinds := [], alts := [], laidByText := true, laidKinds := [.data, .data, .data, .data, .sentinel, .sentinel, .pinned], laidTests := true, laidLooks := .later }
def ChunkCutsUptoCardSaid : Prop := Claim7.holds Tryz.pinned (.plain (OpenSpec.upto chunkCutsSpec)) chunkCutsUptoCard

/-- THE SECOND FORM's CARD OF 'halfwayhouselaw05.ChunkCalls'. -/
def chunkCallsUptoCard : Claim7 := { stood := { row := chunkCallsUptoRow, standIns := [], harness := (true, "246b574670bfcb8329dd0c33c4a12696c3a0cd634e60a816438e84ce57c8954c"), looks := true }, kinds := [], alts := [], laidByText := true, laidKinds := [.data, .data, .data, .data, .sentinel, .sentinel, .pinned], laidTests := true, laidLooks := .later }
def ChunkCallsUptoCardSaid : Prop := Claim7.holds Tryz.pinned (.plain (OpenSpec.upto chunkCallsSpec)) chunkCallsUptoCard

/-- THE SECOND FORM's CARD OF 'halfwayhouselaw05.ChunkNames'. -/
def chunkNamesUptoCard : Claim7 := { stood := { row := chunkNamesUptoRow, standIns := [], harness := (true, "246b574670bfcb8329dd0c33c4a12696c3a0cd634e60a816438e84ce57c8954c"), looks := true }, kinds := [], alts := [], laidByText := true, laidKinds := [.data, .data, .data, .data, .sentinel, .sentinel, .pinned], laidTests := true, laidLooks := .later }
def ChunkNamesUptoCardSaid : Prop := Claim7.holds Tryz.pinned (.plain (OpenSpec.upto chunkNamesSpec)) chunkNamesUptoCard

/-- THE SECOND FORM's CARD OF 'halfwayhouselaw05.ChunkBack'. -/
def chunkBackUptoCard : Claim7 := { stood := { row := chunkBackUptoRow, standIns := [], harness := (true, "246b574670bfcb8329dd0c33c4a12696c3a0cd634e60a816438e84ce57c8954c"), looks := true }, kinds := [], alts := [], laidByText := true, laidKinds := [.data, .data, .data, .data, .sentinel, .sentinel, .pinned], laidTests := true, laidLooks := .later }
def ChunkBackUptoCardSaid : Prop := Claim7.holds Tryz.pinned (.plain (OpenSpec.upto chunkBackSpec)) chunkBackUptoCard
end Rows
end Go.Proofs.YtkaaeajidejchaaGreatDoor
