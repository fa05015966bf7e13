/-
  DERIVED. GIVEN WITH THE SEED: THE CARDS: each row of YtmmldoleillelaaDoorRows.lean that lists a variable, with what it lists TIED to the program's text (the seventh form; the later family's looks); each row that meets fmt, with fmt's text TOLD by the authors' own Lean function (tested against real Go, not proved from fmt's source: count such statements apart). THE CARD IS WHAT COUNTS. Prove the row's statement (the work); the ties are given (YtmmldoleillelaaDoorTie.lean); close each card by the builder's one call (the guide's Derived/Test/ToyasCard.lean, 'card_holds'). Laid BY PROGRAM, IN A SANDBOX (cutbox-door.mjs). By AI agents, Wed Nov 11 2026. No macro, syntax, notation, axiom, sorry.
-/
import Derived.Test.YtmmldoleillelaaDoorRows
import GoSem.ClaimSeven
namespace Go.Proofs.YtmmldoleillelaaDoor
namespace Rows

/-- THE TIED CARD OF 'halfwayhouselaw07.HopStays'. -/
def hopStaysCard : Claim7 := { stood := { row := hopStaysRow, standIns := [], harness := (true, "bd435060c038100d4f27340c3b3ad54ca8da40bc3ab753567848d27e7d62ad51"), looks := false }, kinds := [], alts := [], laidByText := true, laidKinds := [.data, .data, .data, .data, .pinned], laidTests := true, laidLooks := .later }
def HopStaysCardSaid : Prop := Claim7.holds Tryd.pinned (.plain (OpenSpec.ofChange hopStaysSpec)) hopStaysCard

/-- THE TIED CARD OF 'halfwayhouselaw07.HopNamed'. -/
def hopNamedCard : Claim7 := { stood := { row := hopNamedRow, standIns := [], harness := (true, "bd435060c038100d4f27340c3b3ad54ca8da40bc3ab753567848d27e7d62ad51"), looks := false }, kinds := [], alts := [], laidByText := true, laidKinds := [.data, .data, .data, .data, .pinned], laidTests := true, laidLooks := .later }
def HopNamedCardSaid : Prop := Claim7.holds Tryd.pinned (.plain (OpenSpec.ofChange hopNamedSpec)) hopNamedCard

/-- THE TIED CARD OF 'halfwayhouselaw07.HopOnce'. -/
def hopOnceCard : Claim7 := { stood := { row := hopOnceRow, standIns := [], harness := (true, "bd435060c038100d4f27340c3b3ad54ca8da40bc3ab753567848d27e7d62ad51"), looks := false }, kinds := [], alts := [], laidByText := true, laidKinds := [.data, .data, .data, .data, .pinned], laidTests := true, laidLooks := .later }
def HopOnceCardSaid : Prop := Claim7.holds Tryd.pinned (.plain (OpenSpec.ofChange hopOnceSpec)) hopOnceCard

/-- THE TIED CARD OF 'halfwayhouselaw07.HopNames'. -/
def hopNamesCard : Claim7 := { stood := { row := hopNamesRow, standIns := [], harness := (true, "bd435060c038100d4f27340c3b3ad54ca8da40bc3ab753567848d27e7d62ad51"), looks := false }, kinds := [], alts := [], laidByText := true, laidKinds := [.data, .data, .data, .data, .pinned], laidTests := true, laidLooks := .later }
def HopNamesCardSaid : Prop := Claim7.holds Tryd.pinned (.plain (OpenSpec.ofChange hopNamesSpec)) hopNamesCard

/-- THE TIED CARD OF 'halfwayhouselaw07.HopCalls'. -/
def hopCallsCard : Claim7 := { stood := { row := hopCallsRow, standIns := [], harness := (true, "bd435060c038100d4f27340c3b3ad54ca8da40bc3ab753567848d27e7d62ad51"), looks := false }, kinds := [], alts := [], laidByText := true, laidKinds := [.data, .data, .data, .data, .pinned], laidTests := true, laidLooks := .later }
def HopCallsCardSaid : Prop := Claim7.holds Tryd.pinned (.plain (OpenSpec.ofChange hopCallsSpec)) hopCallsCard

/-- THE SECOND FORM's CARD OF 'halfwayhouselaw07.HopStays'. -/
def hopStaysUptoCard : Claim7 := { stood := { row := hopStaysUptoRow, standIns := [], harness := (true, "bd435060c038100d4f27340c3b3ad54ca8da40bc3ab753567848d27e7d62ad51"), looks := false }, kinds := [], alts := [], laidByText := true, laidKinds := [.data, .data, .data, .data, .pinned], laidTests := true, laidLooks := .later }
def HopStaysUptoCardSaid : Prop := Claim7.holds Tryd.pinned (.plain (OpenSpec.upto hopStaysSpec)) hopStaysUptoCard

/-- THE SECOND FORM's CARD OF 'halfwayhouselaw07.HopNamed'. -/
def hopNamedUptoCard : Claim7 := { stood := { row := hopNamedUptoRow, standIns := [], harness := (true, "bd435060c038100d4f27340c3b3ad54ca8da40bc3ab753567848d27e7d62ad51"), looks := false }, kinds := [], alts := [], laidByText := true, laidKinds := [.data, .data, .data, .data, .pinned], laidTests := true, laidLooks := .later }
def HopNamedUptoCardSaid : Prop := Claim7.holds Tryd.pinned (.plain (OpenSpec.upto hopNamedSpec)) hopNamedUptoCard

/-- THE SECOND FORM's CARD OF 'halfwayhouselaw07.HopOnce'. -/
def hopOnceUptoCard : Claim7 := { stood := { row := hopOnceUptoRow, standIns := [], harness := (true, "bd435060c038100d4f27340c3b3ad54ca8da40bc3ab753567848d27e7d62ad51"), looks := false }, kinds := [], alts := [], laidByText := true, laidKinds := [.data, .data, .data, .data, .pinned], laidTests := true, laidLooks := .later }
def HopOnceUptoCardSaid : Prop := Claim7.holds Tryd.pinned (.plain (OpenSpec.upto hopOnceSpec)) hopOnceUptoCard

/-- THE SECOND FORM's CARD OF 'halfwayhouselaw07.HopNames'. -/
def hopNamesUptoCard : Claim7 := { stood := { row := hopNamesUptoRow, standIns := [], harness := (true, "bd435060c038100d4f27340c3b3ad54ca8da40bc3ab753567848d27e7d62ad51"), looks := false }, kinds := [], alts := [], laidByText := true, laidKinds := [.data, .data, .data, .data, .pinned], laidTests := true, laidLooks := .later }
def HopNamesUptoCardSaid : Prop := Claim7.holds Tryd.pinned (.plain (OpenSpec.upto hopNamesSpec)) hopNamesUptoCard

/-- THE SECOND FORM's CARD OF 'halfwayhouselaw07.HopCalls'. -/
def hopCallsUptoCard : Claim7 := { stood := { row := hopCallsUptoRow, standIns := [], harness := (true, "bd435060c038100d4f27340c3b3ad54ca8da40bc3ab753567848d27e7d62ad51"), looks := false }, kinds := [], alts := [], laidByText := true, laidKinds := [.data, .data, .data, .data, .pinned], laidTests := true, laidLooks := .later }
def HopCallsUptoCardSaid : Prop := Claim7.holds Tryd.pinned (.plain (OpenSpec.upto hopCallsSpec)) hopCallsUptoCard
end Rows
end Go.Proofs.YtmmldoleillelaaDoor
