/-
  DERIVED. GIVEN WITH THE SEED: THE CARDS: each row of YtbhpcmbbbomknaaDoorRows.lean that lists a variable, with what it lists TIED to the program's text (the seventh form; the later family's looks); each row that meets fmt, with fmt's text TOLD by the authors' own Lean function (tested against real Go, not proved from fmt's source: count such statements apart). THE CARD IS WHAT COUNTS. Prove the row's statement (the work); the ties are given (YtbhpcmbbbomknaaDoorTie.lean); close each card by the builder's one call (the guide's Derived/Test/ToyasCard.lean, 'card_holds'). Laid BY PROGRAM, IN A SANDBOX (cutbox-door.mjs). By AI agents, Wed Nov 11 2026. No macro, syntax, notation, axiom, sorry.
-/
import Derived.Test.YtbhpcmbbbomknaaDoorRows
import GoSem.ClaimSeven
namespace Go.Proofs.YtbhpcmbbbomknaaDoor
namespace Rows

/-- THE TIED CARD OF 'halfwayhouselaw01.TokenNumbers'. -/
def tokenNumbersCard : Claim7 := { stood := { row := tokenNumbersRow, standIns := [], harness := (true, "08bfde64b5e523042c7cdd5880557b4de23d6a5659dd9bc568e4b562ad7ce5de"), looks := true }, kinds := [], alts := [], laidByText := true, laidKinds := [.data, .data, .data, .data, .sentinel, .sentinel, .pinned], laidTests := true, laidLooks := .later }
def TokenNumbersCardSaid : Prop := Claim7.holds Tryd.pinned (.plain (OpenSpec.ofChange tokenNumbersSpec)) tokenNumbersCard

/-- THE TIED CARD OF 'halfwayhouselaw01.TokenWeights'. -/
def tokenWeightsCard : Claim7 := { stood := { row := tokenWeightsRow, standIns := [], harness := (true, "08bfde64b5e523042c7cdd5880557b4de23d6a5659dd9bc568e4b562ad7ce5de"), looks := true }, kinds := [], alts := [], laidByText := true, laidKinds := [.data, .data, .data, .data, .sentinel, .sentinel, .pinned], laidTests := true, laidLooks := .later }
def TokenWeightsCardSaid : Prop := Claim7.holds Tryd.pinned (.plain (OpenSpec.ofChange tokenWeightsSpec)) tokenWeightsCard

/-- THE SECOND FORM's CARD OF 'halfwayhouselaw01.TokenNumbers'. -/
def tokenNumbersUptoCard : Claim7 := { stood := { row := tokenNumbersUptoRow, standIns := [], harness := (true, "08bfde64b5e523042c7cdd5880557b4de23d6a5659dd9bc568e4b562ad7ce5de"), looks := true }, kinds := [], alts := [], laidByText := true, laidKinds := [.data, .data, .data, .data, .sentinel, .sentinel, .pinned], laidTests := true, laidLooks := .later }
def TokenNumbersUptoCardSaid : Prop := Claim7.holds Tryd.pinned (.plain (OpenSpec.upto tokenNumbersSpec)) tokenNumbersUptoCard

/-- THE SECOND FORM's CARD OF 'halfwayhouselaw01.TokenWeights'. -/
def tokenWeightsUptoCard : Claim7 := { stood := { row := tokenWeightsUptoRow, standIns := [], harness := (true, "08bfde64b5e523042c7cdd5880557b4de23d6a5659dd9bc568e4b562ad7ce5de"), looks := true }, kinds := [], alts := [], laidByText := true, laidKinds := [.data, .data, .data, .data, .sentinel, .sentinel, .pinned], laidTests := true, laidLooks := .later }
def TokenWeightsUptoCardSaid : Prop := Claim7.holds Tryd.pinned (.plain (OpenSpec.upto tokenWeightsSpec)) tokenWeightsUptoCard
end Rows
end Go.Proofs.YtbhpcmbbbomknaaDoor
