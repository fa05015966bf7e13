/-
  No cell of these rows narrows 'for every input' (looked for: loops, veiled, ifaces, maps, wideKeys, modest, calm, conditions, laid).
  DERIVED. THE GIVEN ROWS OF THIS SEAT. 5 by the template 'for every input the law returns true; each argument reads behind the call as it read before'; 0 by the template 'total and deterministic' (their statements: YtdaankgaigjahaaTotals.lean).
  GIVEN WITH THE SEED: the statements are not yours to turn. If you find one false, say at which input.
  Laid BY PROGRAM, IN A SANDBOX (cutbox-rows.mjs): the forced cells as the released guide's own fill.sh prints them over the translation d20d794916d57596… (all of the seat's roots in one cut). By AI agents, Wed Nov 11 2026. No macro, syntax, notation, axiom, sorry.
-/
import Derived.Test.YtdaankgaigjahaaChecked
import GoSem.Claim
import GoSem.ClaimJoined
import GoSem.ClaimMapViews
import Derived.JoinedTies
import Derived.KernelRfl
namespace Go.Proofs.Ytdaankgaigjahaa
/- THE CELL 'sum', in the pinned program and in every row, IS THE sha256 OF THE DUMP (.gsa) THAT YtdaankgaigjahaaProg.lean LOADS. Nothing in Lean hashes anything: it is a label: what it is worth is what the hold of that sum in a sandbox is worth. -/
noncomputable def Try.pinned : Pinned := { name := "ytdaankgaigjahaa", sum := "d20d794916d57596144231288a8345eeaf687d2f2fd60a0b0661a5d92c8cce1d", checked := Try.checked }
namespace Rows
def none {H : Type} : Left H := { results := [], args := [] }

/-- 'halfwayhouselaw26.BudgetMore': WHATEVER THE INPUT: true; the input reads as it did. -/
def budgetMoreSpec : ChangeSpec := { name := "budgetMore", fn := fun _ => fun
  | [d1, d2, d3, d4] => { results := [.lit (.bool true)], args := [d1, d2, d3, d4] }
  | _ => none }
def budgetMoreRow : OpenClaim := { program := "ytdaankgaigjahaa", sum := "d20d794916d57596144231288a8345eeaf687d2f2fd60a0b0661a5d92c8cce1d", func := "halfwayhouse/halfwayhouselaw26.BudgetMore", spec := "budgetMore", apart := false }
def BudgetMoreSaid : Prop := budgetMoreRow.holds Try.pinned (OpenSpec.ofChange budgetMoreSpec)

/-- ITS FALSE NEIGHBOUR: 'it returns false'. Refute it at one input. -/
def budgetMoreWrong : ChangeSpec := { name := "budgetMore", fn := fun _ => fun
  | [d1, d2, d3, d4] => { results := [.lit (.bool false)], args := [d1, d2, d3, d4] }
  | _ => none }
def BudgetMoreWrongFalsely : Prop := budgetMoreRow.holds Try.pinned (OpenSpec.ofChange budgetMoreWrong)

/-- 'halfwayhouselaw26.BudgetWaits': WHATEVER THE INPUT: true; the input reads as it did. -/
def budgetWaitsSpec : ChangeSpec := { name := "budgetWaits", fn := fun _ => fun
  | [d1, d2, d3, d4] => { results := [.lit (.bool true)], args := [d1, d2, d3, d4] }
  | _ => none }
def budgetWaitsRow : OpenClaim := { program := "ytdaankgaigjahaa", sum := "d20d794916d57596144231288a8345eeaf687d2f2fd60a0b0661a5d92c8cce1d", func := "halfwayhouse/halfwayhouselaw26.BudgetWaits", spec := "budgetWaits", apart := false }
def BudgetWaitsSaid : Prop := budgetWaitsRow.holds Try.pinned (OpenSpec.ofChange budgetWaitsSpec)

/-- ITS FALSE NEIGHBOUR: 'it returns false'. Refute it at one input. -/
def budgetWaitsWrong : ChangeSpec := { name := "budgetWaits", fn := fun _ => fun
  | [d1, d2, d3, d4] => { results := [.lit (.bool false)], args := [d1, d2, d3, d4] }
  | _ => none }
def BudgetWaitsWrongFalsely : Prop := budgetWaitsRow.holds Try.pinned (OpenSpec.ofChange budgetWaitsWrong)

/-- 'halfwayhouselaw26.BudgetNames': WHATEVER THE INPUT: true; the input reads as it did. -/
def budgetNamesSpec : ChangeSpec := { name := "budgetNames", fn := fun _ => fun
  | [] => { results := [.lit (.bool true)], args := [] }
  | _ => none }
def budgetNamesRow : OpenClaim := { program := "ytdaankgaigjahaa", sum := "d20d794916d57596144231288a8345eeaf687d2f2fd60a0b0661a5d92c8cce1d", func := "halfwayhouse/halfwayhouselaw26.BudgetNames", spec := "budgetNames", apart := false }
def BudgetNamesSaid : Prop := budgetNamesRow.holds Try.pinned (OpenSpec.ofChange budgetNamesSpec)

/-- ITS FALSE NEIGHBOUR: 'it returns false'. Refute it at one input. -/
def budgetNamesWrong : ChangeSpec := { name := "budgetNames", fn := fun _ => fun
  | [] => { results := [.lit (.bool false)], args := [] }
  | _ => none }
def BudgetNamesWrongFalsely : Prop := budgetNamesRow.holds Try.pinned (OpenSpec.ofChange budgetNamesWrong)

/-- 'halfwayhouselaw26.BudgetCalls': WHATEVER THE INPUT: true; the input reads as it did. -/
def budgetCallsSpec : ChangeSpec := { name := "budgetCalls", fn := fun _ => fun
  | [d1, d2, d3] => { results := [.lit (.bool true)], args := [d1, d2, d3] }
  | _ => none }
def budgetCallsRow : OpenClaim := { program := "ytdaankgaigjahaa", sum := "d20d794916d57596144231288a8345eeaf687d2f2fd60a0b0661a5d92c8cce1d", func := "halfwayhouse/halfwayhouselaw26.BudgetCalls", spec := "budgetCalls", apart := false }
def BudgetCallsSaid : Prop := budgetCallsRow.holds Try.pinned (OpenSpec.ofChange budgetCallsSpec)

/-- ITS FALSE NEIGHBOUR: 'it returns false'. Refute it at one input. -/
def budgetCallsWrong : ChangeSpec := { name := "budgetCalls", fn := fun _ => fun
  | [d1, d2, d3] => { results := [.lit (.bool false)], args := [d1, d2, d3] }
  | _ => none }
def BudgetCallsWrongFalsely : Prop := budgetCallsRow.holds Try.pinned (OpenSpec.ofChange budgetCallsWrong)

/-- 'halfwayhouselaw26.BudgetPays': WHATEVER THE INPUT: true; the input reads as it did. -/
def budgetPaysSpec : ChangeSpec := { name := "budgetPays", fn := fun _ => fun
  | [d1, d2] => { results := [.lit (.bool true)], args := [d1, d2] }
  | _ => none }
def budgetPaysRow : OpenClaim := { program := "ytdaankgaigjahaa", sum := "d20d794916d57596144231288a8345eeaf687d2f2fd60a0b0661a5d92c8cce1d", func := "halfwayhouse/halfwayhouselaw26.BudgetPays", spec := "budgetPays", apart := false }
def BudgetPaysSaid : Prop := budgetPaysRow.holds Try.pinned (OpenSpec.ofChange budgetPaysSpec)

/-- ITS FALSE NEIGHBOUR: 'it returns false'. Refute it at one input. -/
def budgetPaysWrong : ChangeSpec := { name := "budgetPays", fn := fun _ => fun
  | [d1, d2] => { results := [.lit (.bool false)], args := [d1, d2] }
  | _ => none }
def BudgetPaysWrongFalsely : Prop := budgetPaysRow.holds Try.pinned (OpenSpec.ofChange budgetPaysWrong)

/- THE SECOND FORM. 'bulk': how many values and letters a reading holds, each counted each time it is reached (what is shared counts as often as it is met; a slice's spare places count too). A statement '..UptoSaid' is the law's where the arguments, and the package variables that the reading takes, are together of bulk at most 1048576: NARROWER than '..Said'. Prove '..Said' where nothing that the law and all that it calls make is longer than what came in: it says more and counts as full. Else prove '..UptoSaid'. A law counts once. -/
mutual
def uptoBulk {H : Type} : DataW H → Nat
  | .lit (.string bytes) => bytes.length + 1
  | .lit _ => 1
  | .nil => 1
  | .ptr d => uptoBulk d + 1
  | .slice elems spare => uptoBulkAll elems + uptoBulkAll spare + 1
  | .agg parts => uptoBulkAll parts + 1
  | .iface _ d => uptoBulk d + 1
  | .map entries => uptoBulkEntries entries + 1
  | .held _ => 1
def uptoBulkAll {H : Type} : List (DataW H) → Nat
  | [] => 0
  | d :: r => uptoBulk d + uptoBulkAll r
def uptoBulkEntries {H : Type} : List (Lit × DataW H) → Nat
  | [] => 0
  | x :: r => uptoBulkEntry x + uptoBulkEntries r
def uptoBulkEntry {H : Type} : Lit × DataW H → Nat
  | (.string bytes, d) => bytes.length + uptoBulk d + 1
  | (_, d) => uptoBulk d + 1
 end
def uptoSmall : (H : Type) → List (DataW H) → Bool := fun _ ds => decide (uptoBulkAll ds ≤ 1048576)
def OpenSpec.upto (s : _root_.Go.ChangeSpec) : _root_.Go.OpenSpec := { _root_.Go.OpenSpec.ofChange s with cond := some uptoSmall }

/-- 'halfwayhouselaw26.BudgetMore', WHERE WHAT IT READS IS OF BULK AT MOST 1048576: true; the input reads as it did. -/
def budgetMoreUptoRow : OpenClaim := { program := "ytdaankgaigjahaa", sum := "d20d794916d57596144231288a8345eeaf687d2f2fd60a0b0661a5d92c8cce1d", func := "halfwayhouse/halfwayhouselaw26.BudgetMore", spec := "budgetMore", apart := false, narrowed := true }
def BudgetMoreUptoSaid : Prop := budgetMoreUptoRow.holds Try.pinned (OpenSpec.upto budgetMoreSpec)

/-- 'halfwayhouselaw26.BudgetWaits', WHERE WHAT IT READS IS OF BULK AT MOST 1048576: true; the input reads as it did. -/
def budgetWaitsUptoRow : OpenClaim := { program := "ytdaankgaigjahaa", sum := "d20d794916d57596144231288a8345eeaf687d2f2fd60a0b0661a5d92c8cce1d", func := "halfwayhouse/halfwayhouselaw26.BudgetWaits", spec := "budgetWaits", apart := false, narrowed := true }
def BudgetWaitsUptoSaid : Prop := budgetWaitsUptoRow.holds Try.pinned (OpenSpec.upto budgetWaitsSpec)

/-- 'halfwayhouselaw26.BudgetNames', WHERE WHAT IT READS IS OF BULK AT MOST 1048576: true; the input reads as it did. -/
def budgetNamesUptoRow : OpenClaim := { program := "ytdaankgaigjahaa", sum := "d20d794916d57596144231288a8345eeaf687d2f2fd60a0b0661a5d92c8cce1d", func := "halfwayhouse/halfwayhouselaw26.BudgetNames", spec := "budgetNames", apart := false, narrowed := true }
def BudgetNamesUptoSaid : Prop := budgetNamesUptoRow.holds Try.pinned (OpenSpec.upto budgetNamesSpec)

/-- 'halfwayhouselaw26.BudgetCalls', WHERE WHAT IT READS IS OF BULK AT MOST 1048576: true; the input reads as it did. -/
def budgetCallsUptoRow : OpenClaim := { program := "ytdaankgaigjahaa", sum := "d20d794916d57596144231288a8345eeaf687d2f2fd60a0b0661a5d92c8cce1d", func := "halfwayhouse/halfwayhouselaw26.BudgetCalls", spec := "budgetCalls", apart := false, narrowed := true }
def BudgetCallsUptoSaid : Prop := budgetCallsUptoRow.holds Try.pinned (OpenSpec.upto budgetCallsSpec)

/-- 'halfwayhouselaw26.BudgetPays', WHERE WHAT IT READS IS OF BULK AT MOST 1048576: true; the input reads as it did. -/
def budgetPaysUptoRow : OpenClaim := { program := "ytdaankgaigjahaa", sum := "d20d794916d57596144231288a8345eeaf687d2f2fd60a0b0661a5d92c8cce1d", func := "halfwayhouse/halfwayhouselaw26.BudgetPays", spec := "budgetPays", apart := false, narrowed := true }
def BudgetPaysUptoSaid : Prop := budgetPaysUptoRow.holds Try.pinned (OpenSpec.upto budgetPaysSpec)

end Rows
end Go.Proofs.Ytdaankgaigjahaa
