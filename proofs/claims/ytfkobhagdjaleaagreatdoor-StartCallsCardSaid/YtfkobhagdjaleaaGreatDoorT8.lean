/- kit: Same of texts, Pick, Times. -/
import Derived.Test.YtfkobhagdjaleaaGreatDoorS0
namespace Go.Proofs.YtfkobhagdjaleaaGreatDoor.Sp
open Go.RowKit Sl

def sameLS (A B : List ByteArray) : Bool := decide (A = B)
theorem take_ne {α : Type} {A B : List α} {k : Nat} (hA : k < A.length) (hB : k < B.length) (h : A[k] ≠ B[k]) : A ≠ B := by
  intro e; subst e; exact h rfl


end Go.Proofs.YtfkobhagdjaleaaGreatDoor.Sp
