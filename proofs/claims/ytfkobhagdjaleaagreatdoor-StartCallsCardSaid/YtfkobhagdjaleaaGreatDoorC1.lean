/- Trimming, by the program and by the reference. -/
import Derived.Test.YtfkobhagdjaleaaGreatDoorB2
import Derived.Test.YtfkobhagdjaleaaGreatDoorSpPl2
import Derived.Shelf.Strings.SlTrimAscii
namespace Go.Proofs.YtfkobhagdjaleaaGreatDoor.Sp
open Go.RowKit


def whiteI (c : Int) : Bool := decide (c = 32 ∨ c = 9)
theorem whiteI_B (c : UInt8) : whiteI c.toNat = whiteB c := by
  have := byte_all (fun c => whiteI c.toNat == whiteB c) (by decide +kernel) c
  simpa using this

/-! ### plain -/
theorem left_step {c : UInt8} {t : List UInt8} (h : whiteB c = true) : Lib.trimLeftS (c :: t) [32, 9] = Lib.trimLeftS t [32, 9] := List.dropWhile_cons_of_pos (by exact h)
theorem left_stop {c : UInt8} {t : List UInt8} (h : whiteB c = false) : Lib.trimLeftS (c :: t) [32, 9] = c :: t := List.dropWhile_cons_of_neg (by unfold whiteB at h; rw [h]; decide)
theorem right_step {c : UInt8} {t : List UInt8} (h : whiteB c = true) : Lib.trimRightS (t ++ [c]) [32, 9] = Lib.trimRightS t [32, 9] := by
  unfold Lib.trimRightS
  rw [List.reverse_append]
  show (List.dropWhile _ (c :: t.reverse)).reverse = _
  rw [List.dropWhile_cons_of_pos (by exact h)]
theorem right_stop {c : UInt8} {t : List UInt8} (h : whiteB c = false) : Lib.trimRightS (t ++ [c]) [32, 9] = t ++ [c] := by
  unfold Lib.trimRightS
  rw [List.reverse_append]
  show (List.dropWhile _ (c :: t.reverse)).reverse = _
  rw [List.dropWhile_cons_of_neg (by unfold whiteB at h; rw [h]; decide)]
  simp
theorem take_last (x : ByteArray) (h : 0 < x.size) : x.data.toList = x.data.toList.take (x.size - 1) ++ [x[x.size - 1]'(by omega)] := by
  have hl : x.data.toList.length = x.size := by simp
  have := List.take_succ_eq_append_getElem (l := x.data.toList) (i := x.size - 1) (by omega)
  rw [show x.size - 1 + 1 = x.size by omega, List.take_of_length_le (by omega)] at this
  exact this
def strLen : Value → Nat
  | .string s => s.size
  | _ => 0
theorem ne_case (x : ByteArray) : (x.toList = [] ∧ x.size = 0) ∨ (x.toList.isEmpty = false ∧ 0 < x.size) := by
  have hl : x.data.toList.length = x.size := by simp
  rcases empty_case x with ⟨a, b⟩ | ⟨a, b⟩
  · exact .inl ⟨a, by rw [← hl, b]; rfl⟩
  · refine .inr ⟨a, ?_⟩
    rw [← hl]
    cases h : x.data.toList with
    | nil => exact absurd h b
    | cons c t => simp

end Go.Proofs.YtfkobhagdjaleaaGreatDoor.Sp
