/- Plain: the number of a weight. -/
import Derived.Test.YtbhpcmbbbomknaaGreatDoorT2
import Derived.Test.YtbhpcmbbbomknaaGreatDoorT10
import Derived.Test.YtbhpcmbbbomknaaGreatDoorCut
namespace Go.Proofs.YtbhpcmbbbomknaaGreatDoor.Sp
open Go.RowKit

/-! ### plain -/
def wDig (l : List UInt8) : List UInt8 := (cutS 46 l).1 ++ (cutS 46 l).2.1 ++ List.replicate (3 - (cutS 46 l).2.1.length) 48
/-- a weight's thousandths -/
def wS (l : List UInt8) : Option Nat :=
  if ((cutS 46 l).1 = [48] ∨ (cutS 46 l).1 = [49]) ∧ (cutS 46 l).2.1.length ≤ 3 ∧ (cutS 46 l).2.1.all digB = true ∧ valN (wDig l) ≤ 1000 then some (valN (wDig l)) else none
/-- what Weight gives -/
def wR (l : List UInt8) : Nat × Int := match wS l with
  | some n => (fB n, 0)
  | none => (0, 4)
theorem wR_bad {l : List UInt8} (h : ¬ (((cutS 46 l).1 = [48] ∨ (cutS 46 l).1 = [49]) ∧ (cutS 46 l).2.1.length ≤ 3 ∧ (cutS 46 l).2.1.all digB = true ∧ valN (wDig l) ≤ 1000)) : wR l = (0, 4) := by
  unfold wR wS; rw [if_neg h]
theorem wR_good {l : List UInt8} (h : ((cutS 46 l).1 = [48] ∨ (cutS 46 l).1 = [49]) ∧ (cutS 46 l).2.1.length ≤ 3 ∧ (cutS 46 l).2.1.all digB = true ∧ valN (wDig l) ≤ 1000) : wR l = (fB (valN (wDig l)), 0) := by
  unfold wR wS; rw [if_pos h]
theorem valF_lt : ∀ (l : List UInt8) (a : Nat), l.all digB = true → valF a l < (a + 1) * 10 ^ l.length
  | [], a, _ => by rw [valF_nil]; simp
  | c :: r, a, h => by
    rw [List.all_cons, Bool.and_eq_true] at h
    have hc := digB_t h.1
    have ih := valF_lt r (a * 10 + (c.toNat - 48)) h.2
    rw [valF_cons, List.length_cons, Nat.pow_succ, Nat.mul_comm (10 ^ r.length) 10, ← Nat.mul_assoc]
    refine Nat.lt_of_lt_of_le ih (Nat.mul_le_mul_right _ ?_)
    omega
theorem cutS_flag (c : UInt8) : ∀ l : List UInt8, (cutS c l).2.2 = false → (cutS c l).2.1 = []
  | [], _ => rfl
  | b :: l, h => by
    unfold cutS at h ⊢
    by_cases hb : b = c
    · rw [if_pos hb] at h; cases h
    · rw [if_neg hb] at h ⊢
      exact cutS_flag c l h
theorem repeat_one (n : Nat) : Lib.repeatL [(48 : UInt8)] n = List.replicate n 48 := by
  induction n with
  | zero => rfl
  | succ n ih => first | (unfold Lib.repeatL at ih ⊢; simp [List.replicate_succ] at ih ⊢; done) | (simp [Lib.repeatL, List.replicate_succ] at ih ⊢; try exact ih)
theorem toList_eq (x : ByteArray) (l : List UInt8) : (x.toList == l) = decide (x.data.toList = l) := by
  rw [Lib.toList_data, Bool.eq_iff_iff, beq_iff_eq, decide_eq_true_iff]

end Go.Proofs.YtbhpcmbbbomknaaGreatDoor.Sp
