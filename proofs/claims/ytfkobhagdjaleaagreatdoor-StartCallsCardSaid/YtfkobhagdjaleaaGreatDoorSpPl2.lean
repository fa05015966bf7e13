/- Plain: trimming from either end first; fields by name. -/
import Derived.Test.YtfkobhagdjaleaaGreatDoorSpPl
namespace Go.Proofs.YtfkobhagdjaleaaGreatDoor.Sp
open Go.RowKit

/-! ### trimming -/
def whiteB (c : UInt8) : Bool := ([32, 9] : List UInt8).contains c
theorem right_cons (c : UInt8) (t : List UInt8) : Lib.trimRightS (c :: t) [32, 9] = if (Lib.trimRightS t [32, 9]).isEmpty = true then (if whiteB c = true then [] else [c]) else c :: Lib.trimRightS t [32, 9] := by
  unfold Lib.trimRightS
  rw [List.reverse_cons, List.dropWhile_append]
  cases h : (t.reverse.dropWhile fun x => ([32, 9] : List UInt8).contains x) with
  | nil =>
    simp only [List.isEmpty_nil, if_true, List.reverse_nil]
    by_cases hc : whiteB c = true
    · rw [if_pos hc, List.dropWhile_cons_of_pos (by exact hc)]; rfl
    · rw [if_neg hc, List.dropWhile_cons_of_neg (by exact hc)]; rfl
  | cons b r =>
    simp
theorem trim_comm : ∀ l : List UInt8, Lib.trimRightS (Lib.trimLeftS l [32, 9]) [32, 9] = trimW l
  | [] => rfl
  | c :: t => by
    have ih := trim_comm t
    unfold trimW Lib.trimS at ih ⊢
    by_cases hc : whiteB c = true
    · have h1 : Lib.trimLeftS (c :: t) [32, 9] = Lib.trimLeftS t [32, 9] := List.dropWhile_cons_of_pos (by exact hc)
      rw [h1, ih, right_cons, if_pos hc]
      cases h : Lib.trimRightS t [32, 9] with
      | nil => rfl
      | cons b r =>
        show _ = Lib.trimLeftS (c :: b :: r) [32, 9]
        exact (List.dropWhile_cons_of_pos (by exact hc)).symm
    · have h1 : Lib.trimLeftS (c :: t) [32, 9] = c :: t := List.dropWhile_cons_of_neg (by exact hc)
      rw [h1, right_cons, if_neg hc]
      cases h : Lib.trimRightS t [32, 9] with
      | nil => exact (List.dropWhile_cons_of_neg (by exact hc)).symm
      | cons b r => exact (List.dropWhile_cons_of_neg (by exact hc)).symm
theorem trim_len (l : List UInt8) : (trimW l).length ≤ l.length := by
  have h1 : ∀ m : List UInt8, (Lib.trimLeftS m [32, 9]).length ≤ m.length := fun m => (List.dropWhile_sublist _).length_le
  have h2 : ∀ m : List UInt8, (Lib.trimRightS m [32, 9]).length ≤ m.length := fun m => by
    unfold Lib.trimRightS
    rw [List.length_reverse]
    have := (List.dropWhile_sublist (fun x => ([32, 9] : List UInt8).contains x) (l := m.reverse)).length_le
    rwa [List.length_reverse] at this
  exact Nat.le_trans (h1 _) (h2 _)

/-! ### texts and fields -/
abbrev Fld := ByteArray × ByteArray
def ofL (l : List UInt8) : ByteArray := ⟨l.toArray⟩
theorem ofL_data (l : List UInt8) : (ofL l).data.toList = l := rfl
theorem ofL_of (x : ByteArray) : ofL x.data.toList = x := rfl
def strV (L : List ByteArray) : List Value := L.map .string
def fldV (L : List Fld) : List Value := L.flatMap fun f => [.string f.1, .string f.2]
theorem strV_len (L : List ByteArray) : (strV L).length = L.length * 1 := by simp [strV]
theorem fldV_len (L : List Fld) : (fldV L).length = L.length * 2 := by
  induction L with
  | nil => rfl
  | cons f t ih => unfold fldV at ih ⊢; rw [List.flatMap_cons, List.length_append, ih]; simp; omega
theorem strV_app (A B : List ByteArray) : strV (A ++ B) = strV A ++ strV B := by simp [strV]
theorem fldV_app (A B : List Fld) : fldV (A ++ B) = fldV A ++ fldV B := by simp [fldV]
theorem strV_get (L : List ByteArray) (i : Nat) (h : i < L.length) : (strV L)[i]? = some (.string L[i]) := by simp [strV, h]
theorem fldV_get : ∀ (L : List Fld) (i : Nat) (h : i < L.length), (fldV L)[i * 2]? = some (.string L[i].1) ∧ (fldV L)[i * 2 + 1]? = some (.string L[i].2)
  | [], _, h => absurd h (Nat.not_lt_zero _)
  | f :: t, 0, _ => ⟨rfl, rfl⟩
  | f :: t, i + 1, h => by
    have ih := fldV_get t i (by simp at h; omega)
    have e1 : (i + 1) * 2 = i * 2 + 2 := by omega
    rw [e1]
    show ([Value.string f.1, Value.string f.2] ++ fldV t)[i * 2 + 2]? = _ ∧ ([Value.string f.1, Value.string f.2] ++ fldV t)[i * 2 + 2 + 1]? = _
    exact ih
theorem strV_one (L : List ByteArray) : ∀ u ∈ strV L, u.oneCell' = true := by
  intro u hu
  obtain ⟨x, _, rfl⟩ := List.mem_map.1 hu
  rfl
theorem fldV_one (L : List Fld) : ∀ u ∈ fldV L, u.oneCell' = true := by
  intro u hu
  unfold fldV at hu
  obtain ⟨x, _, h⟩ := List.mem_flatMap.1 hu
  simp at h
  rcases h with rfl | rfl <;> rfl

def splitB (s : ByteArray) : List ByteArray := (splitS s.data.toList).map ofL
end Go.Proofs.YtfkobhagdjaleaaGreatDoor.Sp
