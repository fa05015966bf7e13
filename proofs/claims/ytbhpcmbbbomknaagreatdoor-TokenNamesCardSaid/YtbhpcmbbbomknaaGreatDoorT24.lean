/- Plain: a list of quoted texts is split into them. -/
import Derived.Test.YtbhpcmbbbomknaaGreatDoorT20
import Derived.Test.YtbhpcmbbbomknaaGreatDoorC1
namespace Go.Proofs.YtbhpcmbbbomknaaGreatDoor.Sp
open Go.RowKit Sl

def quoL (x : List UInt8) : List UInt8 := 34 :: (esc x ++ [34])
theorem quoS_data (s : ByteArray) : (⟨#[34]⟩ ++ ⟨(esc s.data.toList).toArray⟩ ++ ⟨#[34]⟩ : ByteArray).data.toList = quoL s.data.toList := by
  rw [app_data, app_data]; rfl
/-- the quoted texts, a comma behind each -/
def joinQ (L : List ByteArray) : List UInt8 := L.flatMap fun x => quoL x.data.toList ++ [32, 44, 9]
theorem joinQ_app (L : List ByteArray) (x : ByteArray) : joinQ (L ++ [x]) = joinQ L ++ (quoL x.data.toList ++ [32, 44, 9]) := by
  unfold joinQ; rw [List.flatMap_append]; simp
theorem joinQ_cons (x : ByteArray) (L : List ByteArray) : joinQ (x :: L) = quoL x.data.toList ++ ([32, 44, 9] ++ joinQ L) := by
  unfold joinQ; rw [List.flatMap_cons, List.append_assoc]
theorem pieces_in : ∀ (x cur t : List UInt8), pieces true cur (esc x ++ 34 :: t) = pieces false (cur ++ esc x ++ [34]) t
  | [], cur, t => by
    show pieces true cur (34 :: t) = _
    rw [pieces_quote (by decide) (by decide)]
    simp [esc]
  | c :: r, cur, t => by
    have e : esc (c :: r) = escC c ++ esc r := by unfold esc; rw [List.flatMap_cons]
    rw [e, List.append_assoc]
    unfold escC
    by_cases h : spec c = true
    · rw [if_pos h]
      show pieces true cur (92 :: c :: (esc r ++ 34 :: t)) = _
      rw [pieces_esc (by decide), pieces_in r]
      simp
    · rw [if_neg h]
      have h1 : c ≠ 34 := fun k => h (by rw [k]; decide)
      have h2 : c ≠ 92 := fun k => h (by rw [k]; decide)
      show pieces true cur (c :: (esc r ++ 34 :: t)) = _
      rw [pieces_else (by simp; exact h2) (by simp; exact h1) (by simp), pieces_in r]
      simp
theorem pieces_quoL (x cur t : List UInt8) : pieces false cur (quoL x ++ ([32, 44, 9] ++ t)) = (cur ++ quoL x ++ [32]) :: pieces false [9] t := by
  unfold quoL
  have e : (34 :: (esc x ++ [34])) ++ ([32, 44, 9] ++ t) = 34 :: (esc x ++ 34 :: (32 :: 44 :: 9 :: t)) := by simp
  rw [e, pieces_quote (by decide) (by decide)]
  show pieces true _ _ = _
  rw [pieces_in, pieces_else (by decide) (by decide) (by decide), pieces_comma (by decide) (by decide) (by decide), pieces_else (by decide) (by decide) (by decide)]
  simp
theorem trim_quoL (x cur : List UInt8) (h : cur = [] ∨ cur = [9]) : trimW (cur ++ quoL x ++ [32]) = quoL x := by
  unfold trimW Lib.trimS
  have hw32 : whiteB 32 = true := by decide
  have hw9 : whiteB 9 = true := by decide
  have hw34 : whiteB 34 = false := by decide
  rw [right_step hw32]
  have e : cur ++ quoL x = (cur ++ 34 :: esc x) ++ [34] := by unfold quoL; simp
  rw [e, right_stop hw34]
  rcases h with rfl | rfl
  · show Lib.trimLeftS (34 :: (esc x ++ [34])) [32, 9] = _
    rw [left_stop hw34]; rfl
  · show Lib.trimLeftS (9 :: 34 :: (esc x ++ [34])) [32, 9] = _
    rw [left_step hw9, left_stop hw34]; rfl
theorem split_join : ∀ (L : List ByteArray) (cur : List UInt8), (cur = [] ∨ cur = [9]) → keep (pieces false cur (joinQ L)) = L.map fun x => quoL x.data.toList
  | [], cur, h => by
    show keep (pieces false cur []) = []
    rw [pieces, keep_one]
    rcases h with rfl | rfl
    · rw [if_pos (by decide)]
    · rw [if_pos (by decide)]
  | x :: L, cur, h => by
    rw [joinQ_cons, pieces_quoL]
    have e : (cur ++ quoL x.data.toList ++ [32]) :: pieces false [9] (joinQ L) = [cur ++ quoL x.data.toList ++ [32]] ++ pieces false [9] (joinQ L) := rfl
    rw [e, keep_app, split_join L [9] (.inr rfl), keep_one, trim_quoL _ _ h, if_neg (by unfold quoL; simp)]
    rfl
theorem splitS_join (L : List ByteArray) : splitS (joinQ L) = L.map fun x => quoL x.data.toList := split_join L [] (.inl rfl)
end Go.Proofs.YtbhpcmbbbomknaaGreatDoor.Sp
