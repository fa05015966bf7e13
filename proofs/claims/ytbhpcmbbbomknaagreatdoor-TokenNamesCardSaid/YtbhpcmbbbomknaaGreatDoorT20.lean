/- Plain: quoted texts are unquoted. -/
import Derived.Test.YtbhpcmbbbomknaaGreatDoorT5
import Derived.Test.YtbhpcmbbbomknaaGreatDoorO5
namespace Go.Proofs.YtbhpcmbbbomknaaGreatDoor.Sp
open Go.RowKit Sl

/-- a backslash before each byte -/
def esc2 (l : List UInt8) : List UInt8 := l.flatMap fun c => [92, c]
theorem unq_esc2 : ∀ (l t : List UInt8), unq (esc2 l ++ t) = (unq t).map (l ++ ·)
  | [], t => by
    show unq t = _
    cases unq t <;> rfl
  | c :: r, t => by
    have ih := unq_esc2 r t
    have e : esc2 (c :: r) ++ t = 92 :: c :: (esc2 r ++ t) := by unfold esc2; rw [List.flatMap_cons]; rfl
    rw [e, unq_esc _ _ _ rfl, ih, Option.map_map]
    rfl
theorem unq_of_esc : ∀ (l t : List UInt8), unq (esc l ++ t) = (unq t).map (l ++ ·)
  | [], t => by
    show unq t = _
    cases unq t <;> rfl
  | c :: r, t => by
    have ih := unq_of_esc r t
    have e : esc (c :: r) ++ t = escC c ++ (esc r ++ t) := by unfold esc; rw [List.flatMap_cons, List.append_assoc]
    rw [e]
    unfold escC
    by_cases h : spec c = true
    · rw [if_pos h]
      show unq (92 :: c :: (esc r ++ t)) = _
      rw [unq_esc _ _ _ rfl, ih, Option.map_map]
      rfl
    · rw [if_neg h]
      show unq (c :: (esc r ++ t)) = _
      have h1 : c ≠ 34 := fun k => h (by rw [k]; decide)
      have h2 : c ≠ 92 := fun k => h (by rw [k]; decide)
      rw [unq_other _ _ h1 (.inl h2), ih, Option.map_map]
      rfl
theorem chrs_esc2 (l : List UInt8) : allS chr (esc2 l) = allS chr l := by
  unfold allS esc2
  induction l with
  | nil => rfl
  | cons c r ih =>
    rw [List.flatMap_cons, List.all_append, ih, List.all_cons, List.all_cons, List.all_cons]
    have h : chr 92 = true := by decide
    rw [h]
    simp
theorem chrs_esc (l : List UInt8) : allS chr (esc l) = allS chr l := by
  unfold allS esc
  induction l with
  | nil => rfl
  | cons c r ih =>
    rw [List.flatMap_cons, List.all_append, ih, List.all_cons]
    unfold escC
    have h : chr 92 = true := by decide
    split
    · rw [List.all_cons, List.all_cons, h]; simp
    · simp
theorem chr34 : chr 34 = true := by decide
/-- every byte behind a backslash -/
theorem quoted2 (l : List UInt8) : unqS (34 :: (esc2 l ++ [34])) = if allS chr l = true then (l, 0) else ([], 4) := by
  have ha : allS chr (34 :: (esc2 l ++ [34])) = allS chr l := by
    rw [← chrs_esc2 l]
    unfold allS
    rw [List.all_cons, List.all_append, List.all_cons, chr34]
    simp
  by_cases h : allS chr l = true
  · rw [if_pos h]
    refine unqS_some ⟨by simp, rfl, by rw [ha]; exact h⟩ ?_
    show unq (esc2 l ++ [34]) = some l
    rw [unq_esc2, unq_end _ rfl]
    simp
  · rw [if_neg h]
    exact unqS_no (by rintro ⟨_, _, k⟩; rw [ha] at k; exact h k)
/-- what Quote gives is read -/
theorem quoted1 (l : List UInt8) (h : allS chr l = true) : unqS (34 :: (esc l ++ [34])) = (l, 0) := by
  refine unqS_some ⟨by simp, rfl, ?_⟩ ?_
  · have := chrs_esc l
    unfold allS at this h ⊢
    rw [List.all_cons, List.all_append, this, h, List.all_cons, chr34]
    rfl
  · show unq (esc l ++ [34]) = some l
    rw [unq_of_esc, unq_end _ rfl]
    simp
/-- more behind it makes it invalid -/
theorem quoted_more (l m : List UInt8) : unqS ((34 :: (esc l ++ [34])) ++ m ++ [34]) = ([], 4) := by
  by_cases h : 2 ≤ ((34 :: (esc l ++ [34])) ++ m ++ [34]).length ∧ ((34 :: (esc l ++ [34])) ++ m ++ [34]).head? = some 34 ∧ allS chr ((34 :: (esc l ++ [34])) ++ m ++ [34]) = true
  · refine unqS_none h ?_
    have e : ((34 :: (esc l ++ [34])) ++ m ++ [34]).drop 1 = esc l ++ (34 :: (m ++ [34])) := by simp
    rw [e, unq_of_esc]
    have hn : unq (34 :: (m ++ [34])) = none := by
      cases m with
      | nil => exact unq_bad _ _ _ rfl
      | cons c r => exact unq_bad _ _ _ rfl
    rw [hn]; rfl
  · exact unqS_no h
theorem esc2_take (s : ByteArray) (k : Nat) (h : k < s.size) : esc2 (s.data.toList.take (k + 1)) = esc2 (s.data.toList.take k) ++ [92, s[k]] := by
  unfold esc2
  rw [List.take_succ_eq_append_getElem (by simpa using h), List.flatMap_append]
  rfl
theorem esc2_len (l : List UInt8) : (esc2 l).length = 2 * l.length := by
  unfold esc2
  induction l with
  | nil => rfl
  | cons c r ih => rw [List.flatMap_cons, List.length_append, ih]; simp; omega
end Go.Proofs.YtbhpcmbbbomknaaGreatDoor.Sp
