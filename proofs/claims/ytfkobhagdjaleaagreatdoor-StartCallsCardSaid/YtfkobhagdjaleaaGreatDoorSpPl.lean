/- Plain: the parts of a text between commas. -/
import Derived.Test.YtfkobhagdjaleaaGreatDoorReg2
import Derived.Lib.SlTrimSet
namespace Go.Proofs.YtfkobhagdjaleaaGreatDoor.Sp
open Go.RowKit

/-- a part without white at its ends -/
def trimW (l : List UInt8) : List UInt8 := Lib.trimS l [32, 9]
/-- the pieces between commas: cur the one under way, q: inside quotes -/
def pieces (q : Bool) (cur : List UInt8) : List UInt8 → List (List UInt8)
  | [] => [cur]
  | [c] => if (q && c == 92) = true then [cur ++ [c]] else if (c == 44 && !q) = true then [cur, []] else [cur ++ [c]]
  | c :: d :: t => if (q && c == 92) = true then pieces q (cur ++ [c, d]) t else if (c == 34) = true then pieces (!q) (cur ++ [c]) (d :: t) else if (c == 44 && !q) = true then cur :: pieces q [] (d :: t) else pieces q (cur ++ [c]) (d :: t)
def keep (ps : List (List UInt8)) : List (List UInt8) := (ps.map trimW).filter fun p => !p.isEmpty
def splitS (l : List UInt8) : List (List UInt8) := keep (pieces false [] l)

theorem keep_app (a b : List (List UInt8)) : keep (a ++ b) = keep a ++ keep b := by unfold keep; rw [List.map_append, List.filter_append]
theorem keep_one (p : List UInt8) : keep [p] = if (trimW p).isEmpty = true then [] else [trimW p] := by
  unfold keep
  cases h : (trimW p).isEmpty <;> simp [h]

theorem pieces_esc {q : Bool} {cur t : List UInt8} {c d : UInt8} (h : (q && c == 92) = true) : pieces q cur (c :: d :: t) = pieces q (cur ++ [c, d]) t := by
  rw [pieces, if_pos h]
theorem pieces_esc_end {q : Bool} {cur : List UInt8} {c : UInt8} (h : (q && c == 92) = true) : pieces q cur [c] = [cur ++ [c]] := by
  rw [pieces, if_pos h]
theorem pieces_quote {q : Bool} {cur t : List UInt8} {c : UInt8} (h : ¬ (q && c == 92) = true) (h2 : (c == 34) = true) : pieces q cur (c :: t) = pieces (!q) (cur ++ [c]) t := by
  cases t with
  | nil =>
    have h3 : ¬ (c == 44 && !q) = true := by
      rw [beq_iff_eq] at h2
      subst h2
      simp
    rw [pieces, pieces, if_neg h, if_neg h3]
  | cons d t => rw [pieces, if_neg h, if_pos h2]
theorem pieces_comma {q : Bool} {cur t : List UInt8} {c : UInt8} (h : ¬ (q && c == 92) = true) (h2 : ¬ (c == 34) = true) (h3 : (c == 44 && !q) = true) : pieces q cur (c :: t) = cur :: pieces q [] t := by
  cases t with
  | nil => rw [pieces, pieces, if_neg h, if_pos h3]
  | cons d t => rw [pieces, if_neg h, if_neg h2, if_pos h3]
theorem pieces_else {q : Bool} {cur t : List UInt8} {c : UInt8} (h : ¬ (q && c == 92) = true) (h2 : ¬ (c == 34) = true) (h3 : ¬ (c == 44 && !q) = true) : pieces q cur (c :: t) = pieces q (cur ++ [c]) t := by
  cases t with
  | nil => rw [pieces, pieces, if_neg h, if_neg h3]
  | cons d t => rw [pieces, if_neg h, if_neg h2, if_neg h3]

/-- Where a reader of parts stands: from where the piece under way begins, i how far it is, q whether inside quotes, done the pieces behind it. -/
structure At (l : List UInt8) (fr i : Nat) (q : Bool) (done : List (List UInt8)) : Prop where
  le : fr ≤ i
  lt : i ≤ l.length
  eq : pieces false [] l = done ++ pieces q ((l.drop fr).take (i - fr)) (l.drop i)

theorem At.start (l : List UInt8) : At l 0 0 false [] := ⟨Nat.le_refl _, Nat.zero_le _, by simp⟩
theorem At.stop {l : List UInt8} {fr : Nat} {q : Bool} {done : List (List UInt8)} (h : At l fr l.length q done) : pieces false [] l = done ++ [l.drop fr] := by
  rw [h.eq, List.drop_length, pieces, List.take_of_length_le (by rw [List.length_drop]; exact Nat.le_refl _)]
theorem cur_snoc {l : List UInt8} {fr i : Nat} (h : fr ≤ i) (hi : i < l.length) : (l.drop fr).take (i - fr) ++ [l[i]] = (l.drop fr).take (i + 1 - fr) := by
  have e : i + 1 - fr = (i - fr) + 1 := by omega
  have hd : i - fr < (l.drop fr).length := by rw [List.length_drop]; omega
  rw [e, List.take_succ_eq_append_getElem hd, List.getElem_drop]
  congr 2
  congr 1
  omega
theorem drop_at {l : List UInt8} {i : Nat} (hi : i < l.length) : l.drop i = l[i] :: l.drop (i + 1) := List.drop_eq_getElem_cons hi

theorem At.esc {l : List UInt8} {fr i : Nat} {q : Bool} {done : List (List UInt8)} (h : At l fr i q done) (hi : i + 1 < l.length) (hc : (q && l[i] == 92) = true) : At l fr (i + 2) q done := by
  refine ⟨by have := h.le; omega, by omega, ?_⟩
  rw [h.eq, drop_at (by omega : i < l.length), drop_at hi, pieces_esc hc]
  congr 2
  rw [show ((l.drop fr).take (i - fr) ++ [l[i], l[i + 1]]) = ((l.drop fr).take (i - fr) ++ [l[i]]) ++ [l[i + 1]] by simp, cur_snoc h.le (by omega), cur_snoc (by have := h.le; omega) hi]
theorem At.esc_end {l : List UInt8} {fr i : Nat} {q : Bool} {done : List (List UInt8)} (h : At l fr i q done) (hi : i < l.length) (he : i + 1 = l.length) (hc : (q && l[i] == 92) = true) : pieces false [] l = done ++ [l.drop fr] := by
  rw [h.eq, drop_at hi, List.drop_eq_nil_of_le (show l.length ≤ i + 1 by omega), pieces_esc_end hc, cur_snoc h.le hi, List.take_of_length_le (by rw [List.length_drop]; omega)]
theorem At.quote {l : List UInt8} {fr i : Nat} {q : Bool} {done : List (List UInt8)} (h : At l fr i q done) (hi : i < l.length) (hc : ¬ (q && l[i] == 92) = true) (h2 : (l[i] == 34) = true) : At l fr (i + 1) (!q) done := by
  refine ⟨by have := h.le; omega, by omega, ?_⟩
  rw [h.eq, drop_at hi, pieces_quote hc h2, cur_snoc h.le hi]
theorem At.comma {l : List UInt8} {fr i : Nat} {q : Bool} {done : List (List UInt8)} (h : At l fr i q done) (hi : i < l.length) (hc : ¬ (q && l[i] == 92) = true) (h2 : ¬ (l[i] == 34) = true) (h3 : (l[i] == 44 && !q) = true) :
    At l (i + 1) (i + 1) q (done ++ [(l.drop fr).take (i - fr)]) := by
  refine ⟨Nat.le_refl _, by omega, ?_⟩
  rw [h.eq, drop_at hi, pieces_comma hc h2 h3]
  simp
theorem At.other {l : List UInt8} {fr i : Nat} {q : Bool} {done : List (List UInt8)} (h : At l fr i q done) (hi : i < l.length) (hc : ¬ (q && l[i] == 92) = true) (h2 : ¬ (l[i] == 34) = true) (h3 : ¬ (l[i] == 44 && !q) = true) : At l fr (i + 1) q done := by
  refine ⟨by have := h.le; omega, by omega, ?_⟩
  rw [h.eq, drop_at hi, pieces_else hc h2 h3, cur_snoc h.le hi]
/-- no more pieces than bytes -/
theorem pieces_len (l : List UInt8) : ∀ (n : Nat) (q : Bool) (cur : List UInt8) (l : List UInt8), l.length ≤ n → (pieces q cur l).length ≤ l.length + 1 := by
  intro n
  induction n with
  | zero =>
    intro q cur l h
    have : l = [] := List.eq_nil_of_length_eq_zero (by omega)
    subst this
    simp [pieces]
  | succ n ih =>
    intro q cur l h
    match l with
    | [] => simp [pieces]
    | [c] => rw [pieces]; repeat' split
             all_goals simp
    | c :: d :: t =>
      rw [pieces]
      simp only [List.length_cons] at h ⊢
      split
      · have := ih q (cur ++ [c, d]) t (by omega); omega
      · split
        · have := ih (!q) (cur ++ [c]) (d :: t) (by simp; omega); simp at this; omega
        · split
          · have := ih q [] (d :: t) (by simp; omega); simp at this ⊢; omega
          · have := ih q (cur ++ [c]) (d :: t) (by simp; omega); simp at this; omega
end Go.Proofs.YtfkobhagdjaleaaGreatDoor.Sp
