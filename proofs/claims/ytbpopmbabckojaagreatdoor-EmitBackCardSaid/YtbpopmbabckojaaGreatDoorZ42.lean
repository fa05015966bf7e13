/- Lemmas for the statement's proof, several texts in one: Sz, U1, U10. -/
import Derived.Test.YtbpopmbabckojaaGreatDoorZ03
import Derived.Test.YtbpopmbabckojaaGreatDoorZ16
import Derived.Test.YtbpopmbabckojaaGreatDoorZ32
import Derived.Test.YtbpopmbabckojaaGreatDoorZ27
set_option linter.unusedVariables false
set_option linter.unusedSimpArgs false
/- Plain: the size of a size line. -/
section
namespace Go.Proofs.YtbpopmbabckojaaGreatDoor.Sp
open Go.RowKit

/-- a digit by sixteen; its number -/
def hexB (c : UInt8) : Bool := (48 ≤ c.toNat && c.toNat ≤ 57) || (97 ≤ c.toNat && c.toNat ≤ 102) || (65 ≤ c.toNat && c.toNat ≤ 70)
def hexV (c : UInt8) : Nat := if c.toNat ≤ 57 then c.toNat - 48 else if c.toNat ≤ 70 then c.toNat - 55 else c.toNat - 87
theorem hexV_lt (c : UInt8) (h : hexB c = true) : hexV c < 16 := by
  unfold hexB at h; unfold hexV
  simp only [Bool.or_eq_true, Bool.and_eq_true, decide_eq_true_eq] at h
  split
  · omega
  · split <;> omega
/-- how many digits a text begins with -/
def hexP : List UInt8 → Nat
  | [] => 0
  | c :: t => if hexB c = true then hexP t + 1 else 0
theorem hexP_le : ∀ l : List UInt8, hexP l ≤ l.length
  | [] => Nat.le_refl _
  | c :: t => by
    unfold hexP
    split
    · have := hexP_le t; simp only [List.length_cons]; omega
    · exact Nat.zero_le _
theorem hexP_all : ∀ l : List UInt8, (l.take (hexP l)).all hexB = true
  | [] => rfl
  | c :: t => by
    unfold hexP
    split
    · rename_i h
      rw [List.take_succ_cons, List.all_cons, h, hexP_all t]; rfl
    · rfl
theorem hexP_app : ∀ (x y : List UInt8), x.all hexB = true → hexP (x ++ y) = x.length + hexP y
  | [], y, _ => by simp
  | c :: t, y, h => by
    rw [List.all_cons, Bool.and_eq_true] at h
    rw [List.cons_append, hexP, if_pos h.1, hexP_app t y h.2, List.length_cons]; omega
/-- a number by sixteen -/
def hexN (l : List UInt8) : Nat := l.foldl (fun n c => n * 16 + hexV c) 0
theorem hexN_snoc (l : List UInt8) (c : UInt8) : hexN (l ++ [c]) = hexN l * 16 + hexV c := by simp [hexN]
theorem hexN_lt : ∀ (k : Nat) (l : List UInt8), l.length = k → l.all hexB = true → hexN l < 16 ^ k := by
  intro k
  induction k with
  | zero => intro l h _; rw [List.eq_nil_of_length_eq_zero h]; decide
  | succ k ih =>
    intro l h ha
    obtain ⟨x, c, rfl⟩ : ∃ x c, l = x ++ [c] := ⟨l.dropLast, l.getLast (by intro e; rw [e] at h; simp at h), (List.dropLast_concat_getLast _).symm⟩
    rw [List.all_append, Bool.and_eq_true] at ha
    have h1 := ih x (by simpa using h) ha.1
    have h2 := hexV_lt c (by simpa using ha.2)
    rw [hexN_snoc, Nat.pow_succ]
    omega
def sizeK (l : List UInt8) : Bool := decide (hexP l < 1 ∨ 16 < hexP l) || (!(l.drop (hexP l)).isEmpty && !((l.drop (hexP l)).head? == some 59 && allS chr (l.drop (hexP l))))
/-- a size line's number, its status -/
def sizeF (l : List UInt8) : Nat × Nat :=
  if sizeK l = true then (0, 400)
  else if 9007199254740991 < hexN (l.take (hexP l)) then (0, 413) else (hexN (l.take (hexP l)), 0)
theorem sizeF_le (l : List UInt8) : (sizeF l).1 ≤ 9007199254740991 := by
  unfold sizeF
  split
  · exact Nat.zero_le _
  · split
    · exact Nat.zero_le _
    · simp only; omega
end Go.Proofs.YtbpopmbabckojaaGreatDoor.Sp
end

/- Plain: what the reference's decoder of chunks sees of what came: all that emit wrote, or a first part. -/
section
namespace Go.Proofs.YtbpopmbabckojaaGreatDoor.Sp
open Go.RowKit Sl

/-- the fields behind chunks: the status, whether the end is there, the fields -/
def tkG (L H C : Nat) : Nat → List UInt8 → Nat → List Fld → Nat × Bool × List Fld
  | 0, _, _, tr => (0, false, tr)
  | f + 1, b, used, tr =>
    if (lnS L 400 b).2 ≠ 0 then ((lnS L 400 b).2, false, tr)
    else if H < used + (if (lnS L 400 b).1 = 0 then b.length else (lnS L 400 b).1) then (431, false, tr)
    else if (lnS L 400 b).1 = 0 then (0, false, tr)
    else if (lnT L 400 b).toList.isEmpty = true then (0, true, tr)
    else if lineB (lnT L 400 b) = false then (400, false, tr)
    else if C ≤ tr.length then (431, false, tr)
    else tkG L H C f (b.drop (lnS L 400 b).1) (used + (lnS L 400 b).1) (tr ++ [lineF (lnT L 400 b)])
/-- chunks: the status, whether the end is there, the content, the fields -/
def dkG (L H C B : Nat) : Nat → List UInt8 → List UInt8 → Nat × Bool × List UInt8 × List Fld
  | 0, _, body => (0, false, body, [])
  | f + 1, b, body =>
    if (lnS L 400 b).2 ≠ 0 then ((lnS L 400 b).2, false, body, [])
    else if (lnS L 400 b).1 = 0 then (0, false, body, [])
    else if (sizeF (lnT L 400 b).data.toList).2 ≠ 0 then ((sizeF (lnT L 400 b).data.toList).2, false, body, [])
    else if B - body.length < (sizeF (lnT L 400 b).data.toList).1 then (413, false, body, [])
    else if (sizeF (lnT L 400 b).data.toList).1 = 0 then
      ((tkG L H C ((b.drop (lnS L 400 b).1).length + 1) (b.drop (lnS L 400 b).1) 0 []).1, (tkG L H C ((b.drop (lnS L 400 b).1).length + 1) (b.drop (lnS L 400 b).1) 0 []).2.1, body, (tkG L H C ((b.drop (lnS L 400 b).1).length + 1) (b.drop (lnS L 400 b).1) 0 []).2.2)
    else if (b.drop (lnS L 400 b).1).length ≤ (sizeF (lnT L 400 b).data.toList).1 ∨ (b.drop (lnS L 400 b).1).drop (sizeF (lnT L 400 b).data.toList).1 = [13] then (0, false, body ++ (b.drop (lnS L 400 b).1).take (sizeF (lnT L 400 b).data.toList).1, [])
    else if ((b.drop (lnS L 400 b).1).drop (sizeF (lnT L 400 b).data.toList).1).take 2 ≠ [13, 10] then (400, false, body ++ (b.drop (lnS L 400 b).1).take (sizeF (lnT L 400 b).data.toList).1, [])
    else dkG L H C B f ((b.drop (lnS L 400 b).1).drop ((sizeF (lnT L 400 b).data.toList).1 + 2)) (body ++ (b.drop (lnS L 400 b).1).take (sizeF (lnT L 400 b).data.toList).1)
def dkS (L H C B : Nat) (b : List UInt8) : Nat × Bool × List UInt8 × List Fld := dkG L H C B (b.length + 1) b []

section
variable {L H C B : Nat}
theorem tkG_line (f : Nat) (x : List UInt8) (k used : Nat) (tr : List Fld) (hx : noEnd x) (hk : k < x.length + 2) (hL : x.length + 2 ≤ L) (hH : used + k ≤ H) : (tkG L H C f ((x ++ [13, 10]).take k) used tr).1 = 0 ∧ (tkG L H C f ((x ++ [13, 10]).take k) used tr).2.1 = false := by
  cases f with
  | zero => exact ⟨rfl, rfl⟩
  | succ f =>
    have h1 := lnS_part L 400 x k hx hk hL
    have hl : ((x ++ [13, 10]).take k).length = k := by rw [List.length_take]; simp; omega
    simp only [tkG]
    rw [h1, hl]
    simp only [ne_eq, not_true_eq_false, if_false, if_true]
    rw [if_neg (by omega)]
    exact ⟨rfl, rfl⟩
theorem tkG_field (f : Nat) (g : Fld) (rest : List UInt8) (used : Nat) (tr : List Fld) (hg : chkS g = true) (hL : g.1.size + g.2.size + 4 ≤ L) (hH : used + (g.1.size + g.2.size + 4) ≤ H) (hC : tr.length < C) :
    tkG L H C (f + 1) ((lineZ g).data.toList ++ [13, 10] ++ rest) used tr = tkG L H C f rest (used + (g.1.size + g.2.size + 4)) (tr ++ [g]) := by
  have hz : (lineZ g).data.toList.length = g.1.size + g.2.size + 2 := by rw [← lineZ_size g]; simp
  have h1 := lnS_whole L 400 (lineZ g).data.toList rest (line_noEnd hg) (by omega)
  have h2 := lnT_whole L 400 (lineZ g).data.toList rest (line_noEnd hg) (by omega)
  rw [ofL_of] at h2
  have h3 := lineF_back g hg
  have h4 : (lineZ g).toList.isEmpty = false := by have := emp_of (lineZ_ne g); rwa [ofL_of] at this
  have h5 := drop_whole (lineZ g).data.toList rest
  generalize hb : (lineZ g).data.toList ++ [13, 10] ++ rest = b at h1 h2 h5 ⊢
  rw [hz] at h1 h5
  simp only [tkG]
  rw [h1, h2, h3.1, h3.2, h4]
  rw [h5]
  simp only [ne_eq, not_true_eq_false, if_false, if_true, Bool.true_eq_false, Bool.false_eq_true]
  rw [if_neg (by rw [if_neg (by omega)]; omega), if_neg (by omega), if_neg (by omega), show g.1.size + g.2.size + 2 + 2 = g.1.size + g.2.size + 4 by omega]
theorem tkG_whole : ∀ (G : List Fld) (f used : Nat) (tr : List Fld) (rest : List UInt8), G.all chkS = true → (∀ g ∈ G, g.1.size + g.2.size + 4 ≤ L) → used + (linesL G).length + 2 ≤ H → tr.length + G.length ≤ C → G.length < f → 2 ≤ L →
    tkG L H C f (linesL G ++ [13, 10] ++ rest) used tr = (0, true, tr ++ G)
  | [], 0, _, _, _, _, _, _, _, hf, _ => absurd hf (by simp)
  | [], f + 1, used, tr, rest, _, _, hH, hC, _, hL2 => by
    have h1 := lnS_whole L 400 [] rest (by intro c hc; cases hc) (by simpa using hL2)
    have h2 := lnT_whole L 400 [] rest (by intro c hc; cases hc) (by simpa using hL2)
    have e : linesL [] = [] := rfl
    rw [e] at hH ⊢
    simp only [List.length_nil] at hH h1 ⊢
    simp only [tkG]
    rw [h1, h2]
    simp only [ne_eq, not_true_eq_false, if_false]
    rw [if_neg (by simp; omega), if_neg (by omega), if_pos (by rw [Lib.toList_data]; rfl)]
    simp
  | g :: G, 0, _, _, _, _, _, _, _, hf, _ => absurd hf (by simp)
  | g :: G, f + 1, used, tr, rest, hg, hs, hH, hC, hf, hL2 => by
    rw [List.all_cons, Bool.and_eq_true] at hg
    have hl : (linesL (g :: G)).length = g.1.size + g.2.size + 4 + (linesL G).length := by
      have hz : (lineZ g).data.toList.length = g.1.size + g.2.size + 2 := by rw [← lineZ_size g]; simp
      rw [linesL_cons]; simp only [List.length_append, hz, ends_ne]
    rw [hl] at hH
    simp only [List.length_cons] at hC hf
    have e : linesL (g :: G) ++ [13, 10] ++ rest = (lineZ g).data.toList ++ [13, 10] ++ (linesL G ++ [13, 10] ++ rest) := by rw [linesL_cons]; simp
    rw [e, tkG_field f g _ used tr hg.1 (hs g List.mem_cons_self) (by omega) (by omega), tkG_whole G f _ _ rest hg.2 (fun x hx => hs x (List.mem_cons_of_mem _ hx)) (by omega) (by simp; omega) (by omega) hL2]
    simp
theorem tkG_part : ∀ (G : List Fld) (f used k : Nat) (tr : List Fld), G.all chkS = true → (∀ g ∈ G, g.1.size + g.2.size + 4 ≤ L) → used + (linesL G).length + 2 ≤ H → tr.length + G.length ≤ C → 2 ≤ L → k < (linesL G).length + 2 →
    (tkG L H C f ((linesL G ++ [13, 10]).take k) used tr).1 = 0 ∧ (tkG L H C f ((linesL G ++ [13, 10]).take k) used tr).2.1 = false
  | [], f, used, k, tr, _, _, hH, _, hL2, hk => by
    have e : linesL [] = [] := rfl
    rw [e] at hH hk ⊢
    simp only [List.length_nil] at hH hk
    exact tkG_line f [] k used tr (by intro c hc; cases hc) (by simpa using hk) (by simpa using hL2) (by omega)
  | g :: G, f, used, k, tr, hg, hs, hH, hC, hL2, hk => by
    rw [List.all_cons, Bool.and_eq_true] at hg
    have hz : (lineZ g).data.toList.length = g.1.size + g.2.size + 2 := by rw [← lineZ_size g]; simp
    have hl : (linesL (g :: G)).length = g.1.size + g.2.size + 4 + (linesL G).length := by
      rw [linesL_cons]; simp only [List.length_append, hz, ends_ne]
    rw [hl] at hH hk
    simp only [List.length_cons] at hC
    have h4 := hs g List.mem_cons_self
    have e : linesL (g :: G) ++ [13, 10] = ((lineZ g).data.toList ++ [13, 10]) ++ (linesL G ++ [13, 10]) := by rw [linesL_cons]; simp
    have hzl : ((lineZ g).data.toList ++ [13, 10]).length = g.1.size + g.2.size + 4 := by rw [List.length_append, hz]; rfl
    rw [e]
    rcases Nat.lt_or_ge k (g.1.size + g.2.size + 4) with h1 | h1
    · rw [List.take_append_of_le_length (by omega)]
      exact tkG_line f _ k used tr (line_noEnd hg.1) (by omega) (by omega) (by omega)
    · rw [List.take_append, List.take_of_length_le (by omega), hzl]
      cases f with
      | zero => exact ⟨rfl, rfl⟩
      | succ f =>
        rw [tkG_field f g _ used tr hg.1 h4 (by omega) (by omega)]
        exact tkG_part G f _ _ _ hg.2 (fun x hx => hs x (List.mem_cons_of_mem _ hx)) (by omega) (by simp; omega) hL2 (by omega)

/-- a chunk's size, written, is read -/
def HxOk (n : Nat) : Prop := noEnd (hxL n) ∧ sizeF (hxL n) = (n, 0) ∧ (hxL n).length ≤ 3
instance (n : Nat) : Decidable (HxOk n) := by unfold HxOk noEnd; infer_instance
theorem hx_ok : ∀ n : Fin 401, HxOk n.val := by decide +kernel

theorem dkG_chunk (f : Nat) (p rest body : List UInt8) (hp : p ≠ []) (hx : HxOk p.length) (hL : 5 ≤ L) (hB : body.length + p.length ≤ B) :
    dkG L H C B (f + 1) (chunkL p ++ rest) body = dkG L H C B f rest (body ++ p) := by
  obtain ⟨x1, x2, x3⟩ := hx
  have e : chunkL p ++ rest = hxL p.length ++ [13, 10] ++ (p ++ ([13, 10] ++ rest)) := by unfold chunkL; simp
  have h1 := lnS_whole L 400 (hxL p.length) (p ++ ([13, 10] ++ rest)) x1 (by omega)
  have h2 := lnT_whole L 400 (hxL p.length) (p ++ ([13, 10] ++ rest)) x1 (by omega)
  have h5 := drop_whole (hxL p.length) (p ++ ([13, 10] ++ rest))
  have hpl : 0 < p.length := List.length_pos_iff.2 hp
  rw [e]
  generalize hxL p.length ++ [13, 10] ++ (p ++ ([13, 10] ++ rest)) = b at h1 h2 h5 ⊢
  simp only [dkG, h1, h2, ofL_data, x2, h5, ne_eq, not_true_eq_false, if_false]
  rw [if_neg (by omega), if_neg (by omega), if_neg (by omega), if_neg (by simp), List.drop_left, if_neg (by simp), List.take_left, ← List.drop_drop, List.drop_left]
  rfl
theorem dkG_chunk_part (f : Nat) (p body : List UInt8) (k : Nat) (hp : p ≠ []) (hx : HxOk p.length) (hL : 5 ≤ L) (hB : body.length + p.length ≤ B) (hk : k < (chunkL p).length) :
    (dkG L H C B f ((chunkL p).take k) body).1 = 0 ∧ (dkG L H C B f ((chunkL p).take k) body).2.1 = false := by
  cases f with
  | zero => exact ⟨rfl, rfl⟩
  | succ f =>
    obtain ⟨x1, x2, x3⟩ := hx
    have hpl : 0 < p.length := List.length_pos_iff.2 hp
    have e : chunkL p = (hxL p.length ++ [13, 10]) ++ (p ++ [13, 10]) := by unfold chunkL; simp
    have hcl : (chunkL p).length = (hxL p.length).length + 2 + p.length + 2 := by rw [e]; simp; omega
    rw [hcl] at hk
    rw [e]
    rcases Nat.lt_or_ge k ((hxL p.length).length + 2) with h | h
    · rw [List.take_append_of_le_length (by simp; omega)]
      have h1 := lnS_part L 400 (hxL p.length) k x1 h (by omega)
      simp only [dkG]
      rw [h1]
      exact ⟨rfl, rfl⟩
    · rw [List.take_append, List.take_of_length_le (by simp; omega)]
      have hl2 : (hxL p.length ++ [13, 10]).length = (hxL p.length).length + 2 := by simp
      rw [hl2]
      obtain ⟨j, hj⟩ : ∃ j, k - ((hxL p.length).length + 2) = j := ⟨_, rfl⟩
      rw [hj]
      have hjl : j < p.length + 2 := by omega
      have h1 := lnS_whole L 400 (hxL p.length) ((p ++ [13, 10]).take j) x1 (by omega)
      have h2 := lnT_whole L 400 (hxL p.length) ((p ++ [13, 10]).take j) x1 (by omega)
      have h5 := drop_whole (hxL p.length) ((p ++ [13, 10]).take j)
      generalize hxL p.length ++ [13, 10] ++ (p ++ [13, 10]).take j = b at h1 h2 h5 ⊢
      simp only [dkG, h1, h2, ofL_data, x2, h5, ne_eq, not_true_eq_false, if_false]
      have hor : ((p ++ [13, 10]).take j).length ≤ p.length ∨ ((p ++ [13, 10]).take j).drop p.length = [13] := by
        rcases Nat.lt_or_ge p.length j with hh | hh
        · right
          obtain rfl : j = p.length + 1 := by omega
          rw [List.take_append, List.take_of_length_le (by omega), List.drop_left, show p.length + 1 - p.length = 1 by omega]
          rfl
        · left
          rw [List.length_take]; omega
      rw [if_neg (by omega), if_neg (by omega), if_neg (by omega), if_pos hor]
      exact ⟨rfl, rfl⟩
/-- the last chunk, and the fields -/
theorem dkG_last (f : Nat) (T : List Fld) (body : List UInt8) (hT : T.all chkS = true) (hs : ∀ g ∈ T, g.1.size + g.2.size + 4 ≤ L) (hH : (linesL T).length + 2 ≤ H) (hC : T.length ≤ C) (hL : 5 ≤ L) :
    dkG L H C B (f + 1) ([48, 13, 10] ++ linesL T ++ [13, 10]) body = (0, true, body, T) := by
  have e : [48, 13, 10] ++ linesL T ++ [13, 10] = [48] ++ [13, 10] ++ (linesL T ++ [13, 10]) := by simp
  have h0 : noEnd [48] := by unfold noEnd; decide
  have h1 := lnS_whole L 400 [48] (linesL T ++ [13, 10]) h0 (by show 1 + 2 ≤ L; omega)
  have h2 := lnT_whole L 400 [48] (linesL T ++ [13, 10]) h0 (by show 1 + 2 ≤ L; omega)
  have h5 := drop_whole [48] (linesL T ++ [13, 10])
  have hz : sizeF [48] = (0, 0) := by decide +kernel
  have hn : T.length < (linesL T ++ [13, 10]).length + 1 := by
    have := linesL_ge T
    simp only [List.length_append, List.length_cons, List.length_nil]
    omega
  have ht := tkG_whole (L := L) (H := H) (C := C) T ((linesL T ++ [13, 10]).length + 1) 0 [] [] hT hs (by omega) (by simpa using hC) hn (by omega)
  rw [List.append_nil] at ht
  rw [e]
  generalize [48] ++ [13, 10] ++ (linesL T ++ [13, 10]) = b at h1 h2 h5 ⊢
  simp only [dkG, h1, h2, ofL_data, hz, h5, ht]
  simp
theorem dkG_last_part (f : Nat) (T : List Fld) (body : List UInt8) (k : Nat) (hT : T.all chkS = true) (hs : ∀ g ∈ T, g.1.size + g.2.size + 4 ≤ L) (hH : (linesL T).length + 2 ≤ H) (hC : T.length ≤ C) (hL : 5 ≤ L) (hk : k < (linesL T).length + 5) :
    (dkG L H C B f (([48, 13, 10] ++ linesL T ++ [13, 10]).take k) body).1 = 0 ∧ (dkG L H C B f (([48, 13, 10] ++ linesL T ++ [13, 10]).take k) body).2.1 = false := by
  cases f with
  | zero => exact ⟨rfl, rfl⟩
  | succ f =>
    have e : [48, 13, 10] ++ linesL T ++ [13, 10] = ([48] ++ [13, 10]) ++ (linesL T ++ [13, 10]) := by simp
    have h0 : noEnd [48] := by unfold noEnd; decide
    have hz : sizeF [48] = (0, 0) := by decide +kernel
    rw [e]
    rcases Nat.lt_or_ge k 3 with h | h
    · rw [List.take_append_of_le_length (by simp; omega)]
      have h1 := lnS_part L 400 [48] k h0 h (by show 1 + 2 ≤ L; omega)
      simp only [dkG]
      rw [h1]
      exact ⟨rfl, rfl⟩
    · rw [List.take_append, List.take_of_length_le (by simp; omega), show ([48] ++ [13, 10] : List UInt8).length = 3 from rfl]
      have h1 := lnS_whole L 400 [48] ((linesL T ++ [13, 10]).take (k - 3)) h0 (by show 1 + 2 ≤ L; omega)
      have h2 := lnT_whole L 400 [48] ((linesL T ++ [13, 10]).take (k - 3)) h0 (by show 1 + 2 ≤ L; omega)
      have h5 := drop_whole [48] ((linesL T ++ [13, 10]).take (k - 3))
      have ht := tkG_part (L := L) (H := H) (C := C) T (((linesL T ++ [13, 10]).take (k - 3)).length + 1) 0 (k - 3) [] hT hs (by omega) (by simpa using hC) (by omega) (by omega)
      generalize [48] ++ [13, 10] ++ (linesL T ++ [13, 10]).take (k - 3) = b at h1 h2 h5 ⊢
      simp only [dkG, h1, h2, ofL_data, hz, h5, ne_eq, not_true_eq_false, if_false, if_true]
      rw [if_neg (by simp), if_neg (by omega)]
      exact ht
/-- all that was written -/
theorem dkG_enc (k : Nat) (hk : k ≠ 0) (T : List Fld) (hT : T.all chkS = true) (hs : ∀ g ∈ T, g.1.size + g.2.size + 4 ≤ L) (hH : (linesL T).length + 2 ≤ H) (hC : T.length ≤ C) (hL : 5 ≤ L) : ∀ (m : Nat) (s body : List UInt8) (f : Nat), s.length ≤ m → body.length + s.length ≤ B → B ≤ 400 ∨ s.length ≤ 400 → s.length < f →
    dkG L H C B f (chunksL k s ++ ([48, 13, 10] ++ linesL T ++ [13, 10])) body = (0, true, body ++ s, T) := by
  intro m
  induction m with
  | zero =>
    intro s body f h1 _ _ hf
    obtain rfl := List.eq_nil_of_length_eq_zero (Nat.le_zero.1 h1)
    obtain ⟨f, rfl⟩ : ∃ g, f = g + 1 := ⟨f - 1, by simp at hf; omega⟩
    rw [chunksL_nil, List.nil_append, dkG_last f T body hT hs hH hC hL, List.append_nil]
  | succ m ih =>
    intro s body f h1 h2 h3 hf
    obtain ⟨f, rfl⟩ : ∃ g, f = g + 1 := ⟨f - 1, by omega⟩
    by_cases he : s = []
    · subst he
      rw [chunksL_nil, List.nil_append, dkG_last f T body hT hs hH hC hL, List.append_nil]
    · have hsl : 0 < s.length := List.length_pos_iff.2 he
      have hp : s.take k ≠ [] := by
        intro e
        have := congrArg List.length e
        rw [List.length_take, List.length_nil] at this
        omega
      have hpl : (s.take k).length ≤ s.length := by rw [List.length_take]; omega
      have hdl : (s.drop k).length < s.length := by rw [List.length_drop]; omega
      rw [chunksL_more k s he hk, List.append_assoc, dkG_chunk f _ _ body hp (hx_ok ⟨(s.take k).length, by rcases h3 with h | h <;> omega⟩) hL (by omega),
        ih (s.drop k) (body ++ s.take k) f (by omega) (by rw [List.length_append, List.length_take, List.length_drop]; omega) (h3.elim .inl (fun h => .inr (by omega))) (by omega)]
      rw [List.append_assoc, List.take_append_drop]
theorem dkG_enc_part (k : Nat) (hk : k ≠ 0) (T : List Fld) (hT : T.all chkS = true) (hs : ∀ g ∈ T, g.1.size + g.2.size + 4 ≤ L) (hH : (linesL T).length + 2 ≤ H) (hC : T.length ≤ C) (hL : 5 ≤ L) : ∀ (m : Nat) (s body : List UInt8) (f j : Nat), s.length ≤ m → body.length + s.length ≤ B → s.length ≤ 400 → j < (chunksL k s ++ ([48, 13, 10] ++ linesL T ++ [13, 10])).length →
    (dkG L H C B f ((chunksL k s ++ ([48, 13, 10] ++ linesL T ++ [13, 10])).take j) body).1 = 0 ∧ (dkG L H C B f ((chunksL k s ++ ([48, 13, 10] ++ linesL T ++ [13, 10])).take j) body).2.1 = false := by
  intro m
  induction m with
  | zero =>
    intro s body f j h1 _ _ hj
    obtain rfl := List.eq_nil_of_length_eq_zero (Nat.le_zero.1 h1)
    rw [chunksL_nil, List.nil_append] at hj ⊢
    exact dkG_last_part f T body j hT hs hH hC hL (by simp at hj; omega)
  | succ m ih =>
    intro s body f j h1 h2 h3 hj
    by_cases he : s = []
    · subst he
      rw [chunksL_nil, List.nil_append] at hj ⊢
      exact dkG_last_part f T body j hT hs hH hC hL (by simp at hj; omega)
    · have hsl : 0 < s.length := List.length_pos_iff.2 he
      have hp : s.take k ≠ [] := by
        intro e
        have := congrArg List.length e
        rw [List.length_take, List.length_nil] at this
        omega
      have hpl : (s.take k).length ≤ s.length := by rw [List.length_take]; omega
      have hdl : (s.drop k).length < s.length := by rw [List.length_drop]; omega
      have hx := hx_ok ⟨(s.take k).length, by omega⟩
      rw [chunksL_more k s he hk, List.append_assoc] at hj ⊢
      rcases Nat.lt_or_ge j (chunkL (s.take k)).length with h | h
      · rw [List.take_append_of_le_length (by omega)]
        exact dkG_chunk_part f _ body j hp hx hL (by omega) h
      · rw [List.take_append, List.take_of_length_le h]
        rw [List.length_append] at hj
        cases f with
        | zero => exact ⟨rfl, rfl⟩
        | succ f =>
          rw [dkG_chunk f _ _ body hp hx hL (by omega)]
          exact ih (s.drop k) (body ++ s.take k) f _ (by omega) (by rw [List.length_append, List.length_take, List.length_drop]; omega) (by omega) (by omega)
theorem chunksL_ge (k : Nat) (hk : k ≠ 0) : ∀ (m : Nat) (s : List UInt8), s.length ≤ m → s.length ≤ (chunksL k s).length := by
  intro m
  induction m with
  | zero => intro s h; omega
  | succ m ih =>
    intro s h
    by_cases he : s = []
    · subst he; simp
    · have hsl : 0 < s.length := List.length_pos_iff.2 he
      rw [chunksL_more k s he hk]
      have := ih (s.drop k) (by rw [List.length_drop]; omega)
      unfold chunkL
      simp only [List.length_append, List.length_take, List.length_drop] at this ⊢
      omega
theorem dkS_enc (bo : List UInt8) (size : Int) (T : List Fld) (hb : bo.length ≤ 400) (hB : bo.length ≤ B) (hT : T.all chkS = true) (hs : ∀ g ∈ T, g.1.size + g.2.size + 4 ≤ L) (hH : (linesL T).length + 2 ≤ H) (hC : T.length ≤ C) (hL : 5 ≤ L) :
    dkS L H C B (encL bo size T) = (0, true, bo, T) := by
  have e : encL bo size T = chunksL (sizeU size bo.length) bo ++ ([48, 13, 10] ++ linesL T ++ [13, 10]) := by unfold encL; simp
  unfold dkS
  rw [e, dkG_enc _ (sizeU_pos _ _) T hT hs hH hC hL _ bo [] _ (Nat.le_refl _) (by simpa using hB) (.inr hb) (by
    have := chunksL_ge (sizeU size bo.length) (sizeU_pos _ _) _ bo (Nat.le_refl _)
    simp only [List.length_append, List.length_cons, List.length_nil]
    omega)]
  rfl
theorem dkS_part (bo : List UInt8) (size : Int) (T : List Fld) (k : Nat) (hb : bo.length ≤ 400) (hB : bo.length ≤ B) (hT : T.all chkS = true) (hs : ∀ g ∈ T, g.1.size + g.2.size + 4 ≤ L) (hH : (linesL T).length + 2 ≤ H) (hC : T.length ≤ C) (hL : 5 ≤ L) (hk : k < (encL bo size T).length) :
    (dkS L H C B ((encL bo size T).take k)).1 = 0 ∧ (dkS L H C B ((encL bo size T).take k)).2.1 = false := by
  have e : encL bo size T = chunksL (sizeU size bo.length) bo ++ ([48, 13, 10] ++ linesL T ++ [13, 10]) := by unfold encL; simp
  unfold dkS
  rw [e] at hk ⊢
  exact dkG_enc_part _ (sizeU_pos _ _) T hT hs hH hC hL _ bo [] _ k (Nat.le_refl _) (by simpa using hB) hb hk
end
end Go.Proofs.YtbpopmbabckojaaGreatDoor.Sp
end

/- The reference's parser: frame, of requests. -/
section
namespace Go.Proofs.YtbpopmbabckojaaGreatDoor.Sp
open Go.RowKit Sl

set_option maxRecDepth 100000 in
set_option maxHeartbeats 4000000 in
theorem frame_f (s : ByteArray) (L H C B b : Nat) (ak : Value) (h : Hd) (fs : Value) (o : Option Nat) (c : Bool) (hF : Few h.F) (ho : CLis h.F o) (hc : TEis h.F c) (hok : c = true → h.mi ≠ 0 ∧ o = none) (w : World) (hp : PSt w b L H C B false ak s) (hv : Rd w fs h.F.length 2 (fldV h.F)) :
    Calls Tryz.prog 65 #[.pointer (some ⟨b, 0, none⟩), .agg (hdM h fs)] w fun e w' => e = .returned (.tuple #[frV (frS o c).1 (frS o c).2.1, .int .i64 0]) ∧ Below w.heap.size w w' := by
  have q := hide (fun w1 (hb : Below w.heap.size w w1) => freq_any h.mi fs h.F o c hF ho hc hok w1 (hv.below hb))
  obtain ⟨ao, cap, rfl⟩ := hv.form
  have p4 := hp.cell 4 _ rfl
  have zb := hp.lt
  clear hF ho hc hok hp hv
  obtain ⟨me, ta, re, st, mi, F⟩ := h
  unfold hdM msgV
  simp only at q ⊢
  obtain ⟨⟨k, nn, tt⟩, hr⟩ : ∃ r, frS o c = r := ⟨_, rfl⟩
  rw [hr] at q ⊢
  clear hr
  unfold frV at q ⊢
  simp only at q ⊢
  have HB0 := hide (((Below.refl w.heap.size w).alloc (Nat.le_refl _) (.cells #[.string me, .string ta, .int .i64 st, .string re, .int .i64 mi, .slice ao F.length cap, .string ⟨#[]⟩, .slice none 0 0] 24)).alloc (by simp) (.cells #[.int .i64 0, .int .i64 0] 97))
  have HX := hide ((Reg.Has.at w w.heap.size [.string me, .string ta, .int .i64 st, .string re, .int .i64 mi, .slice ao F.length cap, .string ⟨#[]⟩, .slice none 0 0] 24 rfl).alloc (.cells #[.int .i64 0, .int .i64 0] 97))
  have HR0 := hide (Reg.Has.at (w.alloc (.cells #[.string me, .string ta, .int .i64 st, .string re, .int .i64 mi, .slice ao F.length cap, .string ⟨#[]⟩, .slice none 0 0] 24)) (w.heap.size + 1) [.int .i64 0, .int .i64 0] 97 (by simp))
  have P4 := ((unhide HB0).cell (p := ⟨b, 4, none⟩) zb).trans p4
  have ZB := Nat.lt_of_lt_of_le zb (unhide HB0).size
  clear p4
  go_enter Tryz.func65, Tryz.ntmps65
  go_upto_region 1 with fail
  generalize (w.alloc (.cells #[.string me, .string ta, .int .i64 st, .string re, .int .i64 mi, .slice ao F.length cap, .string ⟨#[]⟩, .slice none 0 0] 24)).alloc (.cells #[.int .i64 0, .int .i64 0] 97) = w0 at *
  have G := unhide HX
  have pa0 := G.cell 0 _ rfl; have pa1 := G.cell 1 _ rfl; have pa2 := G.cell 2 _ rfl; have pa3 := G.cell 3 _ rfl; have pa4 := G.cell 4 _ rfl; have pa5 := G.cell 5 _ rfl; have pa6 := G.cell 6 _ rfl; have pa7 := G.cell 7 _ rfl; have za := G.lt
  clear G
  go_wp2_with fail
  refine (unhide q _ (unhide HB0)).mono ?_; rintro e w2 ⟨rfl, hb2⟩
  have HR2 := hide ((unhide HR0).call hb2)
  have HB2 := hide ((unhide HB0).trans (hb2.mono (unhide HB0).size))
  clear hb2 pa0 pa1 pa2 pa3 pa4 pa5 pa6 pa7 za P4 HR0 HB0 HX q
  go_wp2_with (refine wpList_storeFr rfl _ _ rfl (w.heap.size + 1) rfl #[.int .i64 k, .int .i64 nn] rfl rfl _ rfl (unhide HR2) (by kernel_rfl) ?_; intro HZ; have HBZ := below_setCells (w.heap.size + 1) (Nat.le_succ _) (#[.int .i64 k, .int .i64 nn] : Array Value).toList 0 _ (unhide HB2); generalize World.setCells _ (w.heap.size + 1) 0 _ = w9 at HZ HBZ ⊢; have ZZ := hide HZ; have BZ := hide HBZ; clear HZ HBZ)
  have hrl := run_loadFr (w.heap.size + 1) #[.int .i64 k, .int .i64 nn] rfl (unhide ZZ)
  exact bodyPost_ret (Mem.results_cell2 (ad := ⟨w.heap.size + 1, 0, none⟩) Tryz.results65 rfl hrl) rfl ⟨rfl, unhide BZ⟩
end Go.Proofs.YtbpopmbabckojaaGreatDoor.Sp
end
