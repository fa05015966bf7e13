/- Lemmas for the statement's proof, several texts in one: SpPl, SpPl2, S0, O2, O3. -/
import Derived.Test.YtbpopmbabckojaaGreatDoorZ01
import Derived.Lib.SlTrimSet
import Derived.Test.YtbpopmbabckojaaGreatDoorZ02
import Derived.Test.YtbpopmbabckojaaGreatDoorZ03
import Derived.WalkSmall
import Derived.Deep.Onto
import Derived.Laws.Tables
import Derived.Deep.AppendLies
set_option linter.unusedVariables false
set_option linter.unusedSimpArgs false
/- Plain: the parts of a text between commas. -/
section
namespace Go.Proofs.YtbpopmbabckojaaGreatDoor.Sp
open Go.RowKit

/-- a part without white at its ends -/
def trimW (l : List UInt8) : List UInt8 := Lib.trimS l [32, 9]
/-- the pieces between commas: cur the one under way, q: inside quotes -/
def pieces (q : Bool) (cur : List UInt8) : List UInt8 → List (List UInt8)
  | [] => [cur]
  | [c] => if (q && c == 92) = true then [cur ++ [c]] else if (c == 44 && !q) = true then [cur, []] else [cur ++ [c]]
  | c :: d :: t => if (q && c == 92) = true then pieces q (cur ++ [c, d]) t else if (c == 34) = true then pieces (!q) (cur ++ [c]) (d :: t) else if (c == 44 && !q) = true then cur :: pieces q [] (d :: t) else pieces q (cur ++ [c]) (d :: t)
def keep (ps : List (List UInt8)) : List (List UInt8) := (ps.map trimW).filter fun p => !p.isEmpty
def splitS (l : List UInt8) : List (List UInt8) := keep (pieces false [] l)

theorem keep_app (a b : List (List UInt8)) : keep (a ++ b) = keep a ++ keep b := by unfold keep; rw [List.map_append, List.filter_append]
theorem keep_one (p : List UInt8) : keep [p] = if (trimW p).isEmpty = true then [] else [trimW p] := by
  unfold keep
  cases h : (trimW p).isEmpty <;> simp [h]

theorem pieces_esc {q : Bool} {cur t : List UInt8} {c d : UInt8} (h : (q && c == 92) = true) : pieces q cur (c :: d :: t) = pieces q (cur ++ [c, d]) t := by
  rw [pieces, if_pos h]
theorem pieces_esc_end {q : Bool} {cur : List UInt8} {c : UInt8} (h : (q && c == 92) = true) : pieces q cur [c] = [cur ++ [c]] := by
  rw [pieces, if_pos h]
theorem pieces_quote {q : Bool} {cur t : List UInt8} {c : UInt8} (h : ¬ (q && c == 92) = true) (h2 : (c == 34) = true) : pieces q cur (c :: t) = pieces (!q) (cur ++ [c]) t := by
  cases t with
  | nil =>
    have h3 : ¬ (c == 44 && !q) = true := by
      rw [beq_iff_eq] at h2
      subst h2
      simp
    rw [pieces, pieces, if_neg h, if_neg h3]
  | cons d t => rw [pieces, if_neg h, if_pos h2]
theorem pieces_comma {q : Bool} {cur t : List UInt8} {c : UInt8} (h : ¬ (q && c == 92) = true) (h2 : ¬ (c == 34) = true) (h3 : (c == 44 && !q) = true) : pieces q cur (c :: t) = cur :: pieces q [] t := by
  cases t with
  | nil => rw [pieces, pieces, if_neg h, if_pos h3]
  | cons d t => rw [pieces, if_neg h, if_neg h2, if_pos h3]
theorem pieces_else {q : Bool} {cur t : List UInt8} {c : UInt8} (h : ¬ (q && c == 92) = true) (h2 : ¬ (c == 34) = true) (h3 : ¬ (c == 44 && !q) = true) : pieces q cur (c :: t) = pieces q (cur ++ [c]) t := by
  cases t with
  | nil => rw [pieces, pieces, if_neg h, if_neg h3]
  | cons d t => rw [pieces, if_neg h, if_neg h2, if_neg h3]

/-- Where a reader of parts stands: from where the piece under way begins, i how far it is, q whether inside quotes, done the pieces behind it. -/
structure At (l : List UInt8) (fr i : Nat) (q : Bool) (done : List (List UInt8)) : Prop where
  le : fr ≤ i
  lt : i ≤ l.length
  eq : pieces false [] l = done ++ pieces q ((l.drop fr).take (i - fr)) (l.drop i)

theorem At.start (l : List UInt8) : At l 0 0 false [] := ⟨Nat.le_refl _, Nat.zero_le _, by simp⟩
theorem At.stop {l : List UInt8} {fr : Nat} {q : Bool} {done : List (List UInt8)} (h : At l fr l.length q done) : pieces false [] l = done ++ [l.drop fr] := by
  rw [h.eq, List.drop_length, pieces, List.take_of_length_le (by rw [List.length_drop]; exact Nat.le_refl _)]
theorem cur_snoc {l : List UInt8} {fr i : Nat} (h : fr ≤ i) (hi : i < l.length) : (l.drop fr).take (i - fr) ++ [l[i]] = (l.drop fr).take (i + 1 - fr) := by
  have e : i + 1 - fr = (i - fr) + 1 := by omega
  have hd : i - fr < (l.drop fr).length := by rw [List.length_drop]; omega
  rw [e, List.take_succ_eq_append_getElem hd, List.getElem_drop]
  congr 2
  congr 1
  omega
theorem drop_at {l : List UInt8} {i : Nat} (hi : i < l.length) : l.drop i = l[i] :: l.drop (i + 1) := List.drop_eq_getElem_cons hi

theorem At.esc {l : List UInt8} {fr i : Nat} {q : Bool} {done : List (List UInt8)} (h : At l fr i q done) (hi : i + 1 < l.length) (hc : (q && l[i] == 92) = true) : At l fr (i + 2) q done := by
  refine ⟨by have := h.le; omega, by omega, ?_⟩
  rw [h.eq, drop_at (by omega : i < l.length), drop_at hi, pieces_esc hc]
  congr 2
  rw [show ((l.drop fr).take (i - fr) ++ [l[i], l[i + 1]]) = ((l.drop fr).take (i - fr) ++ [l[i]]) ++ [l[i + 1]] by simp, cur_snoc h.le (by omega), cur_snoc (by have := h.le; omega) hi]
theorem At.esc_end {l : List UInt8} {fr i : Nat} {q : Bool} {done : List (List UInt8)} (h : At l fr i q done) (hi : i < l.length) (he : i + 1 = l.length) (hc : (q && l[i] == 92) = true) : pieces false [] l = done ++ [l.drop fr] := by
  rw [h.eq, drop_at hi, List.drop_eq_nil_of_le (show l.length ≤ i + 1 by omega), pieces_esc_end hc, cur_snoc h.le hi, List.take_of_length_le (by rw [List.length_drop]; omega)]
theorem At.quote {l : List UInt8} {fr i : Nat} {q : Bool} {done : List (List UInt8)} (h : At l fr i q done) (hi : i < l.length) (hc : ¬ (q && l[i] == 92) = true) (h2 : (l[i] == 34) = true) : At l fr (i + 1) (!q) done := by
  refine ⟨by have := h.le; omega, by omega, ?_⟩
  rw [h.eq, drop_at hi, pieces_quote hc h2, cur_snoc h.le hi]
theorem At.comma {l : List UInt8} {fr i : Nat} {q : Bool} {done : List (List UInt8)} (h : At l fr i q done) (hi : i < l.length) (hc : ¬ (q && l[i] == 92) = true) (h2 : ¬ (l[i] == 34) = true) (h3 : (l[i] == 44 && !q) = true) :
    At l (i + 1) (i + 1) q (done ++ [(l.drop fr).take (i - fr)]) := by
  refine ⟨Nat.le_refl _, by omega, ?_⟩
  rw [h.eq, drop_at hi, pieces_comma hc h2 h3]
  simp
theorem At.other {l : List UInt8} {fr i : Nat} {q : Bool} {done : List (List UInt8)} (h : At l fr i q done) (hi : i < l.length) (hc : ¬ (q && l[i] == 92) = true) (h2 : ¬ (l[i] == 34) = true) (h3 : ¬ (l[i] == 44 && !q) = true) : At l fr (i + 1) q done := by
  refine ⟨by have := h.le; omega, by omega, ?_⟩
  rw [h.eq, drop_at hi, pieces_else hc h2 h3, cur_snoc h.le hi]
/-- no more pieces than bytes -/
theorem pieces_len (l : List UInt8) : ∀ (n : Nat) (q : Bool) (cur : List UInt8) (l : List UInt8), l.length ≤ n → (pieces q cur l).length ≤ l.length + 1 := by
  intro n
  induction n with
  | zero =>
    intro q cur l h
    have : l = [] := List.eq_nil_of_length_eq_zero (by omega)
    subst this
    simp [pieces]
  | succ n ih =>
    intro q cur l h
    match l with
    | [] => simp [pieces]
    | [c] => rw [pieces]; repeat' split
             all_goals simp
    | c :: d :: t =>
      rw [pieces]
      simp only [List.length_cons] at h ⊢
      split
      · have := ih q (cur ++ [c, d]) t (by omega); omega
      · split
        · have := ih (!q) (cur ++ [c]) (d :: t) (by simp; omega); simp at this; omega
        · split
          · have := ih q [] (d :: t) (by simp; omega); simp at this ⊢; omega
          · have := ih q (cur ++ [c]) (d :: t) (by simp; omega); simp at this; omega
end Go.Proofs.YtbpopmbabckojaaGreatDoor.Sp
end

/- Plain: trimming from either end first; fields by name. -/
section
namespace Go.Proofs.YtbpopmbabckojaaGreatDoor.Sp
open Go.RowKit

/-! ### trimming -/
def whiteB (c : UInt8) : Bool := ([32, 9] : List UInt8).contains c
theorem right_cons (c : UInt8) (t : List UInt8) : Lib.trimRightS (c :: t) [32, 9] = if (Lib.trimRightS t [32, 9]).isEmpty = true then (if whiteB c = true then [] else [c]) else c :: Lib.trimRightS t [32, 9] := by
  unfold Lib.trimRightS
  rw [List.reverse_cons, List.dropWhile_append]
  cases h : (t.reverse.dropWhile fun x => ([32, 9] : List UInt8).contains x) with
  | nil =>
    simp only [List.isEmpty_nil, if_true, List.reverse_nil]
    by_cases hc : whiteB c = true
    · rw [if_pos hc, List.dropWhile_cons_of_pos (by exact hc)]; rfl
    · rw [if_neg hc, List.dropWhile_cons_of_neg (by exact hc)]; rfl
  | cons b r =>
    simp
theorem trim_comm : ∀ l : List UInt8, Lib.trimRightS (Lib.trimLeftS l [32, 9]) [32, 9] = trimW l
  | [] => rfl
  | c :: t => by
    have ih := trim_comm t
    unfold trimW Lib.trimS at ih ⊢
    by_cases hc : whiteB c = true
    · have h1 : Lib.trimLeftS (c :: t) [32, 9] = Lib.trimLeftS t [32, 9] := List.dropWhile_cons_of_pos (by exact hc)
      rw [h1, ih, right_cons, if_pos hc]
      cases h : Lib.trimRightS t [32, 9] with
      | nil => rfl
      | cons b r =>
        show _ = Lib.trimLeftS (c :: b :: r) [32, 9]
        exact (List.dropWhile_cons_of_pos (by exact hc)).symm
    · have h1 : Lib.trimLeftS (c :: t) [32, 9] = c :: t := List.dropWhile_cons_of_neg (by exact hc)
      rw [h1, right_cons, if_neg hc]
      cases h : Lib.trimRightS t [32, 9] with
      | nil => exact (List.dropWhile_cons_of_neg (by exact hc)).symm
      | cons b r => exact (List.dropWhile_cons_of_neg (by exact hc)).symm
theorem trim_len (l : List UInt8) : (trimW l).length ≤ l.length := by
  have h1 : ∀ m : List UInt8, (Lib.trimLeftS m [32, 9]).length ≤ m.length := fun m => (List.dropWhile_sublist _).length_le
  have h2 : ∀ m : List UInt8, (Lib.trimRightS m [32, 9]).length ≤ m.length := fun m => by
    unfold Lib.trimRightS
    rw [List.length_reverse]
    have := (List.dropWhile_sublist (fun x => ([32, 9] : List UInt8).contains x) (l := m.reverse)).length_le
    rwa [List.length_reverse] at this
  exact Nat.le_trans (h1 _) (h2 _)

/-! ### texts and fields -/
abbrev Fld := ByteArray × ByteArray
def ofL (l : List UInt8) : ByteArray := ⟨l.toArray⟩
theorem ofL_data (l : List UInt8) : (ofL l).data.toList = l := rfl
theorem ofL_of (x : ByteArray) : ofL x.data.toList = x := rfl
def strV (L : List ByteArray) : List Value := L.map .string
def fldV (L : List Fld) : List Value := L.flatMap fun f => [.string f.1, .string f.2]
theorem strV_len (L : List ByteArray) : (strV L).length = L.length * 1 := by simp [strV]
theorem fldV_len (L : List Fld) : (fldV L).length = L.length * 2 := by
  induction L with
  | nil => rfl
  | cons f t ih => unfold fldV at ih ⊢; rw [List.flatMap_cons, List.length_append, ih]; simp; omega
theorem strV_app (A B : List ByteArray) : strV (A ++ B) = strV A ++ strV B := by simp [strV]
theorem fldV_app (A B : List Fld) : fldV (A ++ B) = fldV A ++ fldV B := by simp [fldV]
theorem strV_get (L : List ByteArray) (i : Nat) (h : i < L.length) : (strV L)[i]? = some (.string L[i]) := by simp [strV, h]
theorem fldV_get : ∀ (L : List Fld) (i : Nat) (h : i < L.length), (fldV L)[i * 2]? = some (.string L[i].1) ∧ (fldV L)[i * 2 + 1]? = some (.string L[i].2)
  | [], _, h => absurd h (Nat.not_lt_zero _)
  | f :: t, 0, _ => ⟨rfl, rfl⟩
  | f :: t, i + 1, h => by
    have ih := fldV_get t i (by simp at h; omega)
    have e1 : (i + 1) * 2 = i * 2 + 2 := by omega
    rw [e1]
    show ([Value.string f.1, Value.string f.2] ++ fldV t)[i * 2 + 2]? = _ ∧ ([Value.string f.1, Value.string f.2] ++ fldV t)[i * 2 + 2 + 1]? = _
    exact ih
theorem strV_one (L : List ByteArray) : ∀ u ∈ strV L, u.oneCell' = true := by
  intro u hu
  obtain ⟨x, _, rfl⟩ := List.mem_map.1 hu
  rfl
theorem fldV_one (L : List Fld) : ∀ u ∈ fldV L, u.oneCell' = true := by
  intro u hu
  unfold fldV at hu
  obtain ⟨x, _, h⟩ := List.mem_flatMap.1 hu
  simp at h
  rcases h with rfl | rfl <;> rfl

def splitB (s : ByteArray) : List ByteArray := (splitS s.data.toList).map ofL
end Go.Proofs.YtbpopmbabckojaaGreatDoor.Sp
end

/- Slices of texts: one more, more; an element; small words. -/
section
namespace Go.Proofs.YtbpopmbabckojaaGreatDoor.Sp
open Go.RowKit Sl

section
variable {P : Program} {ops : Array Oper} {rest : List Oper} {o : Oper} {a : Act} {w : World} {Q : Exit → Act → World → Prop}
theorem wpList_pushS {wr w0 : World} (hgd : o.guard = none) (s x : Operand) (ho : o.op = .call { callee := .builtin .append, args := #[s, x], argTypes := #[51, 51] })
    (base : Nat) (v : Value) (n : Nat) (xs : List Value) (hs : a.eval s = v) (hown : Own w0 wr base 9 1 v n xs) (p : ByteArray) (hw : w = wr.alloc (.cells #[.string p] 9))
    (c : Nat) (hx : a.eval x = .slice (some ⟨wr.heap.size, 0, none⟩) 1 c) (hn : n ≤ 1000000)
    (h : ∀ v' w1, Own w0 w1 base 9 1 v' (n + 1) (xs ++ [.string p]) → wpList Tryz.prog ops Q rest (a.put o.dst v') w1) : wpList Tryz.prog ops Q (o :: rest) a w := by
  obtain ⟨i, hi, hz, h1, h2⟩ := info_parts (P := Tryz.prog) (e := 9) (z := .string ⟨#[]⟩) (size := 1) (bytes := 16) (by kernel_rfl)
  exact wpList_push hgd s x 51 ho base 9 i _ 1 16 Tryz.underlying51 hi hz h1 h2 rfl (by decide) v n xs hs hown [.string p] (by rw [hw]) rfl (by intro u hu; simp at hu; subst hu; rfl) c hx (by omega) (by unfold maxLen; omega) h
theorem wpList_pushAllS {w0 : World} (hgd : o.guard = none) (s x : Operand) (ho : o.op = .call { callee := .builtin .append, args := #[s, x], argTypes := #[51, 51] })
    (base : Nat) (v : Value) (n : Nat) (xs : List Value) (hs : a.eval s = v) (hown : Own w0 w base 9 1 v n xs) (u : Value) (L : List ByteArray) (hr : Rd w u L.length 1 (strV L)) (hx : a.eval x = u) (hn : n + L.length ≤ 1000000)
    (h : ∀ v' w1, Own w0 w1 base 9 1 v' (n + L.length) (xs ++ strV L) → wpList Tryz.prog ops Q rest (a.put o.dst v') w1) : wpList Tryz.prog ops Q (o :: rest) a w := by
  obtain ⟨i, hi, hz, h1, h2⟩ := info_parts (P := Tryz.prog) (e := 9) (z := .string ⟨#[]⟩) (size := 1) (bytes := 16) (by kernel_rfl)
  exact wpList_pushAll hgd s x 51 ho base 9 i _ 1 16 Tryz.underlying51 hi hz h1 h2 rfl (by decide) v n xs hs hown u L.length (strV L) hr hx (strV_one L) (by omega) (by unfold maxLen; omega) h
end

theorem str_cell {w : World} {ao : Option Addr} {n cap : Nat} {L : List ByteArray} (h : Rd w (.slice ao n cap) n 1 (strV L)) (k : Nat) (hk : k < L.length) :
    ∃ b off, ao = some ⟨b, off, none⟩ ∧ b < w.heap.size ∧ w.cell? ⟨b, off + k, none⟩ = some (.string L[k]) := by
  obtain ⟨ao', cap', e, _, _, _, hc⟩ := h
  cases e
  have hg := strV_get L k hk
  obtain ⟨b, off, rfl, hlt, hcc⟩ := hc (by intro e; rw [e] at hg; simp at hg)
  exact ⟨b, off, rfl, hlt, hcc _ _ hg⟩
theorem u8_ne {c : UInt8} {n : Nat} (hn : n < 256) (h : ¬ (c.toNat : Int) = n) : c ≠ UInt8.ofNat n := by
  intro e
  apply h
  rw [e]
  simp [Nat.mod_eq_of_lt hn]
theorem u8_eq {c : UInt8} {n : Nat} (h : (c.toNat : Int) = n) : c = UInt8.ofNat n := by
  have : c.toNat = n := by omega
  rw [← this, UInt8.ofNat_toNat]
theorem alloc_at (w : World) (o : Obj) : (w.alloc o).heap[w.heap.size]? = some o := by
  show (w.heap.push o)[w.heap.size]? = _
  simp
theorem run_slice_cell {w : World} {ad : Addr} {v : Value} (h : w.cell? ad = some v) : (loadVar 51 ad).run Tryz.prog w = .ok v w := by
  simp [loadVar, Tryz.underlying51, go_sem, h]
theorem rd_litS (w : World) (A : List ByteArray) (n : Nat) (hn : A.length = n) : Rd (w.alloc (.cells (strV A).toArray 9)) (.slice (some ⟨w.heap.size, 0, none⟩) n n) n 1 (strV A) := by
  subst hn
  refine ⟨_, _, rfl, Nat.le_refl _, (fun h => by cases h), (by unfold strV; rw [List.length_map, Nat.mul_one]), fun _ => ⟨w.heap.size, 0, rfl, by simp, fun i u hu => ?_⟩⟩
  rw [World.cell?_alloc_at _ _ _ _ rfl]
  simpa using hu
theorem u8_back (n : Int) (h : 0 ≤ n ∧ n ≤ 255) : ((UInt8.ofNat n.toNat).toNat : Int) = n := by
  have : n.toNat < 256 := by omega
  simp [Nat.mod_eq_of_lt this]
  omega
end Go.Proofs.YtbpopmbabckojaaGreatDoor.Sp
end

/- strings.NewReplacer at two single bytes that become two bytes each: made, built. -/
section
namespace Go.Proofs.YtbpopmbabckojaaGreatDoor.Sp
open Go.RowKit Sl

def repA : List ByteArray := [⟨#[34]⟩, ⟨#[92, 34]⟩, ⟨#[92]⟩, ⟨#[92, 92]⟩]
def nilS : Value := .slice none 0 0
/-- a replacer that is not yet built, in block b -/
structure RepNew (w : World) (b : Nat) (v : Value) : Prop where
  H : Reg.Has w b [.int .u32 0, .int .i32 0, .int .u32 0, .nilIface, v]
  R : Rd w v 4 1 (strV repA)

theorem newRep_any (v : Value) (w : World) (hv : Rd w v 4 1 (strV repA)) :
    Calls Tryz.prog 133 #[v] w fun e w' => ∃ b u, e = .returned (.pointer (some ⟨b, 0, none⟩)) ∧ w.heap.size ≤ b ∧ RepNew w' b u ∧ Below w.heap.size w w' := by
  obtain ⟨ao, cap, rfl⟩ := hv.form
  have HV := hide hv
  clear hv
  go_enter Tryz.func133, Tryz.ntmps133
  go_wp2_with (at_builtin; refine wpList_pushAllS (w0 := w) rfl _ _ rfl w.heap.size _ 0 [] rfl (Own.start w w.heap.size (Nat.le_refl _) _ _) _ repA (unhide HV) rfl (by decide) ?_; intro v1 w1 h1; obtain ⟨ao1, cp1, rfl⟩ := (Rd.own h1.own).form; have H1 := hide h1; clear h1)
  go_ret
  refine ⟨w1.heap.size, _, rfl, (unhide H1).le, ⟨Reg.Has.new w1 [.int .u32 0, .int .i32 0, .int .u32 0, .nilIface, _] 183, ?_⟩, (unhide H1).bel.alloc (unhide H1).le _⟩
  exact (Rd.own (unhide H1).own).alloc _
end Go.Proofs.YtbpopmbabckojaaGreatDoor.Sp
end

/- strings.NewReplacer: the table of a byteStringReplacer in memory. -/
section
namespace Go.Proofs.YtbpopmbabckojaaGreatDoor.Sp
open Go.RowKit Sl

/-- what the table holds: at the quote A, at the backslash B, and the list of what is replaced -/
def tabL (A B sl : Value) : List Value := ((List.replicate 256 nilS).set 34 A).set 92 B ++ [sl]
def tab0 (sl : Value) : Array Value := (Array.replicate 256 nilS).push sl
def tabZ : Array Value := (Array.replicate 256 nilS).push nilS
theorem tab0_eq (sl : Value) : (tab0 sl).toList = tabL nilS nilS sl := by kernel_rfl
theorem tabL_setA (A B sl u : Value) : (tabL A B sl).set 34 u = tabL u B sl := by kernel_rfl
theorem tabL_setB (A B sl u : Value) : (tabL A B sl).set 92 u = tabL A u sl := by kernel_rfl
theorem tabL_setS (A B sl u : Value) : (tabL A B sl).set 256 u = tabL A B u := by kernel_rfl
theorem tabL_S (A B sl : Value) : (tabL A B sl)[256]? = some sl := by kernel_rfl
theorem tabL_A (A B sl : Value) : (tabL A B sl)[34]? = some A := by kernel_rfl
theorem tabL_B (A B sl : Value) : (tabL A B sl)[92]? = some B := by kernel_rfl
theorem tabL_0 (A B sl : Value) : (tabL A B sl)[0]? = some nilS := by kernel_rfl
theorem tabL_len (A B sl : Value) : (tabL A B sl).length = 257 := by kernel_rfl
theorem tabL_no (A B sl : Value) (c : Nat) (h : c < 256) (h1 : c ≠ 34) (h2 : c ≠ 92) : (tabL A B sl)[c]? = some nilS := by
  unfold tabL
  rw [List.getElem?_append_left (by rw [List.length_set, List.length_set, List.length_replicate]; exact h), List.getElem?_set_ne (by omega), List.getElem?_set_ne (by omega), List.getElem?_replicate, if_pos h]

theorem built_tab (ao : Option Addr) (n c : Nat) : Tryz.prog.built 206 [(1, .slice ao n c)] = some (tab0 (.slice ao n c)) := by kernel_rfl
theorem zero_tab (w : World) : (zeroValue 206).run Tryz.prog w = .ok (.agg tabZ) w := by kernel_rfl

section
variable {ops : Array Oper} {rest : List Oper} {o : Oper} {a : Act} {w : World} {Q : Exit → Act → World → Prop}
theorem wpList_tabBuild (hgd : o.guard = none) (x : Operand) (ho : o.op = .build 206 #[(1, x)]) (ao : Option Addr) (n c : Nat) (hx : a.eval x = .slice ao n c)
    (h : wpList Tryz.prog ops Q rest (a.put o.dst (.agg (tab0 (.slice ao n c)))) w) : wpList Tryz.prog ops Q (o :: rest) a w := by
  refine wpList_plain hgd fun K hK => ?_
  have hc : Tryz.prog.built 206 ((#[(1, x)] : Array (Nat × Operand)).map fun (i, x) => (i, a.eval x)).toList = some (tab0 (.slice ao n c)) := by
    simp [hx]; exact built_tab ao n c
  unfold Oper.wp execOp
  simp only [ho, Sem.run_bind, run_build w _ _ _ hc, Result.andThen_ok]
  exact hK _ _ h
theorem run_tabAlloc (w : World) : (Instr.alloc 206 true (.tuple #[])).run Tryz.prog w = .ok (.pointer (some ⟨w.heap.size, 0, none⟩)) (w.alloc (.cells tabZ 206)) := by
  unfold Instr.alloc
  simp only [Sem.run_bind, zero_tab, Result.andThen_ok]
  simp [newVar, newRow, Value.cells]
theorem wpList_tabAlloc (hgd : o.guard = none) (ho : o.op = .alloc 206)
    (h : wpList Tryz.prog ops Q rest (a.put o.dst (.pointer (some ⟨w.heap.size, 0, none⟩))) (w.alloc (.cells tabZ 206))) : wpList Tryz.prog ops Q (o :: rest) a w := by
  refine wpList_plain hgd fun K hK => ?_
  unfold Oper.wp execOp
  simp only [ho, Sem.run_bind, run_tabAlloc, Result.andThen_ok]
  exact hK _ _ h
end

theorem has_tab0 (w : World) (v : Value) : Reg.Has ((w.alloc (.cells tabZ 206)).setRow w.heap.size (tab0 v)) w.heap.size (tabL nilS nilS v) := by
  have hg := alloc_at w (.cells tabZ 206)
  have hh := setRow_heap _ _ _ (tab0 v) _ _ hg
  refine ⟨fun i u hu => ?_, fun i hi => ?_, ?_⟩
  · rw [cell_setRow_same _ _ _ _ _ _ _ hg]
    rw [← tab0_eq] at hu
    simpa using hu
  · simp only [World.frozen?, hh]
    simp
  · exact (Array.getElem?_eq_some_iff.1 hh).1
theorem below_tab0 (w : World) (v : Value) : Below w.heap.size w ((w.alloc (.cells tabZ 206)).setRow w.heap.size (tab0 v)) := by
  have h := (Below.refl w.heap.size w).alloc (Nat.le_refl _) (.cells tabZ 206)
  refine ⟨h.os, h.tape, h.output, ?_, fun k hk => ?_⟩
  · simp [World.setRow]
  · rw [setRow_other _ _ _ _ (by omega)]
    exact h.block k hk
theorem tab0_one (ao : Option Addr) (n c : Nat) : (tab0 (.slice ao n c)).all (·.oneCell') = true := by kernel_rfl
theorem tab_info (v : Value) : (Tryz.prog.info? 206).map (·.size) = some (tab0 v).size := by kernel_rfl
theorem nil_eql (w : World) : (binOp .eql 66 (.slice none 0 0) (.slice none 0 0)).run Tryz.prog w = .ok (.bool true) w := by
  first | kernel_rfl | (simp [binOp, go_sem]; done)
theorem nil_eql_no (ad : Addr) (n c : Nat) (w : World) : (binOp .eql 66 (.slice (some ad) n c) (.slice none 0 0)).run Tryz.prog w = .ok (.bool false) w := by
  first | kernel_rfl | (simp [binOp, go_sem]; done)
theorem nil_neq (w : World) : (binOp .neq 66 (.slice none 0 0) (.slice none 0 0)).run Tryz.prog w = .ok (.bool false) w := by
  first | kernel_rfl | (simp [binOp, go_sem]; done)
theorem nil_neq_no (ad : Addr) (n c : Nat) (w : World) : (binOp .neq 66 (.slice (some ad) n c) (.slice none 0 0)).run Tryz.prog w = .ok (.bool true) w := by
  first | kernel_rfl | (simp [binOp, go_sem]; done)
end Go.Proofs.YtbpopmbabckojaaGreatDoor.Sp
end
