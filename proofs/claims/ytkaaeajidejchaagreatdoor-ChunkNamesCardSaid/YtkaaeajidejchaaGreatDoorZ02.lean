/- Lemmas for the statement's proof, several texts in one: SpPl2, S0, O2, O3, O4, O5, Reg4. -/
import Derived.Test.YtkaaeajidejchaaGreatDoorZ01
import Derived.WalkSmall
import Derived.Deep.Onto
import Derived.Laws.Tables
import Derived.Deep.AppendLies
import Derived.Laws.MakeOwn
import Derived.Laws.CopyOwn
import Derived.Deep.MidRow
set_option linter.unusedVariables false
set_option linter.unusedSimpArgs false
/- Plain: trimming from either end first; fields by name. -/
section
namespace Go.Proofs.YtkaaeajidejchaaGreatDoor.Sp
open Go.RowKit

/-! ### trimming -/
def whiteB (c : UInt8) : Bool := ([32, 9] : List UInt8).contains c
theorem right_cons (c : UInt8) (t : List UInt8) : Lib.trimRightS (c :: t) [32, 9] = if (Lib.trimRightS t [32, 9]).isEmpty = true then (if whiteB c = true then [] else [c]) else c :: Lib.trimRightS t [32, 9] := by
  unfold Lib.trimRightS
  rw [List.reverse_cons, List.dropWhile_append]
  cases h : (t.reverse.dropWhile fun x => ([32, 9] : List UInt8).contains x) with
  | nil =>
    simp only [List.isEmpty_nil, if_true, List.reverse_nil]
    by_cases hc : whiteB c = true
    · rw [if_pos hc, List.dropWhile_cons_of_pos (by exact hc)]; rfl
    · rw [if_neg hc, List.dropWhile_cons_of_neg (by exact hc)]; rfl
  | cons b r =>
    simp
theorem trim_comm : ∀ l : List UInt8, Lib.trimRightS (Lib.trimLeftS l [32, 9]) [32, 9] = trimW l
  | [] => rfl
  | c :: t => by
    have ih := trim_comm t
    unfold trimW Lib.trimS at ih ⊢
    by_cases hc : whiteB c = true
    · have h1 : Lib.trimLeftS (c :: t) [32, 9] = Lib.trimLeftS t [32, 9] := List.dropWhile_cons_of_pos (by exact hc)
      rw [h1, ih, right_cons, if_pos hc]
      cases h : Lib.trimRightS t [32, 9] with
      | nil => rfl
      | cons b r =>
        show _ = Lib.trimLeftS (c :: b :: r) [32, 9]
        exact (List.dropWhile_cons_of_pos (by exact hc)).symm
    · have h1 : Lib.trimLeftS (c :: t) [32, 9] = c :: t := List.dropWhile_cons_of_neg (by exact hc)
      rw [h1, right_cons, if_neg hc]
      cases h : Lib.trimRightS t [32, 9] with
      | nil => exact (List.dropWhile_cons_of_neg (by exact hc)).symm
      | cons b r => exact (List.dropWhile_cons_of_neg (by exact hc)).symm
theorem trim_len (l : List UInt8) : (trimW l).length ≤ l.length := by
  have h1 : ∀ m : List UInt8, (Lib.trimLeftS m [32, 9]).length ≤ m.length := fun m => (List.dropWhile_sublist _).length_le
  have h2 : ∀ m : List UInt8, (Lib.trimRightS m [32, 9]).length ≤ m.length := fun m => by
    unfold Lib.trimRightS
    rw [List.length_reverse]
    have := (List.dropWhile_sublist (fun x => ([32, 9] : List UInt8).contains x) (l := m.reverse)).length_le
    rwa [List.length_reverse] at this
  exact Nat.le_trans (h1 _) (h2 _)

/-! ### texts and fields -/
abbrev Fld := ByteArray × ByteArray
def ofL (l : List UInt8) : ByteArray := ⟨l.toArray⟩
theorem ofL_data (l : List UInt8) : (ofL l).data.toList = l := rfl
theorem ofL_of (x : ByteArray) : ofL x.data.toList = x := rfl
def strV (L : List ByteArray) : List Value := L.map .string
def fldV (L : List Fld) : List Value := L.flatMap fun f => [.string f.1, .string f.2]
theorem strV_len (L : List ByteArray) : (strV L).length = L.length * 1 := by simp [strV]
theorem fldV_len (L : List Fld) : (fldV L).length = L.length * 2 := by
  induction L with
  | nil => rfl
  | cons f t ih => unfold fldV at ih ⊢; rw [List.flatMap_cons, List.length_append, ih]; simp; omega
theorem strV_app (A B : List ByteArray) : strV (A ++ B) = strV A ++ strV B := by simp [strV]
theorem fldV_app (A B : List Fld) : fldV (A ++ B) = fldV A ++ fldV B := by simp [fldV]
theorem strV_get (L : List ByteArray) (i : Nat) (h : i < L.length) : (strV L)[i]? = some (.string L[i]) := by simp [strV, h]
theorem fldV_get : ∀ (L : List Fld) (i : Nat) (h : i < L.length), (fldV L)[i * 2]? = some (.string L[i].1) ∧ (fldV L)[i * 2 + 1]? = some (.string L[i].2)
  | [], _, h => absurd h (Nat.not_lt_zero _)
  | f :: t, 0, _ => ⟨rfl, rfl⟩
  | f :: t, i + 1, h => by
    have ih := fldV_get t i (by simp at h; omega)
    have e1 : (i + 1) * 2 = i * 2 + 2 := by omega
    rw [e1]
    show ([Value.string f.1, Value.string f.2] ++ fldV t)[i * 2 + 2]? = _ ∧ ([Value.string f.1, Value.string f.2] ++ fldV t)[i * 2 + 2 + 1]? = _
    exact ih
theorem strV_one (L : List ByteArray) : ∀ u ∈ strV L, u.oneCell' = true := by
  intro u hu
  obtain ⟨x, _, rfl⟩ := List.mem_map.1 hu
  rfl
theorem fldV_one (L : List Fld) : ∀ u ∈ fldV L, u.oneCell' = true := by
  intro u hu
  unfold fldV at hu
  obtain ⟨x, _, h⟩ := List.mem_flatMap.1 hu
  simp at h
  rcases h with rfl | rfl <;> rfl

def splitB (s : ByteArray) : List ByteArray := (splitS s.data.toList).map ofL
end Go.Proofs.YtkaaeajidejchaaGreatDoor.Sp
end

/- Slices of texts: one more, more; an element; small words. -/
section
namespace Go.Proofs.YtkaaeajidejchaaGreatDoor.Sp
open Go.RowKit Sl

section
variable {P : Program} {ops : Array Oper} {rest : List Oper} {o : Oper} {a : Act} {w : World} {Q : Exit → Act → World → Prop}
theorem wpList_pushS {wr w0 : World} (hgd : o.guard = none) (s x : Operand) (ho : o.op = .call { callee := .builtin .append, args := #[s, x], argTypes := #[24, 24] })
    (base : Nat) (v : Value) (n : Nat) (xs : List Value) (hs : a.eval s = v) (hown : Own w0 wr base 9 1 v n xs) (p : ByteArray) (hw : w = wr.alloc (.cells #[.string p] 9))
    (c : Nat) (hx : a.eval x = .slice (some ⟨wr.heap.size, 0, none⟩) 1 c) (hn : n ≤ 1000000)
    (h : ∀ v' w1, Own w0 w1 base 9 1 v' (n + 1) (xs ++ [.string p]) → wpList Tryz.prog ops Q rest (a.put o.dst v') w1) : wpList Tryz.prog ops Q (o :: rest) a w := by
  obtain ⟨i, hi, hz, h1, h2⟩ := info_parts (P := Tryz.prog) (e := 9) (z := .string ⟨#[]⟩) (size := 1) (bytes := 16) (by kernel_rfl)
  exact wpList_push hgd s x 24 ho base 9 i _ 1 16 Tryz.underlying24 hi hz h1 h2 rfl (by decide) v n xs hs hown [.string p] (by rw [hw]) rfl (by intro u hu; simp at hu; subst hu; rfl) c hx (by omega) (by unfold maxLen; omega) h
theorem wpList_pushAllS {w0 : World} (hgd : o.guard = none) (s x : Operand) (ho : o.op = .call { callee := .builtin .append, args := #[s, x], argTypes := #[24, 24] })
    (base : Nat) (v : Value) (n : Nat) (xs : List Value) (hs : a.eval s = v) (hown : Own w0 w base 9 1 v n xs) (u : Value) (L : List ByteArray) (hr : Rd w u L.length 1 (strV L)) (hx : a.eval x = u) (hn : n + L.length ≤ 1000000)
    (h : ∀ v' w1, Own w0 w1 base 9 1 v' (n + L.length) (xs ++ strV L) → wpList Tryz.prog ops Q rest (a.put o.dst v') w1) : wpList Tryz.prog ops Q (o :: rest) a w := by
  obtain ⟨i, hi, hz, h1, h2⟩ := info_parts (P := Tryz.prog) (e := 9) (z := .string ⟨#[]⟩) (size := 1) (bytes := 16) (by kernel_rfl)
  exact wpList_pushAll hgd s x 24 ho base 9 i _ 1 16 Tryz.underlying24 hi hz h1 h2 rfl (by decide) v n xs hs hown u L.length (strV L) hr hx (strV_one L) (by omega) (by unfold maxLen; omega) h
end

theorem str_cell {w : World} {ao : Option Addr} {n cap : Nat} {L : List ByteArray} (h : Rd w (.slice ao n cap) n 1 (strV L)) (k : Nat) (hk : k < L.length) :
    ∃ b off, ao = some ⟨b, off, none⟩ ∧ b < w.heap.size ∧ w.cell? ⟨b, off + k, none⟩ = some (.string L[k]) := by
  obtain ⟨ao', cap', e, _, _, _, hc⟩ := h
  cases e
  have hg := strV_get L k hk
  obtain ⟨b, off, rfl, hlt, hcc⟩ := hc (by intro e; rw [e] at hg; simp at hg)
  exact ⟨b, off, rfl, hlt, hcc _ _ hg⟩
theorem u8_ne {c : UInt8} {n : Nat} (hn : n < 256) (h : ¬ (c.toNat : Int) = n) : c ≠ UInt8.ofNat n := by
  intro e
  apply h
  rw [e]
  simp [Nat.mod_eq_of_lt hn]
theorem u8_eq {c : UInt8} {n : Nat} (h : (c.toNat : Int) = n) : c = UInt8.ofNat n := by
  have : c.toNat = n := by omega
  rw [← this, UInt8.ofNat_toNat]
theorem alloc_at (w : World) (o : Obj) : (w.alloc o).heap[w.heap.size]? = some o := by
  show (w.heap.push o)[w.heap.size]? = _
  simp
theorem run_slice_cell {w : World} {ad : Addr} {v : Value} (h : w.cell? ad = some v) : (loadVar 24 ad).run Tryz.prog w = .ok v w := by
  simp [loadVar, Tryz.underlying24, go_sem, h]
theorem rd_litS (w : World) (A : List ByteArray) (n : Nat) (hn : A.length = n) : Rd (w.alloc (.cells (strV A).toArray 9)) (.slice (some ⟨w.heap.size, 0, none⟩) n n) n 1 (strV A) := by
  subst hn
  refine ⟨_, _, rfl, Nat.le_refl _, (fun h => by cases h), (by unfold strV; rw [List.length_map, Nat.mul_one]), fun _ => ⟨w.heap.size, 0, rfl, by simp, fun i u hu => ?_⟩⟩
  rw [World.cell?_alloc_at _ _ _ _ rfl]
  simpa using hu
theorem u8_back (n : Int) (h : 0 ≤ n ∧ n ≤ 255) : ((UInt8.ofNat n.toNat).toNat : Int) = n := by
  have : n.toNat < 256 := by omega
  simp [Nat.mod_eq_of_lt this]
  omega
end Go.Proofs.YtkaaeajidejchaaGreatDoor.Sp
end

/- strings.NewReplacer at two single bytes that become two bytes each: made, built. -/
section
namespace Go.Proofs.YtkaaeajidejchaaGreatDoor.Sp
open Go.RowKit Sl

def repA : List ByteArray := [⟨#[34]⟩, ⟨#[92, 34]⟩, ⟨#[92]⟩, ⟨#[92, 92]⟩]
def nilS : Value := .slice none 0 0
/-- a replacer that is not yet built, in block b -/
structure RepNew (w : World) (b : Nat) (v : Value) : Prop where
  H : Reg.Has w b [.int .u32 0, .int .i32 0, .int .u32 0, .nilIface, v]
  R : Rd w v 4 1 (strV repA)

theorem newRep_any (v : Value) (w : World) (hv : Rd w v 4 1 (strV repA)) :
    Calls Tryz.prog 46 #[v] w fun e w' => ∃ b u, e = .returned (.pointer (some ⟨b, 0, none⟩)) ∧ w.heap.size ≤ b ∧ RepNew w' b u ∧ Below w.heap.size w w' := by
  obtain ⟨ao, cap, rfl⟩ := hv.form
  have HV := hide hv
  clear hv
  go_enter Tryz.func46, Tryz.ntmps46
  go_wp2_with (at_builtin; refine wpList_pushAllS (w0 := w) rfl _ _ rfl w.heap.size _ 0 [] rfl (Own.start w w.heap.size (Nat.le_refl _) _ _) _ repA (unhide HV) rfl (by decide) ?_; intro v1 w1 h1; obtain ⟨ao1, cp1, rfl⟩ := (Rd.own h1.own).form; have H1 := hide h1; clear h1)
  go_ret
  refine ⟨w1.heap.size, _, rfl, (unhide H1).le, ⟨Reg.Has.new w1 [.int .u32 0, .int .i32 0, .int .u32 0, .nilIface, _] 105, ?_⟩, (unhide H1).bel.alloc (unhide H1).le _⟩
  exact (Rd.own (unhide H1).own).alloc _
end Go.Proofs.YtkaaeajidejchaaGreatDoor.Sp
end

/- strings.NewReplacer: the table of a byteStringReplacer in memory. -/
section
namespace Go.Proofs.YtkaaeajidejchaaGreatDoor.Sp
open Go.RowKit Sl

/-- what the table holds: at the quote A, at the backslash B, and the list of what is replaced -/
def tabL (A B sl : Value) : List Value := ((List.replicate 256 nilS).set 34 A).set 92 B ++ [sl]
def tab0 (sl : Value) : Array Value := (Array.replicate 256 nilS).push sl
def tabZ : Array Value := (Array.replicate 256 nilS).push nilS
theorem tab0_eq (sl : Value) : (tab0 sl).toList = tabL nilS nilS sl := by kernel_rfl
theorem tabL_setA (A B sl u : Value) : (tabL A B sl).set 34 u = tabL u B sl := by kernel_rfl
theorem tabL_setB (A B sl u : Value) : (tabL A B sl).set 92 u = tabL A u sl := by kernel_rfl
theorem tabL_setS (A B sl u : Value) : (tabL A B sl).set 256 u = tabL A B u := by kernel_rfl
theorem tabL_S (A B sl : Value) : (tabL A B sl)[256]? = some sl := by kernel_rfl
theorem tabL_A (A B sl : Value) : (tabL A B sl)[34]? = some A := by kernel_rfl
theorem tabL_B (A B sl : Value) : (tabL A B sl)[92]? = some B := by kernel_rfl
theorem tabL_0 (A B sl : Value) : (tabL A B sl)[0]? = some nilS := by kernel_rfl
theorem tabL_len (A B sl : Value) : (tabL A B sl).length = 257 := by kernel_rfl
theorem tabL_no (A B sl : Value) (c : Nat) (h : c < 256) (h1 : c ≠ 34) (h2 : c ≠ 92) : (tabL A B sl)[c]? = some nilS := by
  unfold tabL
  rw [List.getElem?_append_left (by rw [List.length_set, List.length_set, List.length_replicate]; exact h), List.getElem?_set_ne (by omega), List.getElem?_set_ne (by omega), List.getElem?_replicate, if_pos h]

theorem built_tab (ao : Option Addr) (n c : Nat) : Tryz.prog.built 146 [(1, .slice ao n c)] = some (tab0 (.slice ao n c)) := by kernel_rfl
theorem zero_tab (w : World) : (zeroValue 146).run Tryz.prog w = .ok (.agg tabZ) w := by kernel_rfl

section
variable {ops : Array Oper} {rest : List Oper} {o : Oper} {a : Act} {w : World} {Q : Exit → Act → World → Prop}
theorem wpList_tabBuild (hgd : o.guard = none) (x : Operand) (ho : o.op = .build 146 #[(1, x)]) (ao : Option Addr) (n c : Nat) (hx : a.eval x = .slice ao n c)
    (h : wpList Tryz.prog ops Q rest (a.put o.dst (.agg (tab0 (.slice ao n c)))) w) : wpList Tryz.prog ops Q (o :: rest) a w := by
  refine wpList_plain hgd fun K hK => ?_
  have hc : Tryz.prog.built 146 ((#[(1, x)] : Array (Nat × Operand)).map fun (i, x) => (i, a.eval x)).toList = some (tab0 (.slice ao n c)) := by
    simp [hx]; exact built_tab ao n c
  unfold Oper.wp execOp
  simp only [ho, Sem.run_bind, run_build w _ _ _ hc, Result.andThen_ok]
  exact hK _ _ h
theorem run_tabAlloc (w : World) : (Instr.alloc 146 true (.tuple #[])).run Tryz.prog w = .ok (.pointer (some ⟨w.heap.size, 0, none⟩)) (w.alloc (.cells tabZ 146)) := by
  unfold Instr.alloc
  simp only [Sem.run_bind, zero_tab, Result.andThen_ok]
  simp [newVar, newRow, Value.cells]
theorem wpList_tabAlloc (hgd : o.guard = none) (ho : o.op = .alloc 146)
    (h : wpList Tryz.prog ops Q rest (a.put o.dst (.pointer (some ⟨w.heap.size, 0, none⟩))) (w.alloc (.cells tabZ 146))) : wpList Tryz.prog ops Q (o :: rest) a w := by
  refine wpList_plain hgd fun K hK => ?_
  unfold Oper.wp execOp
  simp only [ho, Sem.run_bind, run_tabAlloc, Result.andThen_ok]
  exact hK _ _ h
end

theorem has_tab0 (w : World) (v : Value) : Reg.Has ((w.alloc (.cells tabZ 146)).setRow w.heap.size (tab0 v)) w.heap.size (tabL nilS nilS v) := by
  have hg := alloc_at w (.cells tabZ 146)
  have hh := setRow_heap _ _ _ (tab0 v) _ _ hg
  refine ⟨fun i u hu => ?_, fun i hi => ?_, ?_⟩
  · rw [cell_setRow_same _ _ _ _ _ _ _ hg]
    rw [← tab0_eq] at hu
    simpa using hu
  · simp only [World.frozen?, hh]
    simp
  · exact (Array.getElem?_eq_some_iff.1 hh).1
theorem below_tab0 (w : World) (v : Value) : Below w.heap.size w ((w.alloc (.cells tabZ 146)).setRow w.heap.size (tab0 v)) := by
  have h := (Below.refl w.heap.size w).alloc (Nat.le_refl _) (.cells tabZ 146)
  refine ⟨h.os, h.tape, h.output, ?_, fun k hk => ?_⟩
  · simp [World.setRow]
  · rw [setRow_other _ _ _ _ (by omega)]
    exact h.block k hk
theorem tab0_one (ao : Option Addr) (n c : Nat) : (tab0 (.slice ao n c)).all (·.oneCell') = true := by kernel_rfl
theorem tab_info (v : Value) : (Tryz.prog.info? 146).map (·.size) = some (tab0 v).size := by kernel_rfl
theorem nil_eql (w : World) : (binOp .eql 56 (.slice none 0 0) (.slice none 0 0)).run Tryz.prog w = .ok (.bool true) w := by
  first | kernel_rfl | (simp [binOp, go_sem]; done)
theorem nil_eql_no (ad : Addr) (n c : Nat) (w : World) : (binOp .eql 56 (.slice (some ad) n c) (.slice none 0 0)).run Tryz.prog w = .ok (.bool false) w := by
  first | kernel_rfl | (simp [binOp, go_sem]; done)
theorem nil_neq (w : World) : (binOp .neq 56 (.slice none 0 0) (.slice none 0 0)).run Tryz.prog w = .ok (.bool false) w := by
  first | kernel_rfl | (simp [binOp, go_sem]; done)
theorem nil_neq_no (ad : Addr) (n c : Nat) (w : World) : (binOp .neq 56 (.slice (some ad) n c) (.slice none 0 0)).run Tryz.prog w = .ok (.bool true) w := by
  first | kernel_rfl | (simp [binOp, go_sem]; done)
end Go.Proofs.YtkaaeajidejchaaGreatDoor.Sp
end

/- strings.Replacer.build at two single bytes that become two bytes each: the table. -/
section
namespace Go.Proofs.YtkaaeajidejchaaGreatDoor.Sp
open Go.RowKit Sl

theorem Has.grown {w w' : World} {b : Nat} {vs : List Value} {row : Option Nat} (h : Reg.Has w b vs) (hg : w.grownBy w' row) (hne : some b ≠ row) : Reg.Has w' b vs := by
  refine ⟨fun i v hv => hg.cell (h.cell i v hv) hne, fun i hi => ?_, Nat.lt_of_lt_of_le h.lt hg.size⟩
  rw [hg.frozen_far ⟨b, i, none⟩ h.lt hne]
  exact h.free i hi
theorem grown_set (w : World) (b i : Nat) (v : Value) : w.grownBy (w.setCell ⟨b, i, none⟩ v) (some b) :=
  ⟨rfl, rfl, rfl, by simp [World.setCell], fun k _ hk => Below.heap_setCell _ _ _ _ (fun e => hk (by simp [e]))⟩
/-- two blocks whose first cells part are two -/
theorem Has.ne {w : World} {b g : Nat} {vs : List Value} {u x : Value} (h : Reg.Has w b vs) (h0 : vs[0]? = some u) (hc : w.cell? ⟨g, 0, none⟩ = some x) (hx : u ≠ x) : g ≠ b := by
  rintro rfl
  rw [h.cell 0 u h0] at hc
  exact hx (Option.some.inj hc)

/-- u is a slice of these bytes, whole, in a block from B on -/
def BytesAt (B : Nat) (w : World) (u : Value) (l : List UInt8) : Prop := ∃ b c, u = .slice (some ⟨b, 0, none⟩) l.length c ∧ B ≤ b ∧ Reg.Has w b (Mem.bytesV l)
theorem BytesAt.call {B : Nat} {w w' : World} {u : Value} {l : List UInt8} (h : BytesAt B w u l) (hb : Below w.heap.size w w') : BytesAt B w' u l := by
  obtain ⟨b, c, rfl, hB, hh⟩ := h
  exact ⟨b, c, rfl, hB, hh.call hb⟩
/-- a replacer's table, built, in block t; all of it in blocks from B on -/
def RepTab (B : Nat) (w : World) (t : Nat) : Prop := B ≤ t ∧ ∃ A C v, Reg.Has w t (tabL A C v) ∧ BytesAt B w A [92, 34] ∧ BytesAt B w C [92, 92] ∧ w.ownsRow B 9 1 v 2 [.string ⟨#[92]⟩, .string ⟨#[34]⟩]
theorem RepTab.call {B : Nat} {w w' : World} {t : Nat} (h : RepTab B w t) (hb : Below w.heap.size w w') : RepTab B w' t := by
  obtain ⟨h0, A, C, v, h1, h2, h3, h4⟩ := h
  exact ⟨h0, A, C, v, h1.call hb, h2.call hb, h3.call hb, h4.kept (row := none) ⟨hb.os, hb.tape, hb.output, hb.size, fun k hk _ => hb.block k hk⟩ (by
    cases hv : v.ownBlock with
    | none => exact .inl rfl
    | some g => exact .inr (by simp))⟩
theorem RepTab.set {B : Nat} {w : World} {t : Nat} (h : RepTab B w t) (b i : Nat) (hb : b < B) (u : Value) : RepTab B (w.setCell ⟨b, i, none⟩ u) t := by
  obtain ⟨h0, A, C, v, h1, ⟨b2, c2, rfl, z2, h2⟩, ⟨b3, c3, rfl, z3, h3⟩, h4⟩ := h
  exact ⟨h0, _, _, v, h1.other (a := ⟨b, i, none⟩) (by show b ≠ t; omega) u, ⟨b2, c2, rfl, z2, h2.other (a := ⟨b, i, none⟩) (by show b ≠ b2; omega) u⟩, ⟨b3, c3, rfl, z3, h3.other (a := ⟨b, i, none⟩) (by show b ≠ b3; omega) u⟩, ownsRow_setCell_below h4 (a := ⟨b, i, none⟩) hb u⟩
theorem RepTab.drew {B : Nat} {w : World} {t : Nat} (h : RepTab B w t) : RepTab B w.drew t := h.call (Below.refl _ _).drew

/-- where build stands: so much is listed, the table holds A and B -/
structure BSt (w0 w : World) (t : Nat) (n : Nat) (xs : List Value) (A B v : Value) : Prop where
  own : Own w0 w w0.heap.size 9 1 v n xs
  tab : Reg.Has w t (tabL A B v)
  far : v.ownBlock ≠ some t
  le : w0.heap.size ≤ t

theorem makeS_run (w : World) : ∃ w1, (Instr.makeSlice 24 (.int .i64 0) (.int .i64 2)).run Tryz.prog w = .ok (.slice (some ⟨w.heap.size, 0, none⟩) 0 2) w1 ∧
    Own w w1 w.heap.size 9 1 (.slice (some ⟨w.heap.size, 0, none⟩) 0 2) 0 [] ∧ w.heap.size < w1.heap.size := by
  obtain ⟨i, hi, hz, h1, h2⟩ := info_parts (P := Tryz.prog) (e := 9) (z := .string ⟨#[]⟩) (size := 1) (bytes := 16) (by kernel_rfl)
  obtain ⟨w', hr, hown, hgr⟩ := run_makeSlice_owned (P := Tryz.prog) w w.heap.size 24 9 i _ 1 Tryz.underlying24 hi hz h1 .i64 .i64 2 (by omega) (by rw [h2]; omega) (by unfold maxLen; omega) (Nat.le_refl _)
  exact ⟨w', hr, ⟨hown, (Below.refl _ _).grown hgr (Nat.le_refl _) (fun k hk => by cases hk), hgr.size⟩, (hown.lt _ rfl).2⟩

section
variable {ops : Array Oper} {rest : List Oper} {o : Oper} {a : Act} {w : World} {Q : Exit → Act → World → Prop}
/-- append(out, u), u laid in a new block just before; what else is kept -/
theorem wpList_pushK {wr w0 : World} (hgd : o.guard = none) (s x : Operand) (ho : o.op = .call { callee := .builtin .append, args := #[s, x], argTypes := #[24, 24] })
    (base : Nat) (v : Value) (n : Nat) (xs : List Value) (hs : a.eval s = v) (hown : Own w0 wr base 9 1 v n xs) (u : ByteArray) (hw : w = wr.alloc (.cells #[.string u] 9))
    (gb c : Nat) (hgb : gb = wr.heap.size) (hx : a.eval x = .slice (some ⟨gb, 0, none⟩) 1 c) (hn : n ≤ 1000)
    (h : ∀ v' w1, Own w0 w1 base 9 1 v' (n + 1) (xs ++ [.string u]) → w.grownBy w1 v.ownBlock → wpList Tryz.prog ops Q rest (a.put o.dst v') w1) : wpList Tryz.prog ops Q (o :: rest) a w := by
  subst hgb
  subst hw
  obtain ⟨i, hi, hz, h1, h2⟩ := info_parts (P := Tryz.prog) (e := 9) (z := .string ⟨#[]⟩) (size := 1) (bytes := 16) (by kernel_rfl)
  have hA := hown.alloc (.cells #[.string u] 9)
  refine wpList_append_own _ hgd s x 24 ho base 9 i _ 1 16 Tryz.underlying24 hi hz h1 h2 rfl (by decide) v n xs hs hA.own ⟨wr.heap.size, 0, none⟩ 1 c [.string u] hx (by simp) (fun j y hy => ?_) (by intro y hy; simp at hy; subst hy; rfl) (by unfold maxLen; omega) (by omega) hA.le (fun v' w' h2 h3 _ => ?_)
  · rw [Addr.add_mid, Nat.zero_add, World.cell?_alloc_at _ _ _ _ rfl]
    simpa using hy
  · exact h v' w' ⟨h2, hA.bel.grown h3 hA.le (row_base hA.own), Nat.le_trans hA.le h3.size⟩ h3
end
theorem Own.set {w0 w : World} {base : Nat} {e : TypeId} {sz : Nat} {v : Value} {n : Nat} {xs : List Value} (h : Own w0 w base e sz v n xs) (b i : Nat) (hb : base ≤ b) (hne : v.ownBlock ≠ some b) (u : Value) : Own w0 (w.setCell ⟨b, i, none⟩ u) base e sz v n xs :=
  ⟨h.own.kept (grown_set w b i u) (.inr hne), h.bel.setCell hb u, by simpa [World.setCell] using h.le⟩

set_option maxRecDepth 100000 in
set_option maxHeartbeats 4000000 in
theorem build_any (b : Nat) (v : Value) (w : World) (h4 : w.cell? ⟨b, 4, none⟩ = some v) (hv : Rd w v 4 1 (strV repA)) :
    Calls Tryz.prog 83 #[.pointer (some ⟨b, 0, none⟩)] w fun e w' => ∃ t, e = .returned (.iface 147 (.pointer (some ⟨t, 0, none⟩))) ∧ RepTab w.heap.size w' t ∧ Below w.heap.size w w' := by
  obtain ⟨ao, cap, rfl⟩ := hv.form
  obtain ⟨g, off, rfl, hg, d0⟩ := str_cell hv 0 (by decide)
  obtain ⟨_, _, e1, _, d1⟩ := str_cell hv 1 (by decide)
  cases e1
  obtain ⟨_, _, e2, _, d2⟩ := str_cell hv 2 (by decide)
  cases e2
  obtain ⟨_, _, e3, _, d3⟩ := str_cell hv 3 (by decide)
  cases e3
  simp only [repA, List.getElem_cons_zero, List.getElem_cons_succ, Nat.add_zero] at d0 d1 d2 d3
  have hb4 := World.block_lt_of_cell? w _ h4
  clear hv
  go_enter Tryz.func83, Tryz.ntmps83
  go_wp2_with fail
  go_loop [4, 5] (fun al i => (al = .bool true ∧ i = .int .i64 0) ∨ (al = .bool false ∧ i = .int .i64 2) ∨ (al = .bool false ∧ i = .int .i64 4)) (fun _ i => 4 - (intOf i).toNat)
  case atStart => exact .inl ⟨rfl, rfl⟩
  case round =>
    rcases hrel with ⟨rfl, rfl⟩ | ⟨rfl, rfl⟩ | ⟨rfl, rfl⟩
    · go_wp2_with fail
      go_round
      case rel => exact .inr (.inl ⟨rfl, rfl⟩)
      case measure => simp [intOf]
    · go_wp2_with fail
      go_round
      case rel => exact .inr (.inr ⟨rfl, rfl⟩)
      case measure => simp [intOf]
    · obtain ⟨w1, hmk, ho1, hz1⟩ := makeS_run w
      have O1 := hide ho1
      clear ho1
      go_upto_region 27 with (first
        | (refine wpList_store_row rfl _ _ _ rfl w1.heap.size _ rfl rfl 146 tabZ (alloc_at _ _) (tab_info _) rfl (tab0_one _ _ _) ?_)
        | (refine wpList_tabBuild rfl _ rfl _ _ _ rfl ?_)
        | (refine wpList_tabAlloc rfl rfl ?_))
      have ST : Hid (BSt w ((w1.alloc (.cells tabZ 146)).setRow w1.heap.size (tab0 (.slice (some ⟨w.heap.size, 0, none⟩) 0 2))) w1.heap.size 0 [] nilS nilS (.slice (some ⟨w.heap.size, 0, none⟩) 0 2)) :=
        hide ⟨(unhide O1).call (below_tab0 w1 _), has_tab0 w1 _, by intro e; have := Option.some.inj e; simp at this; omega, Nat.le_of_lt hz1⟩
      clear O1 hmk
      generalize (w1.alloc (.cells tabZ 146)).setRow w1.heap.size (tab0 (.slice (some ⟨w.heap.size, 0, none⟩) 0 2)) = w2 at ST ⊢
      generalize w1.heap.size = t at *
      go_wp2_with fail
      go_loopw [12] (fun i wr => (i = .int .i64 2 ∧ ∃ v, BSt w wr t 0 [] nilS nilS v) ∨ (i = .int .i64 0 ∧ ∃ v B, BSt w wr t 1 [.string ⟨#[92]⟩] nilS B v ∧ BytesAt w.heap.size wr B [92, 92]) ∨
          (i = .int .i64 (-2) ∧ ∃ v A B, BSt w wr t 2 [.string ⟨#[92]⟩, .string ⟨#[34]⟩] A B v ∧ BytesAt w.heap.size wr A [92, 34] ∧ BytesAt w.heap.size wr B [92, 92])) (fun i _ => (intOf i + 2).toNat)
      case atStart => exact .inl ⟨rfl, _, unhide ST⟩
      case round =>
        rcases hrel with ⟨rfl, v, hst⟩ | ⟨rfl, v, B, hst, hB⟩ | ⟨rfl, v, A, B, hst, hA, hB⟩
        · obtain ⟨ao0, cp0, rfl⟩ := (Rd.own hst.own.own).form
          have eA := (hst.own.bel.cell (p := ⟨g, off + 2, none⟩) hg).trans d2
          have eB := (hst.own.bel.cell (p := ⟨g, off + 3, none⟩) hg).trans d3
          have eT := hst.tab.cell 92 _ (tabL_B _ _ _)
          have eS := hst.tab.cell 256 _ (tabL_S _ _ _)
          have zt := hst.tab.lt
          have zg := Nat.lt_of_lt_of_le hg hst.own.bel.size
          unfold nilS at eT
          have ST2 := hide hst
          have hlit : (⟨#[92]⟩ : ByteArray)[0].toNat = 92 := rfl
          have hnl := nil_eql
          have hgt : g ≠ t := by have := (unhide ST2).le; omega
          clear hst ST h4
          go_upto_region 34 with (first
            | (refine Mem.wpList_text rfl 56 9 5 _ rfl wr.heap.size 1 1 [92] rfl Tryz.underlying56 Tryz.underlying9 Tryz.underlying5 rfl (Reg.Has.new wr [.int .u8 92] 5) ?_)
            | (at_builtin; refine wpList_pushK (w0 := w) (wr := wr.alloc (.cells #[.int .u8 92] 5)) rfl _ _ rfl w.heap.size (.slice ao0 0 cp0) 0 _ rfl ((unhide ST2).own.alloc _) ⟨#[92]⟩ rfl (wr.heap.size + 1) 1 (by simp) rfl (by decide) ?_; intro v4 w4 ho4 hg4; obtain ⟨g1, cp1, rfl, _, zg1⟩ := World.ownsRow.form ho4.own (by decide); have T4 := hide (Has.grown (((unhide ST2).tab.alloc _).alloc _) hg4 (fun e => (unhide ST2).far e.symm)); have O4 := hide ho4; clear ho4 hg4; have eS4 := (unhide T4).cell 256 _ (tabL_S _ _ _); have fS4 := (unhide T4).free 256 (by rw [tabL_len]; decide); have zt4 := (unhide T4).lt; clear eT eS))
          have n41 : g1 ≠ t := Has.ne (unhide T4) (tabL_0 _ _ _) (x := .string ⟨#[92]⟩) ((unhide O4).own.cellAt 0 (by decide)) (by intro e; cases e)
          have O5 := hide (Own.set (unhide O4) t 256 (unhide ST2).le (by intro e; exact n41 (Option.some.inj e)) (.slice (some ⟨g1, 0, none⟩) 1 cp1))
          have T5 := hide ((unhide T4).put 256 (.slice (some ⟨g1, 0, none⟩) 1 cp1))
          rw [tabL_setS] at T5
          have eB5 := ((unhide O5).bel.cell (p := ⟨g, off + 3, none⟩) hg).trans d3
          clear eA eB eS4 fS4 zt4 O4 T4
          generalize w4.setCell ⟨t, 256, none⟩ (.slice (some ⟨g1, 0, none⟩) 1 cp1) = w5 at O5 T5 eB5 ⊢
          go_wp2_with (refine Mem.wpList_bytes rfl 9 56 5 _ rfl _ rfl Tryz.underlying9 Tryz.underlying56 Tryz.underlying5 ?_; intro cap2 w6 h6 hb6; have H6 := hide h6; have O6 := hide ((unhide O5).call hb6); have T6 := hide ((unhide T5).call hb6); clear h6 hb6; have eT6 := (unhide T6).cell 92 _ (tabL_B _ _ _); have fT6 := (unhide T6).free 92 (by rw [tabL_len]; decide); have zt6 := (unhide T6).lt; unfold nilS at eT6)
          go_roundw
          case rel =>
            have n6 : t ≠ w5.heap.size := Nat.ne_of_lt (unhide T5).lt
            have T7 := (unhide T6).put 92 (.slice (some ⟨w5.heap.size, 0, none⟩) 2 cap2)
            rw [tabL_setB] at T7
            exact .inr (.inl ⟨rfl, _, _, ⟨Own.set (unhide O6) t 92 (unhide ST2).le (by intro e; exact n41 (Option.some.inj e)) _, T7, by intro e; exact n41 (Option.some.inj e), (unhide ST2).le⟩, ⟨w5.heap.size, cap2, rfl, (unhide O5).bel.size, (unhide H6).other (a := ⟨t, 92, none⟩) n6 _⟩⟩)
          case measure => simp [intOf]
        · obtain ⟨g0, cp0, rfl, _, _⟩ := World.ownsRow.form hst.own.own (by decide)
          obtain ⟨b1, c1, rfl, zb1, hh1⟩ := hB
          have n01 : g0 ≠ b1 := Has.ne hh1 (u := .int .u8 92) rfl (x := .string ⟨#[92]⟩) (hst.own.own.cellAt 0 (by decide)) (by intro e; cases e)
          have eA := (hst.own.bel.cell (p := ⟨g, off, none⟩) hg).trans d0
          have eB := (hst.own.bel.cell (p := ⟨g, off + 1, none⟩) hg).trans d1
          have eT := hst.tab.cell 34 _ (tabL_A _ _ _)
          have eS := hst.tab.cell 256 _ (tabL_S _ _ _)
          have zt := hst.tab.lt
          have zg := Nat.lt_of_lt_of_le hg hst.own.bel.size
          unfold nilS at eT
          have ST2 := hide hst
          have HB0 := hide hh1
          have hlit : (⟨#[34]⟩ : ByteArray)[0].toNat = 34 := rfl
          have hnl := nil_eql
          have hgt : g ≠ t := by have := (unhide ST2).le; omega
          clear hst ST h4 hh1
          go_upto_region 34 with (first
            | (refine Mem.wpList_text rfl 56 9 5 _ rfl wr.heap.size 1 1 [34] rfl Tryz.underlying56 Tryz.underlying9 Tryz.underlying5 rfl (Reg.Has.new wr [.int .u8 34] 5) ?_)
            | (at_builtin; refine wpList_pushK (w0 := w) (wr := wr.alloc (.cells #[.int .u8 34] 5)) rfl _ _ rfl w.heap.size (.slice (some ⟨g0, 0, none⟩) 1 cp0) 1 _ rfl ((unhide ST2).own.alloc _) ⟨#[34]⟩ rfl (wr.heap.size + 1) 1 (by simp) rfl (by decide) ?_; intro v4 w4 ho4 hg4; obtain ⟨g1, cp1, rfl, _, zg1⟩ := World.ownsRow.form ho4.own (by decide); have T4 := hide (Has.grown (((unhide ST2).tab.alloc _).alloc _) hg4 (fun e => (unhide ST2).far e.symm)); have O4 := hide ho4; have HB4 := hide (Has.grown (((unhide HB0).alloc _).alloc _) hg4 (fun e => n01 (Option.some.inj e).symm)); clear ho4 hg4; have eS4 := (unhide T4).cell 256 _ (tabL_S _ _ _); have fS4 := (unhide T4).free 256 (by rw [tabL_len]; decide); have zt4 := (unhide T4).lt; clear eT eS))
          have n41 : g1 ≠ t := Has.ne (unhide T4) (tabL_0 _ _ _) (x := .string ⟨#[92]⟩) ((unhide O4).own.cellAt 0 (by decide)) (by intro e; cases e)
          have n42 : t ≠ b1 := Has.ne (unhide HB4) (u := .int .u8 92) rfl (x := nilS) ((unhide T4).cell 0 _ (tabL_0 _ _ _)) (by intro e; cases e)
          have O5 := hide (Own.set (unhide O4) t 256 (unhide ST2).le (by intro e; exact n41 (Option.some.inj e)) (.slice (some ⟨g1, 0, none⟩) 2 cp1))
          have T5 := hide ((unhide T4).put 256 (.slice (some ⟨g1, 0, none⟩) 2 cp1))
          rw [tabL_setS] at T5
          have HB5 := hide ((unhide HB4).other (a := ⟨t, 256, none⟩) n42 (.slice (some ⟨g1, 0, none⟩) 2 cp1))
          have eB5 := ((unhide O5).bel.cell (p := ⟨g, off + 1, none⟩) hg).trans d1
          clear eA eB eS4 fS4 zt4 O4 T4 HB4 HB0
          generalize w4.setCell ⟨t, 256, none⟩ (.slice (some ⟨g1, 0, none⟩) 2 cp1) = w5 at O5 T5 eB5 HB5 ⊢
          go_wp2_with (refine Mem.wpList_bytes rfl 9 56 5 _ rfl _ rfl Tryz.underlying9 Tryz.underlying56 Tryz.underlying5 ?_; intro cap2 w6 h6 hb6; have H6 := hide h6; have O6 := hide ((unhide O5).call hb6); have T6 := hide ((unhide T5).call hb6); have HB6 := hide ((unhide HB5).call hb6); clear h6 hb6; have eT6 := (unhide T6).cell 34 _ (tabL_A _ _ _); have fT6 := (unhide T6).free 34 (by rw [tabL_len]; decide); have zt6 := (unhide T6).lt; unfold nilS at eT6)
          go_roundw
          case rel =>
            have n6 : t ≠ w5.heap.size := Nat.ne_of_lt (unhide T5).lt
            have T7 := (unhide T6).put 34 (.slice (some ⟨w5.heap.size, 0, none⟩) 2 cap2)
            rw [tabL_setA] at T7
            exact .inr (.inr ⟨rfl, _, _, _, ⟨Own.set (unhide O6) t 34 (unhide ST2).le (by intro e; exact n41 (Option.some.inj e)) _, T7, by intro e; exact n41 (Option.some.inj e), (unhide ST2).le⟩, ⟨w5.heap.size, cap2, rfl, (unhide O5).bel.size, (unhide H6).other (a := ⟨t, 34, none⟩) n6 _⟩, b1, c1, rfl, zb1, (unhide HB6).other (a := ⟨t, 34, none⟩) n42 _⟩)
          case measure => simp [intOf]
        · have ST3 := hide hst
          clear hst ST h4 d0 d1 d2 d3
          go_wp2_with fail
          go_ret
          exact ⟨t, rfl, ⟨(unhide ST3).le, A, B, v, (unhide ST3).tab, hA, hB, (unhide ST3).own.own⟩, (unhide ST3).own.bel⟩
end Go.Proofs.YtkaaeajidejchaaGreatDoor.Sp
end

/- What a byteStringReplacer with these two bytes makes of a text; a row of bytes of one's own. -/
section
namespace Go.Proofs.YtkaaeajidejchaaGreatDoor.Sp
open Go.RowKit

def spec (c : UInt8) : Bool := c == 34 || c == 92
def escC (c : UInt8) : List UInt8 := if spec c = true then [92, c] else [c]
def esc (l : List UInt8) : List UInt8 := l.flatMap escC
/-- so many bytes are replaced -/
def extra (l : List UInt8) : Nat := l.countP spec
theorem escC_len (c : UInt8) : (escC c).length = if spec c = true then 2 else 1 := by unfold escC; split <;> rfl
theorem esc_len (l : List UInt8) : (esc l).length = l.length + extra l := by
  unfold esc extra
  induction l with
  | nil => rfl
  | cons c t ih =>
    rw [List.flatMap_cons, List.length_append, ih, List.length_cons, List.countP_cons, escC_len]
    split <;> omega
theorem esc_none (l : List UInt8) (h : extra l = 0) : esc l = l := by
  unfold extra at h
  rw [List.countP_eq_zero] at h
  unfold esc
  induction l with
  | nil => rfl
  | cons c t ih =>
    rw [List.flatMap_cons, ih (fun a ha => h a (List.mem_cons_of_mem _ ha))]
    have hc : spec c = false := by have := h c List.mem_cons_self; simpa using this
    unfold escC
    rw [if_neg (by rw [hc]; decide)]
    rfl
theorem extra_count (l : List UInt8) : extra l = l.count 92 + l.count 34 := by
  unfold extra List.count
  induction l with
  | nil => rfl
  | cons c t ih =>
    rw [List.countP_cons, List.countP_cons, List.countP_cons, ih]
    unfold spec
    by_cases h1 : c = 34
    · subst h1; simp; omega
    · by_cases h2 : c = 92
      · subst h2; simp; omega
      · simp [h1, h2]
theorem extra_le (l : List UInt8) : extra l ≤ l.length := List.countP_le_length
theorem extra_take (s : ByteArray) (k : Nat) (h : k < s.size) : extra (s.data.toList.take (k + 1)) = extra (s.data.toList.take k) + if spec s[k] = true then 1 else 0 := by
  have h' : k < s.data.toList.length := by simpa using h
  unfold extra
  rw [List.take_succ_eq_append_getElem h', List.countP_append]
  congr 1
  rw [List.countP_cons, List.countP_nil, Nat.zero_add]
  rfl
theorem esc_take (s : ByteArray) (k : Nat) (h : k < s.size) : esc (s.data.toList.take (k + 1)) = esc (s.data.toList.take k) ++ escC s[k] := by
  have h' : k < s.data.toList.length := by simpa using h
  unfold esc
  rw [List.take_succ_eq_append_getElem h', List.flatMap_append, List.flatMap_cons, List.flatMap_nil, List.append_nil]
  rfl
theorem extra_take_le (l : List UInt8) (k : Nat) : extra (l.take k) ≤ extra l := List.Sublist.countP_le (List.take_sublist k l)
theorem take_len (s : ByteArray) (k : Nat) (h : k ≤ s.size) : (s.data.toList.take k).length = k := by
  rw [List.length_take]; have : s.data.toList.length = s.size := by simp
  omega
theorem spec_nat (c : UInt8) : spec c = (((c.toNat : Int) == 34) || ((c.toNat : Int) == 92)) := by
  revert c
  intro c
  have := byte_all (fun c => spec c == (((c.toNat : Int) == 34) || ((c.toNat : Int) == 92))) (by decide +kernel) c
  simpa using this

/-- a row of bytes of one's own, in block g -/
def RowB (w : World) (g : Nat) (L : List UInt8) : Prop := w.heap[g]? = some (.cells (Mem.bytesV L).toArray 5 (0, 0))
section
variable {w w' : World} {g : Nat} {L : List UInt8}
theorem RowB.has (h : RowB w g L) : Reg.Has w g (Mem.bytesV L) := by
  refine ⟨fun i v hv => ?_, fun i hi => ?_, (Array.getElem?_eq_some_iff.1 h).1⟩
  · have h' : w.heap[g]? = some (.cells (Mem.bytesV L).toArray 5 (0, 0)) := h
    simp only [World.cell?, h']
    simpa using hv
  · have h' : w.heap[g]? = some (.cells (Mem.bytesV L).toArray 5 (0, 0)) := h
    simp only [World.frozen?, h']
    simp
theorem RowB.call (h : RowB w g L) (hb : Below w.heap.size w w') : RowB w' g L := by
  unfold RowB
  rw [hb.block g (Array.getElem?_eq_some_iff.1 h).1]
  exact h
theorem RowB.set (h : RowB w g L) (i : Nat) (c : UInt8) : RowB (w.setCell ⟨g, i, none⟩ (.int .u8 c.toNat)) g (L.set i c) := by
  unfold RowB
  rw [setCell_eq_setRow w g i _ _ _ _ h]
  have := setRow_heap w g _ ((Mem.bytesV L).toArray.setIfInBounds i (.int .u8 c.toNat)) _ _ h
  rw [this]
  congr 2
  rw [← Mem.bytesV_set]
  simp
end
theorem made_zero (n : Nat) : madeCells #[.int .u8 0] n = (Mem.bytesV (List.replicate n 0)).toArray := by
  unfold madeCells Mem.bytesV
  apply Array.ext
  · simp
  · intro i h1 h2
    simp [Nat.mod_one]
theorem make_bytes (w : World) (n : Nat) (hn : n ≤ 16000000) : ∃ w1, (Instr.makeSlice 56 (.int .i64 n) (.int .i64 n)).run Tryz.prog w = .ok (.slice (some ⟨w.heap.size, 0, none⟩) n n) w1 ∧
    RowB w1 w.heap.size (List.replicate n 0) ∧ Below w.heap.size w w1 := by
  obtain ⟨i, hi, hz, h1, h2⟩ := info_parts (P := Tryz.prog) (e := 5) (z := .int .u8 0) (size := 1) (bytes := 1) (by kernel_rfl)
  have hr := run_makeSlice (P := Tryz.prog) w 56 5 i (.int .u8 0) Tryz.underlying56 hi hz .i64 .i64 n n (by omega) (Int.le_refl _) (by rw [h1]; simp; omega) (by rw [h2]; omega) (by omega)
  refine ⟨_, hr, ?_, (Below.refl _ _).alloc (Nat.le_refl _) _⟩
  unfold RowB
  rw [h1]
  have : (Value.int IntKind.u8 0).cells = #[.int .u8 0] := rfl
  rw [this, made_zero]
  rw [Int.toNat_natCast, Nat.mul_one]
  exact alloc_at _ _
theorem splice_take (L : List UInt8) (j : Nat) (cs : List UInt8) (h : j + cs.length ≤ L.length) : (splice L j cs).take (j + cs.length) = L.take j ++ cs := by
  unfold splice
  rw [← List.append_assoc, List.take_append_of_le_length (by rw [List.length_append, List.length_take]; omega), List.take_of_length_le (by rw [List.length_append, List.length_take]; omega)]
theorem splice_map (L : List UInt8) (j : Nat) (cs : List UInt8) : splice (Mem.bytesV L) j (Mem.bytesV cs) = Mem.bytesV (splice L j cs) := by
  unfold splice Mem.bytesV
  simp [List.map_append, List.map_take, List.map_drop]
theorem set_take (L : List UInt8) (j : Nat) (c : UInt8) (h : j < L.length) : (L.set j c).take (j + 1) = L.take j ++ [c] := by
  rw [List.take_succ_eq_append_getElem (by rw [List.length_set]; exact h), List.getElem_set_self, List.take_set_of_le (Nat.le_refl _)]
end Go.Proofs.YtkaaeajidejchaaGreatDoor.Sp
end

/- As Reg2's law of one operation of whatever kind: the operation may wait for those ahead of it through others. -/
section
namespace Go.Proofs.YtkaaeajidejchaaGreatDoor.Reg
open Go.RowKit Go

section
variable {P : Program} {ops : Array Oper} {md : Region.Mode} {C : World → Prop} {s : Nat}

/-- Number s waits for number i, if need be through others. -/
def reachB (md : Region.Mode) (ops : Array Oper) : Nat → Nat → Nat → Bool
  | 0, _, _ => false
  | f + 1, s, i => Region.waitsFor md ops s i || (match ops[s]? with | some o => o.after.any (fun e => Region.binds md e && reachB md ops f e.on i) | none => false)
/-- Whatever an operation that has come up waited for has come up. -/
def ClosedT (md : Region.Mode) (ops : Array Oper) (listed : Array Bool) : Prop := ∀ (i : Nat) o, ops[i]? = some o → listed.getD i false = true → ∀ e ∈ o.after, Region.binds md e = true → listed.getD e.on false = true
theorem getD_set_more {listed : Array Bool} {i j : Nat} (h : listed.getD j false = true) : (listed.setIfInBounds i true).getD j false = true := by
  by_cases hij : i = j
  · subst hij
    have hlt : i < listed.size := by
      rcases Nat.lt_or_ge i listed.size with h' | h'
      · exact h'
      · rw [Array.getD_eq_getD_getElem?, Array.getElem?_eq_none h'] at h; cases h
    simp [hlt]
  · rw [getD_set_ne false hij]; exact h
theorem reach_listed {listed : Array Bool} (hc : ClosedT md ops listed) : ∀ (f s i : Nat), reachB md ops f s i = true → (∀ o, ops[s]? = some o → ∀ e ∈ o.after, Region.binds md e = true → listed.getD e.on false = true) → listed.getD i false = true
  | 0, _, _, h, _ => by cases h
  | f + 1, s, i, h, hd => by
    unfold reachB at h
    rw [Bool.or_eq_true] at h
    rcases h with h | h
    · obtain ⟨o, ho, e, he, hb, hon⟩ := Region.waitsFor_spec h
      rw [← hon]
      exact hd o ho e he hb
    · cases ho : ops[s]? with
      | none => rw [ho] at h; cases h
      | some o =>
        rw [ho] at h
        obtain ⟨e, he, hh⟩ := Array.any_eq_true'.1 h
        rw [Bool.and_eq_true] at hh
        exact reach_listed hc f e.on i hh.2 (fun o' ho' e' he' hb' => hc e.on o' ho' (hd o ho e he hh.1) e' he' hb')

/-- What holds of the operations that have come up while number s has not: none from s on. -/
structure AheadT (md : Region.Mode) (ops : Array Oper) (s : Nat) (listed : Array Bool) : Prop where
  size : listed.size = ops.size
  late : ∀ t, s ≤ t → t < ops.size → listed.getD t true = false
  closed : ClosedT md ops listed

theorem AheadT.set {listed : Array Bool} {i : Nat} (h : AheadT md ops s listed) (hi : i < s) (hr : i ∈ Region.ready md ops listed) : AheadT md ops s (listed.setIfInBounds i true) := by
  refine ⟨by simp [h.size], fun t ht ht' => by rw [getD_set_ne true (by omega)]; exact h.late t ht ht', fun k o ho hk e he hb => ?_⟩
  by_cases hik : i = k
  · subst hik
    obtain ⟨_, o', ho', hall⟩ := mem_ready.1 hr
    obtain rfl : o = o' := Option.some.inj (ho.symm.trans ho')
    exact getD_set_more (hall e he hb)
  · rw [getD_set_ne false hik] at hk
    exact getD_set_more (h.closed k o ho hk e he hb)

theorem not_lateT {listed : Array Bool} (hw : AllWait md ops s) (hs : s < ops.size) (inv : AheadT md ops s listed) {j : Nat} (hj : j ∈ Region.ready md ops listed) (hne : j ≠ s) : j < s := by
  rcases Nat.lt_or_ge j s with h | h
  · exact h
  obtain ⟨oj, hoj, e, he, hb, hon⟩ := Region.waitsFor_spec (hw j (by omega) (by obtain ⟨_, o, ho, _⟩ := mem_ready.1 hj; exact (Array.getElem?_eq_some_iff.1 ho).1))
  obtain ⟨_, oj', hoj', hall⟩ := mem_ready.1 hj
  obtain rfl : oj = oj' := Option.some.inj (hoj.symm.trans hoj')
  have h1 := hall e he hb
  rw [hon, getD_both (inv.late s (Nat.le_refl _) hs)] at h1
  cases h1

theorem wpBar_firstT {L : Act → Prop} {i : Nat} {oi : Oper} {v : Value} (hi : ops[i]? = some oi) (hsel : ∀ (j : Nat) (o : Oper) cs b, ops[j]? = some o → o.op ≠ .select cs b)
    (hw : AllWait md ops s) (hs : s < ops.size) (his : i < s) :
    ∀ (f : Nat) (listed : Array Bool) (a : Act), AheadT md ops s listed →
      (∀ j oj, ops[j]? = some oj → j ≠ i → listed.getD j true = false → (∀ e ∈ oj.after, Region.binds md e = true → e.on ≠ i) → oi.apart ops oj = true) →
      i ∈ Region.ready md ops listed → YieldsIn P ops C oi v a →
      wpBar P md ops C s L f (listed.setIfInBounds i true) (a.put oi.dst v) → wpBar P md ops C s L (f + 1) listed a := by
  intro f
  induction f with
  | zero =>
    intro listed a inv _ hr hy H
    have hun := (mem_ready.1 hr).1
    refine ⟨⟨i, his, getD_both hun⟩, fun j hj hjs => ?_⟩
    have hlt := not_lateT hw hs inv hj hjs
    refine ⟨hlt, ?_⟩
    by_cases hji : j = i
    · subst hji; exact hy.qOp hi H
    · have h1 := H.1 j hlt
      rw [getD_set_ne false (Ne.symm hji), getD_both (mem_ready.1 hj).1] at h1
      cases h1
  | succ f ih =>
    intro listed a inv hfree hr hy H
    have hun := (mem_ready.1 hr).1
    refine ⟨⟨i, his, getD_both hun⟩, fun j hj hjs => ?_⟩
    have hlt := not_lateT hw hs inv hj hjs
    refine ⟨hlt, ?_⟩
    by_cases hji : j = i
    · subst hji; exact hy.qOp hi H
    · have h1 := (H.2 j (ready_mono hj hji) hjs).2
      obtain ⟨hjun, oj, hoj, hall⟩ := mem_ready.1 hj
      have hnot : ∀ e ∈ oj.after, Region.binds md e = true → e.on ≠ i := fun e he hb heq => by
        have h2 := hall e he hb
        rw [heq, getD_both hun] at h2
        cases h2
      have h2 := qOp_put hoj (hfree j oj hoj hji hjun hnot) (fun cs b => hsel i oi cs b hi) (fun cs b => hsel j oj cs b hoj) hy h1
      refine qOp_mono (fun a' h3 => ih (listed.setIfInBounds j true) a' (inv.set hlt hj) (fun k ok hk hki hku hkn => ?_) (ready_mono hr (Ne.symm hji)) h3.1 ?_) h2
      · refine hfree k ok hk hki ?_ hkn
        by_cases hjk : j = k
        · subst hjk; exact hjun
        · rw [getD_set_ne true hjk] at hku; exact hku
      · rw [Array.setIfInBounds_comm _ _ hji]
        exact h3.2

theorem wpBar_lexT {L : Act → Prop} (hsel : Region.noSelect ops = true) (hw : AllWait md ops s) (hs : s < ops.size) :
    ∀ (l : List Oper) (k : Nat) (listed : Array Bool) (a : Act), (∀ j, j < l.length → l[j]? = ops[k + j]?) → k + l.length = s → AheadT md ops s listed → HeadDone k listed →
      headB md ops l.length k listed = true → wpQuiet P ops C L l a → wpBar P md ops C s L l.length listed a
  | [], k, listed, a, _, hk, _, hd, _, h => by
    obtain rfl : k = s := by simpa using hk
    exact ⟨hd, h⟩
  | o :: l, k, listed, a, hl, hk, inv, hd, hB, h => by
    have h0 : ops[k]? = some o := by simpa using (hl 0 (by simp)).symm
    have hks : k < s := by simp only [List.length_cons] at hk; omega
    simp only [List.length_cons, headB, Bool.and_eq_true] at hB
    obtain ⟨⟨hr, hf⟩, hB'⟩ := hB
    have hq : qOp P ops C k (wpQuiet P ops C L l) a := by unfold qOp; simp only [h0]; exact h
    obtain ⟨v, hy, hK⟩ := yieldsIn_of_qOp h0 hq
    refine wpBar_firstT h0 (Region.noSelect_spec hsel) hw hs hks l.length listed a inv (Region.free_spec h0 hf) (by simpa using hr) hy ?_
    refine wpBar_lexT hsel hw hs l (k + 1) _ _ (fun j hj => by have := hl (j + 1) (by simp; omega); simpa [Nat.add_assoc, Nat.add_comm 1 j] using this)
      (by simp only [List.length_cons] at hk; omega) (inv.set hks (by simpa using hr)) (fun t ht => ?_) hB' hK
    by_cases htk : k = t
    · subst htk
      have : k < listed.size := by rw [inv.size]; omega
      simp [this]
    · rw [getD_set_ne false htk]; exact hd t (by omega)

/-- Each operation ahead of number s: s waits for it, or it is a plain copy, apart from all that neither waits for it nor it for them. -/
def FreeOnesT (md : Region.Mode) (ops : Array Oper) (s : Nat) : Prop := ∀ (i : Nat) oi, i < s → ops[i]? = some oi →
  reachB md ops ops.size s i = true ∨
  (plainKind oi.op = true ∧ ∀ (j : Nat) oj, ops[j]? = some oj → j ≠ i → Region.waitsFor md ops j i = true ∨ Region.waitsFor md ops i j = true ∨ oi.apart ops oj = true)

theorem wpAny_of_barT {L : Act → Prop} {Q : Exit → Act → World → Prop} {g : Nat} (hsel : Region.noSelect ops = true) (hw : AllWait md ops s) (hs : s < ops.size) (ht : Topo md ops) (hfo : FreeOnesT md ops s)
    (hQ : ∀ c a d v w, Q (.panic c) (Act.put a d v) w → Q (.panic c) a w)
    (hL : ∀ listed a w, AheadT md ops s listed → HeadDone s listed → C w → L a → wpAny P md ops Q g listed a w) :
    ∀ (f : Nat) (listed : Array Bool) (a : Act) (w : World), AheadT md ops s listed → C w → wpBar P md ops C s L f listed a → wpAny P md ops Q (f + g) listed a w
  | 0, listed, a, w, inv, hC, h => by rw [Nat.zero_add]; exact hL _ _ _ inv h.1 hC h.2
  | f + 1, listed, a, w, inv, hC, h => by
    rw [show f + 1 + g = (f + g) + 1 by omega]
    obtain ⟨⟨k, hks, hun⟩, hall⟩ := h
    obtain ⟨j, hjk, hjr⟩ := least_ready ht inv.size k (by omega) hun
    have hjs : j ≠ s := by omega
    by_cases hsr : s ∈ Region.ready md ops listed
    · -- number s may come up: so the first that has not is a plain copy: it is taken first
      obtain ⟨hjun, oj, hoj, hdeps⟩ := mem_ready.1 hjr
      have hplain : plainKind oj.op = true ∧ ∀ (k : Nat) ok, ops[k]? = some ok → k ≠ j → Region.waitsFor md ops k j = true ∨ Region.waitsFor md ops j k = true ∨ oj.apart ops ok = true := by
        rcases hfo j oj (by omega) hoj with h1 | h1
        · obtain ⟨_, os', hos', hd⟩ := mem_ready.1 hsr
          have h2 := reach_listed inv.closed _ _ _ h1 (fun o ho e he hb => by obtain rfl : o = os' := Option.some.inj (ho.symm.trans hos'); exact hd e he hb)
          rw [getD_both hjun] at h2
          cases h2
        · exact h1
      obtain ⟨v, hy, hK⟩ := yieldsIn_of_qOp hoj (hall j hjr hjs).2
      refine wpAny_first hoj (Region.noSelect_spec hsel) (fun c a w => hQ c a _ _ w) (f + g) listed a w (fun k ok hk hkj hku hkn => ?_) hjr (plain_yields hplain.1 hC hy)
        (wpAny_of_barT hsel hw hs ht hfo hQ hL f _ _ w (inv.set (by omega) hjr) hC hK)
      rcases hplain.2 k ok hk hkj with h1 | h1 | h1
      · obtain ⟨ok', hok', e, he, hb, hon⟩ := Region.waitsFor_spec h1
        obtain rfl : ok = ok' := Option.some.inj (hk.symm.trans hok')
        exact absurd hon (hkn e he hb)
      · obtain ⟨oj', hoj', e, he, hb, hon⟩ := Region.waitsFor_spec h1
        obtain rfl : oj = oj' := Option.some.inj (hoj.symm.trans hoj')
        have h2 := hdeps e he hb
        rw [hon, getD_both hku] at h2
        cases h2
      · exact h1
    · refine ⟨fun h0 => (by rw [h0] at hjr; cases hjr), fun i hi => ?_⟩
      have his : i ≠ s := fun e => hsr (e ▸ hi)
      obtain ⟨hlt, hq⟩ := hall i hi his
      exact wpOp_of_qOp hC (fun a' w' hC' hK => wpAny_of_barT hsel hw hs ht hfo hQ hL f _ a' w' (inv.set hlt hi) hC' hK) hq

/-- What the kernel reckons of a region, s the place of the one operation. -/
def barBT (md : Region.Mode) (ops : Array Oper) (s : Nat) : Bool :=
  Region.noSelect ops && decide (s < ops.size) &&
  (List.range ops.size).all (fun i => match ops[i]? with | some o => o.after.all (fun e => !Region.binds md e || decide (e.on < i)) | none => true) &&
  (List.range ops.size).all (fun t => decide (t ≤ s) || Region.waitsFor md ops t s) &&
  (List.range s).all (fun i => reachB md ops ops.size s i || (match ops[i]? with
    | some oi => plainKind oi.op && (List.range ops.size).all (fun j => j == i || Region.waitsFor md ops j i || Region.waitsFor md ops i j || (match ops[j]? with | some oj => oi.apart ops oj | none => true))
    | none => true)) &&
  headB md ops s 0 (Array.replicate ops.size false) &&
  Region.seqB md ops (ops.size - s) s (Array.ofFn (n := ops.size) fun i => decide (i.val < s))

theorem listed_at_barT {listed : Array Bool} (inv : AheadT md ops s listed) (hd : HeadDone s listed) : listed = Array.ofFn (n := ops.size) fun i => decide (i.val < s) := by
  apply Array.ext
  · simp [inv.size]
  · intro i h1 h2
    rw [Array.getElem_ofFn]
    have hsz : i < ops.size := by rw [← inv.size]; exact h1
    by_cases his : i < s
    · have := hd i his
      simp [h1] at this
      simp [his, this]
    · have := inv.late i (by omega) hsz
      simp [h1] at this
      simp [his, this]

/-- ONE WALK OF THE TEXT's ORDER UP TO NUMBER s, in every world of the class; from number s on the operations one by one. -/
theorem wp_region_barT {id : Nat} {Q : Exit → Act → World → Prop} {a : Act} {w : World} {l : List Oper} (s : Nat) (hm : P.follows .mixedOrders = true) (hB : barBT .any l.toArray s = true)
    (hQ : ∀ c a d v w, Q (.panic c) (Act.put a d v) w → Q (.panic c) a w) (hC : C { w with drawn := w.drawn + 1 })
    (h : wpQuiet P l.toArray C (fun a' => ∀ w', C w' → wpList P l.toArray Q (l.drop s) a' w') (l.take s) a) : (Code.region id l.toArray true).wp P Q a w := by
  simp only [barBT, Bool.and_eq_true, decide_eq_true_eq] at hB
  obtain ⟨⟨⟨⟨⟨⟨hsel, hs⟩, htopo⟩, hwait⟩, hfree⟩, hhead⟩, hseq⟩ := hB
  have hn : s < l.length := by simpa using hs
  have htl : (l.take s).length = s := by simp; omega
  have ht : Topo .any l.toArray := fun i o ho e he hb => by
    have h1 := List.all_eq_true.1 htopo i (List.mem_range.2 (Array.getElem?_eq_some_iff.1 ho).1)
    simp only [ho] at h1
    have h2 := Array.all_eq_true_iff_forall_mem.1 h1 e he
    simpa [hb] using h2
  have hw : AllWait .any l.toArray s := fun t hst hlt => by
    have h1 := List.all_eq_true.1 hwait t (List.mem_range.2 hlt)
    simp only [Bool.or_eq_true, decide_eq_true_eq] at h1
    rcases h1 with h1 | h1
    · omega
    · exact h1
  have hfo : FreeOnesT .any l.toArray s := fun i oi hi hoi => by
    have h1 := List.all_eq_true.1 hfree i (List.mem_range.2 hi)
    simp only [hoi, Bool.or_eq_true, Bool.and_eq_true] at h1
    rcases h1 with h1 | ⟨h1, h2⟩
    · exact .inl h1
    · refine .inr ⟨h1, fun j oj hoj hji => ?_⟩
      have h3 := List.all_eq_true.1 h2 j (List.mem_range.2 (Array.getElem?_eq_some_iff.1 hoj).1)
      simp only [hoj, Bool.or_eq_true, beq_iff_eq, hji, false_or] at h3
      rcases h3 with (h3 | h3) | h3
      · exact .inl h3
      · exact .inr (.inl h3)
      · exact .inr (.inr h3)
  have inv0 : AheadT .any l.toArray s (Array.replicate l.toArray.size false) := ⟨by simp, fun t _ ht => getD_in (by simpa using ht) (getD_replicate_false _ _), fun i o ho h => by rw [getD_replicate_false] at h; cases h⟩
  have H := wpBar_lexT (md := .any) (C := C) hsel hw hs (l.take s) 0 _ a (fun j hj => by
    have hj' : j < s := by rw [htl] at hj; exact hj
    simp [hj']) (by simpa using htl) inv0 (fun k hk => absurd hk (Nat.not_lt_zero _)) (by rw [htl]; exact hhead) h
  rw [htl] at H
  refine wp_region_any hm ?_
  have hg : s + (l.toArray.size - s) = l.toArray.size := by omega
  rw [← hg]
  have hg' : (Array.replicate (s + (l.toArray.size - s)) false) = Array.replicate l.toArray.size false := by rw [hg]
  rw [hg']
  refine wpAny_of_barT hsel hw hs ht hfo hQ (fun listed a' w' inv hd hC' hL => ?_) s _ a _ inv0 hC H
  have e := listed_at_barT inv hd
  have hdl : (l.drop s).length = l.toArray.size - s := by simp
  have h1 := wpAny_of_seq (md := .any) (Q' := Q) (l.drop s) s listed a' w' (fun j => by simp [List.getElem?_drop]) (by rw [hdl, e]; exact hseq) (hL w' hC')
  rwa [hdl] at h1

end
theorem region_more_barT {P : Program} {id : Nat} {Q : Exit → Act → World → Prop} {a : Act} {w : World} {l : List Oper} (s : Nat) (hm : P.follows .mixedOrders = true) (hB : barBT .any l.toArray s = true)
    (hQ : ∀ c a d v w, Q (.panic c) (Act.put a d v) w → Q (.panic c) a w)
    (h : wpQuiet P l.toArray (fun w' => ∃ x : More w, w' = x.w) (fun a' => ∀ w', Below w.heap.size w w' → wpList P l.toArray Q (l.drop s) a' w') (l.take s) a) : (Code.region id l.toArray true).wp P Q a w := by
  refine wp_region_barT (C := fun w' => ∃ x : More w, w' = x.w) s hm hB hQ ⟨⟨w.drew, (Below.refl _ _).drew⟩, rfl⟩ ?_
  have e : (fun a' => ∀ w', (∃ x : More w, w' = x.w) → wpList P l.toArray Q (l.drop s) a' w') = fun a' => ∀ w', Below w.heap.size w w' → wpList P l.toArray Q (l.drop s) a' w' :=
    funext fun a' => propext ⟨fun k w' hb => k w' ⟨⟨w', hb⟩, rfl⟩, fun k w' ⟨x, hx⟩ => hx ▸ k _ x.hb⟩
  rw [e]
  exact h
end Go.Proofs.YtkaaeajidejchaaGreatDoor.Reg
end
