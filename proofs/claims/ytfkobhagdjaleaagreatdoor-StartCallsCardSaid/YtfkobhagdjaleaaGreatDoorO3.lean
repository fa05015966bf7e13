/- strings.NewReplacer: the table of a byteStringReplacer in memory. -/
import Derived.Test.YtfkobhagdjaleaaGreatDoorO2
namespace Go.Proofs.YtfkobhagdjaleaaGreatDoor.Sp
open Go.RowKit Sl

/-- what the table holds: at the quote A, at the backslash B, and the list of what is replaced -/
def tabL (A B sl : Value) : List Value := ((List.replicate 256 nilS).set 34 A).set 92 B ++ [sl]
def tab0 (sl : Value) : Array Value := (Array.replicate 256 nilS).push sl
def tabZ : Array Value := (Array.replicate 256 nilS).push nilS
theorem tab0_eq (sl : Value) : (tab0 sl).toList = tabL nilS nilS sl := by kernel_rfl
theorem tabL_setA (A B sl u : Value) : (tabL A B sl).set 34 u = tabL u B sl := by kernel_rfl
theorem tabL_setB (A B sl u : Value) : (tabL A B sl).set 92 u = tabL A u sl := by kernel_rfl
theorem tabL_setS (A B sl u : Value) : (tabL A B sl).set 256 u = tabL A B u := by kernel_rfl
theorem tabL_S (A B sl : Value) : (tabL A B sl)[256]? = some sl := by kernel_rfl
theorem tabL_A (A B sl : Value) : (tabL A B sl)[34]? = some A := by kernel_rfl
theorem tabL_B (A B sl : Value) : (tabL A B sl)[92]? = some B := by kernel_rfl
theorem tabL_0 (A B sl : Value) : (tabL A B sl)[0]? = some nilS := by kernel_rfl
theorem tabL_len (A B sl : Value) : (tabL A B sl).length = 257 := by kernel_rfl
theorem tabL_no (A B sl : Value) (c : Nat) (h : c < 256) (h1 : c ≠ 34) (h2 : c ≠ 92) : (tabL A B sl)[c]? = some nilS := by
  unfold tabL
  rw [List.getElem?_append_left (by rw [List.length_set, List.length_set, List.length_replicate]; exact h), List.getElem?_set_ne (by omega), List.getElem?_set_ne (by omega), List.getElem?_replicate, if_pos h]

theorem built_tab (ao : Option Addr) (n c : Nat) : Tryz.prog.built 151 [(1, .slice ao n c)] = some (tab0 (.slice ao n c)) := by kernel_rfl
theorem zero_tab (w : World) : (zeroValue 151).run Tryz.prog w = .ok (.agg tabZ) w := by kernel_rfl

section
variable {ops : Array Oper} {rest : List Oper} {o : Oper} {a : Act} {w : World} {Q : Exit → Act → World → Prop}
theorem wpList_tabBuild (hgd : o.guard = none) (x : Operand) (ho : o.op = .build 151 #[(1, x)]) (ao : Option Addr) (n c : Nat) (hx : a.eval x = .slice ao n c)
    (h : wpList Tryz.prog ops Q rest (a.put o.dst (.agg (tab0 (.slice ao n c)))) w) : wpList Tryz.prog ops Q (o :: rest) a w := by
  refine wpList_plain hgd fun K hK => ?_
  have hc : Tryz.prog.built 151 ((#[(1, x)] : Array (Nat × Operand)).map fun (i, x) => (i, a.eval x)).toList = some (tab0 (.slice ao n c)) := by
    simp [hx]; exact built_tab ao n c
  unfold Oper.wp execOp
  simp only [ho, Sem.run_bind, run_build w _ _ _ hc, Result.andThen_ok]
  exact hK _ _ h
theorem run_tabAlloc (w : World) : (Instr.alloc 151 true (.tuple #[])).run Tryz.prog w = .ok (.pointer (some ⟨w.heap.size, 0, none⟩)) (w.alloc (.cells tabZ 151)) := by
  unfold Instr.alloc
  simp only [Sem.run_bind, zero_tab, Result.andThen_ok]
  simp [newVar, newRow, Value.cells]
theorem wpList_tabAlloc (hgd : o.guard = none) (ho : o.op = .alloc 151)
    (h : wpList Tryz.prog ops Q rest (a.put o.dst (.pointer (some ⟨w.heap.size, 0, none⟩))) (w.alloc (.cells tabZ 151))) : wpList Tryz.prog ops Q (o :: rest) a w := by
  refine wpList_plain hgd fun K hK => ?_
  unfold Oper.wp execOp
  simp only [ho, Sem.run_bind, run_tabAlloc, Result.andThen_ok]
  exact hK _ _ h
end

theorem has_tab0 (w : World) (v : Value) : Reg.Has ((w.alloc (.cells tabZ 151)).setRow w.heap.size (tab0 v)) w.heap.size (tabL nilS nilS v) := by
  have hg := alloc_at w (.cells tabZ 151)
  have hh := setRow_heap _ _ _ (tab0 v) _ _ hg
  refine ⟨fun i u hu => ?_, fun i hi => ?_, ?_⟩
  · rw [cell_setRow_same _ _ _ _ _ _ _ hg]
    rw [← tab0_eq] at hu
    simpa using hu
  · simp only [World.frozen?, hh]
    simp
  · exact (Array.getElem?_eq_some_iff.1 hh).1
theorem below_tab0 (w : World) (v : Value) : Below w.heap.size w ((w.alloc (.cells tabZ 151)).setRow w.heap.size (tab0 v)) := by
  have h := (Below.refl w.heap.size w).alloc (Nat.le_refl _) (.cells tabZ 151)
  refine ⟨h.os, h.tape, h.output, ?_, fun k hk => ?_⟩
  · simp [World.setRow]
  · rw [setRow_other _ _ _ _ (by omega)]
    exact h.block k hk
theorem tab0_one (ao : Option Addr) (n c : Nat) : (tab0 (.slice ao n c)).all (·.oneCell') = true := by kernel_rfl
theorem tab_info (v : Value) : (Tryz.prog.info? 151).map (·.size) = some (tab0 v).size := by kernel_rfl
theorem nil_eql (w : World) : (binOp .eql 54 (.slice none 0 0) (.slice none 0 0)).run Tryz.prog w = .ok (.bool true) w := by
  first | kernel_rfl | (simp [binOp, go_sem]; done)
theorem nil_eql_no (ad : Addr) (n c : Nat) (w : World) : (binOp .eql 54 (.slice (some ad) n c) (.slice none 0 0)).run Tryz.prog w = .ok (.bool false) w := by
  first | kernel_rfl | (simp [binOp, go_sem]; done)
theorem nil_neq (w : World) : (binOp .neq 54 (.slice none 0 0) (.slice none 0 0)).run Tryz.prog w = .ok (.bool false) w := by
  first | kernel_rfl | (simp [binOp, go_sem]; done)
theorem nil_neq_no (ad : Addr) (n c : Nat) (w : World) : (binOp .neq 54 (.slice (some ad) n c) (.slice none 0 0)).run Tryz.prog w = .ok (.bool true) w := by
  first | kernel_rfl | (simp [binOp, go_sem]; done)
end Go.Proofs.YtfkobhagdjaleaaGreatDoor.Sp
