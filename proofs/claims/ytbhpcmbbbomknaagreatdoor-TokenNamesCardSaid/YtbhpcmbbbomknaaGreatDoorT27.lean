/- token.Tchar, Char. -/
import Derived.Test.YtbhpcmbbbomknaaGreatDoorB4
namespace Go.Proofs.YtbhpcmbbbomknaaGreatDoor.Sp
open Go.RowKit

theorem tbl_at (c : UInt8) : tblArr[c.toNat]? = some (.int .u8 (kindOf c.toNat)) := by
  have hc := c.toNat_lt
  have h := tbl_get 256 c.toNat (by omega)
  rw [if_pos (by omega)] at h
  unfold tblArr
  rw [List.getElem?_toArray]
  exact h
theorem index_tab (T : Array Value) (c : UInt8) (v : Value) (h : T[c.toNat]? = some v) (w : World) : (Instr.index 57 (.agg T) (.int .u8 c.toNat)).run Tryz.prog w = .ok v w := by
  have hc := c.toNat_lt
  have hsz : (sizeOf 5).run Tryz.prog w = .ok 1 w := by kernel_rfl
  have hg : (isAgg 5).run Tryz.prog w = .ok false w := by kernel_rfl
  have h1 : (0 : Int) ≤ (c.toNat : Int) ∧ (c.toNat : Int) < 256 := by omega
  simp [Instr.index, run_underlying Tryz.underlying57, asIntOf, part, go_sem, hsz, hg, h1, h]
  intro k
  omega
set_option maxRecDepth 100000 in
theorem tchar_any (c : UInt8) (w : World) : Calls Tryz.prog 20 #[.int .u8 c.toNat] w fun e w' => e = .returned (.bool (tch c)) ∧ Below w.heap.size w w' := by
  have ha := tbl_at c
  have hs := tblArr_size
  have hq := kind_and1 c
  have hc := c.toNat_lt
  have ct := hide (fun w => table_any w)
  have hix := index_tab tblArr c _ ha
  generalize tblArr = T at *
  cases ht : tch c
  · rw [ht] at hq
    simp only [Bool.false_eq_true, if_false] at hq
    go_enter Tryz.func20, Tryz.ntmps20
    go_wp2_with fail
    refine (unhide ct _).mono ?_; rintro e w1 ⟨rfl, hb1⟩
    go_wp2_with fail
    go_ret
    exact ⟨rfl, hb1⟩
  · rw [ht] at hq
    simp only [if_true] at hq
    go_enter Tryz.func20, Tryz.ntmps20
    go_wp2_with fail
    refine (unhide ct _).mono ?_; rintro e w1 ⟨rfl, hb1⟩
    go_wp2_with fail
    go_ret
    exact ⟨rfl, hb1⟩
set_option maxRecDepth 100000 in
theorem char_tok (c : UInt8) (w : World) : Calls Tryz.prog 21 #[.int .u8 c.toNat] w fun e w' => e = .returned (.bool (chr c)) ∧ Below w.heap.size w w' := by
  have ha := tbl_at c
  have hs := tblArr_size
  have hq := kind_and2 c
  have hc := c.toNat_lt
  have ct := hide (fun w => table_any w)
  have hix := index_tab tblArr c _ ha
  generalize tblArr = T at *
  cases ht : chr c
  · rw [ht] at hq
    simp only [Bool.false_eq_true, if_false] at hq
    go_enter Tryz.func21, Tryz.ntmps21
    go_wp2_with fail
    refine (unhide ct _).mono ?_; rintro e w1 ⟨rfl, hb1⟩
    go_wp2_with fail
    go_ret
    exact ⟨rfl, hb1⟩
  · rw [ht] at hq
    simp only [if_true] at hq
    go_enter Tryz.func21, Tryz.ntmps21
    go_wp2_with fail
    refine (unhide ct _).mono ?_; rintro e w1 ⟨rfl, hb1⟩
    go_wp2_with fail
    go_ret
    exact ⟨rfl, hb1⟩
end Go.Proofs.YtbhpcmbbbomknaaGreatDoor.Sp
