/- What a byteStringReplacer with these two bytes makes of a text; a row of bytes of one's own. -/
import Derived.Test.YtfkobhagdjaleaaGreatDoorS0
import Derived.Laws.Tables
import Derived.Laws.MakeOwn
import Derived.Laws.CopyOwn
import Derived.Deep.MidRow
namespace Go.Proofs.YtfkobhagdjaleaaGreatDoor.Sp
open Go.RowKit

def spec (c : UInt8) : Bool := c == 34 || c == 92
def escC (c : UInt8) : List UInt8 := if spec c = true then [92, c] else [c]
def esc (l : List UInt8) : List UInt8 := l.flatMap escC
/-- so many bytes are replaced -/
def extra (l : List UInt8) : Nat := l.countP spec
theorem escC_len (c : UInt8) : (escC c).length = if spec c = true then 2 else 1 := by unfold escC; split <;> rfl
theorem esc_len (l : List UInt8) : (esc l).length = l.length + extra l := by
  unfold esc extra
  induction l with
  | nil => rfl
  | cons c t ih =>
    rw [List.flatMap_cons, List.length_append, ih, List.length_cons, List.countP_cons, escC_len]
    split <;> omega
theorem esc_none (l : List UInt8) (h : extra l = 0) : esc l = l := by
  unfold extra at h
  rw [List.countP_eq_zero] at h
  unfold esc
  induction l with
  | nil => rfl
  | cons c t ih =>
    rw [List.flatMap_cons, ih (fun a ha => h a (List.mem_cons_of_mem _ ha))]
    have hc : spec c = false := by have := h c List.mem_cons_self; simpa using this
    unfold escC
    rw [if_neg (by rw [hc]; decide)]
    rfl
theorem extra_count (l : List UInt8) : extra l = l.count 92 + l.count 34 := by
  unfold extra List.count
  induction l with
  | nil => rfl
  | cons c t ih =>
    rw [List.countP_cons, List.countP_cons, List.countP_cons, ih]
    unfold spec
    by_cases h1 : c = 34
    · subst h1; simp; omega
    · by_cases h2 : c = 92
      · subst h2; simp; omega
      · simp [h1, h2]
theorem extra_le (l : List UInt8) : extra l ≤ l.length := List.countP_le_length
theorem extra_take (s : ByteArray) (k : Nat) (h : k < s.size) : extra (s.data.toList.take (k + 1)) = extra (s.data.toList.take k) + if spec s[k] = true then 1 else 0 := by
  have h' : k < s.data.toList.length := by simpa using h
  unfold extra
  rw [List.take_succ_eq_append_getElem h', List.countP_append]
  congr 1
  rw [List.countP_cons, List.countP_nil, Nat.zero_add]
  rfl
theorem esc_take (s : ByteArray) (k : Nat) (h : k < s.size) : esc (s.data.toList.take (k + 1)) = esc (s.data.toList.take k) ++ escC s[k] := by
  have h' : k < s.data.toList.length := by simpa using h
  unfold esc
  rw [List.take_succ_eq_append_getElem h', List.flatMap_append, List.flatMap_cons, List.flatMap_nil, List.append_nil]
  rfl
theorem extra_take_le (l : List UInt8) (k : Nat) : extra (l.take k) ≤ extra l := List.Sublist.countP_le (List.take_sublist k l)
theorem take_len (s : ByteArray) (k : Nat) (h : k ≤ s.size) : (s.data.toList.take k).length = k := by
  rw [List.length_take]; have : s.data.toList.length = s.size := by simp
  omega
theorem spec_nat (c : UInt8) : spec c = (((c.toNat : Int) == 34) || ((c.toNat : Int) == 92)) := by
  revert c
  intro c
  have := byte_all (fun c => spec c == (((c.toNat : Int) == 34) || ((c.toNat : Int) == 92))) (by decide +kernel) c
  simpa using this

/-- a row of bytes of one's own, in block g -/
def RowB (w : World) (g : Nat) (L : List UInt8) : Prop := w.heap[g]? = some (.cells (Mem.bytesV L).toArray 5 (0, 0))
section
variable {w w' : World} {g : Nat} {L : List UInt8}
theorem RowB.has (h : RowB w g L) : Reg.Has w g (Mem.bytesV L) := by
  refine ⟨fun i v hv => ?_, fun i hi => ?_, (Array.getElem?_eq_some_iff.1 h).1⟩
  · have h' : w.heap[g]? = some (.cells (Mem.bytesV L).toArray 5 (0, 0)) := h
    simp only [World.cell?, h']
    simpa using hv
  · have h' : w.heap[g]? = some (.cells (Mem.bytesV L).toArray 5 (0, 0)) := h
    simp only [World.frozen?, h']
    simp
theorem RowB.call (h : RowB w g L) (hb : Below w.heap.size w w') : RowB w' g L := by
  unfold RowB
  rw [hb.block g (Array.getElem?_eq_some_iff.1 h).1]
  exact h
theorem RowB.set (h : RowB w g L) (i : Nat) (c : UInt8) : RowB (w.setCell ⟨g, i, none⟩ (.int .u8 c.toNat)) g (L.set i c) := by
  unfold RowB
  rw [setCell_eq_setRow w g i _ _ _ _ h]
  have := setRow_heap w g _ ((Mem.bytesV L).toArray.setIfInBounds i (.int .u8 c.toNat)) _ _ h
  rw [this]
  congr 2
  rw [← Mem.bytesV_set]
  simp
end
theorem made_zero (n : Nat) : madeCells #[.int .u8 0] n = (Mem.bytesV (List.replicate n 0)).toArray := by
  unfold madeCells Mem.bytesV
  apply Array.ext
  · simp
  · intro i h1 h2
    simp [Nat.mod_one]
theorem make_bytes (w : World) (n : Nat) (hn : n ≤ 16000000) : ∃ w1, (Instr.makeSlice 54 (.int .i64 n) (.int .i64 n)).run Tryz.prog w = .ok (.slice (some ⟨w.heap.size, 0, none⟩) n n) w1 ∧
    RowB w1 w.heap.size (List.replicate n 0) ∧ Below w.heap.size w w1 := by
  obtain ⟨i, hi, hz, h1, h2⟩ := info_parts (P := Tryz.prog) (e := 5) (z := .int .u8 0) (size := 1) (bytes := 1) (by kernel_rfl)
  have hr := run_makeSlice (P := Tryz.prog) w 54 5 i (.int .u8 0) Tryz.underlying54 hi hz .i64 .i64 n n (by omega) (Int.le_refl _) (by rw [h1]; simp; omega) (by rw [h2]; omega) (by omega)
  refine ⟨_, hr, ?_, (Below.refl _ _).alloc (Nat.le_refl _) _⟩
  unfold RowB
  rw [h1]
  have : (Value.int IntKind.u8 0).cells = #[.int .u8 0] := rfl
  rw [this, made_zero]
  rw [Int.toNat_natCast, Nat.mul_one]
  exact alloc_at _ _
theorem splice_take (L : List UInt8) (j : Nat) (cs : List UInt8) (h : j + cs.length ≤ L.length) : (splice L j cs).take (j + cs.length) = L.take j ++ cs := by
  unfold splice
  rw [← List.append_assoc, List.take_append_of_le_length (by rw [List.length_append, List.length_take]; omega), List.take_of_length_le (by rw [List.length_append, List.length_take]; omega)]
theorem splice_map (L : List UInt8) (j : Nat) (cs : List UInt8) : splice (Mem.bytesV L) j (Mem.bytesV cs) = Mem.bytesV (splice L j cs) := by
  unfold splice Mem.bytesV
  simp [List.map_append, List.map_take, List.map_drop]
theorem set_take (L : List UInt8) (j : Nat) (c : UInt8) (h : j < L.length) : (L.set j c).take (j + 1) = L.take j ++ [c] := by
  rw [List.take_succ_eq_append_getElem (by rw [List.length_set]; exact h), List.getElem_set_self, List.take_set_of_le (Nat.le_refl _)]
end Go.Proofs.YtfkobhagdjaleaaGreatDoor.Sp
