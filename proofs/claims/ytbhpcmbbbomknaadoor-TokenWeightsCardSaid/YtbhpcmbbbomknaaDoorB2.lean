/- Lower of the program and of the reference; Same of both. -/
import Derived.Test.YtbhpcmbbbomknaaDoorB0
import Derived.Test.YtbhpcmbbbomknaaDoorMem
namespace Go.Proofs.YtbhpcmbbbomknaaDoor.Sp
open Go.RowKit

def lowB (c : UInt8) : UInt8 := if 65 ≤ c.toNat ∧ c.toNat ≤ 90 then c + 32 else c
def lower (l : List UInt8) : List UInt8 := l.map lowB
def lowTo (k : Nat) (l : List UInt8) : List UInt8 := (l.take k).map lowB ++ l.drop k

theorem lowB_nat (c : UInt8) (h : 65 ≤ c.toNat ∧ c.toNat ≤ 90) : (lowB c).toNat = c.toNat + 32 := by
  unfold lowB; rw [if_pos h, UInt8.toNat_add]; have : (32 : UInt8).toNat = 32 := rfl; omega
theorem lowB_same (c : UInt8) (h : ¬ (65 ≤ c.toNat ∧ c.toNat ≤ 90)) : lowB c = c := by unfold lowB; rw [if_neg h]
theorem lowTo_len (k : Nat) (l : List UInt8) : (lowTo k l).length = l.length := by
  unfold lowTo; rw [List.length_append, List.length_map, List.length_take, List.length_drop]; omega
theorem lowTo_zero (l : List UInt8) : lowTo 0 l = l := by simp [lowTo]
theorem lowTo_all (l : List UInt8) : lowTo l.length l = lower l := by simp [lowTo, lower]
theorem lowTo_at (k : Nat) (s : ByteArray) (h : k < s.size) : (Mem.bytesV (lowTo k s.data.toList))[k]? = some (.int .u8 s[k].toNat) := by
  have h' : k < s.data.toList.length := by simpa using h
  have hl : ((s.data.toList.take k).map lowB).length = k := by rw [List.length_map, List.length_take]; omega
  have hg : (lowTo k s.data.toList)[k]? = some s[k] := by
    unfold lowTo
    rw [List.getElem?_append_right (by omega), hl, Nat.sub_self, drop_cons s k h]
    rfl
  unfold Mem.bytesV
  rw [List.getElem?_map, hg]
  rfl
theorem lowTo_next (k : Nat) (s : ByteArray) (h : k < s.size) (n : Int) (hn : n = (lowB s[k]).toNat) : (Mem.bytesV (lowTo k s.data.toList)).set k (.int .u8 n) = Mem.bytesV (lowTo (k + 1) s.data.toList) := by
  have h' : k < s.data.toList.length := by simpa using h
  have hl : ((s.data.toList.take k).map lowB).length = k := by rw [List.length_map, List.length_take]; omega
  rw [hn, Mem.bytesV_set]
  congr 1
  unfold lowTo
  rw [List.set_append_right _ _ (by omega), hl, Nat.sub_self, drop_cons s k h, List.set_cons_zero, List.take_succ_eq_append_getElem h', List.map_append, List.append_assoc]
  rfl
theorem lowTo_skip (k : Nat) (s : ByteArray) (h : k < s.size) (hs : lowB s[k] = s[k]) : lowTo k s.data.toList = lowTo (k + 1) s.data.toList := by
  have h' : k < s.data.toList.length := by simpa using h
  unfold lowTo
  rw [drop_cons s k h, List.take_succ_eq_append_getElem h', List.map_append, List.append_assoc]
  congr 1
  simp only [List.map_cons, List.map_nil, List.cons_append, List.nil_append]
  rw [show s.data.toList[k] = s[k] from rfl, hs]



theorem lower_size (s : ByteArray) : (⟨(lower s.data.toList).toArray⟩ : ByteArray).size = s.size := by
  show (lower s.data.toList).toArray.size = s.size
  rw [List.size_toArray]; unfold lower; rw [List.length_map]; simp

def same (a b : List UInt8) : Bool := lower a == lower b


end Go.Proofs.YtbhpcmbbbomknaaDoor.Sp
