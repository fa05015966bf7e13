/- Lower of the program and of the reference; Same of both. -/
import Derived.Test.YtfkobhagdjaleaaGreatDoorB0
import Derived.Test.YtfkobhagdjaleaaGreatDoorMem
namespace Go.Proofs.YtfkobhagdjaleaaGreatDoor.Sp
open Go.RowKit

def lowB (c : UInt8) : UInt8 := if 65 ≤ c.toNat ∧ c.toNat ≤ 90 then c + 32 else c
def lower (l : List UInt8) : List UInt8 := l.map lowB
def lowTo (k : Nat) (l : List UInt8) : List UInt8 := (l.take k).map lowB ++ l.drop k

theorem lowB_nat (c : UInt8) (h : 65 ≤ c.toNat ∧ c.toNat ≤ 90) : (lowB c).toNat = c.toNat + 32 := by
  unfold lowB; rw [if_pos h, UInt8.toNat_add]; have : (32 : UInt8).toNat = 32 := rfl; omega
theorem lowB_same (c : UInt8) (h : ¬ (65 ≤ c.toNat ∧ c.toNat ≤ 90)) : lowB c = c := by unfold lowB; rw [if_neg h]
theorem lowTo_len (k : Nat) (l : List UInt8) : (lowTo k l).length = l.length := by
  unfold lowTo; rw [List.length_append, List.length_map, List.length_take, List.length_drop]; omega
theorem lowTo_zero (l : List UInt8) : lowTo 0 l = l := by simp [lowTo]
theorem lowTo_all (l : List UInt8) : lowTo l.length l = lower l := by simp [lowTo, lower]
theorem lowTo_at (k : Nat) (s : ByteArray) (h : k < s.size) : (Mem.bytesV (lowTo k s.data.toList))[k]? = some (.int .u8 s[k].toNat) := by
  have h' : k < s.data.toList.length := by simpa using h
  have hl : ((s.data.toList.take k).map lowB).length = k := by rw [List.length_map, List.length_take]; omega
  have hg : (lowTo k s.data.toList)[k]? = some s[k] := by
    unfold lowTo
    rw [List.getElem?_append_right (by omega), hl, Nat.sub_self, drop_cons s k h]
    rfl
  unfold Mem.bytesV
  rw [List.getElem?_map, hg]
  rfl
theorem lowTo_next (k : Nat) (s : ByteArray) (h : k < s.size) (n : Int) (hn : n = (lowB s[k]).toNat) : (Mem.bytesV (lowTo k s.data.toList)).set k (.int .u8 n) = Mem.bytesV (lowTo (k + 1) s.data.toList) := by
  have h' : k < s.data.toList.length := by simpa using h
  have hl : ((s.data.toList.take k).map lowB).length = k := by rw [List.length_map, List.length_take]; omega
  rw [hn, Mem.bytesV_set]
  congr 1
  unfold lowTo
  rw [List.set_append_right _ _ (by omega), hl, Nat.sub_self, drop_cons s k h, List.set_cons_zero, List.take_succ_eq_append_getElem h', List.map_append, List.append_assoc]
  rfl
theorem lowTo_skip (k : Nat) (s : ByteArray) (h : k < s.size) (hs : lowB s[k] = s[k]) : lowTo k s.data.toList = lowTo (k + 1) s.data.toList := by
  have h' : k < s.data.toList.length := by simpa using h
  unfold lowTo
  rw [drop_cons s k h, List.take_succ_eq_append_getElem h', List.map_append, List.append_assoc]
  congr 1
  simp only [List.map_cons, List.map_nil, List.cons_append, List.nil_append]
  rw [show s.data.toList[k] = s[k] from rfl, hs]

theorem rlower_any (s : ByteArray) (hs : s.size ≤ 9223372036854775807) (w : World) :
    Calls Tryz.prog 41 #[.string s] w fun e w' => e = .returned (.string ⟨(lower s.data.toList).toArray⟩) ∧ Below w.heap.size w w' := by
  go_enter Tryz.func41, Tryz.ntmps41
  go_wp2_with (refine Mem.wpList_bytes rfl 9 54 5 _ rfl _ rfl Tryz.underlying9 Tryz.underlying54 Tryz.underlying5 ?_; intro cap w1 HB hb)
  go_loopw [4] (fun i wr => ∃ k : Nat, k ≤ s.size ∧ i = .int .i64 k ∧ Reg.Has wr w.heap.size (Mem.bytesV (lowTo k s.data.toList)) ∧ Below w.heap.size w wr) (fun i _ => s.size - (intOf i).toNat)
  case atStart => exact ⟨0, Nat.zero_le _, rfl, by rw [lowTo_zero]; exact HB, hb⟩
  case round =>
    clear HB hb
    obtain ⟨k, hk, rfl, HB, hb⟩ := hrel
    by_cases hlt : k < s.size
    · have c0 := HB.cell k _ (lowTo_at k s hlt)
      have f0 := HB.free k (by rw [Mem.bytesV_len, lowTo_len]; simpa using hlt)
      have zB := HB.lt
      go_wp2
      · have hr : 65 ≤ s[k].toNat ∧ s[k].toNat ≤ 90 := by omega
        go_roundw
        case rel =>
          exact ⟨k + 1, by omega, by go_num, by rw [← lowTo_next k s hlt ((s[k].toNat : Int) + 32) (by rw [lowB_nat _ hr]; omega)]; exact HB.put k _, hb.setCell (by simp) _⟩
        case measure => simp [intOf]; omega
      all_goals
        go_roundw
        case rel =>
          exact ⟨k + 1, by omega, by go_num, by rw [← lowTo_skip k s hlt (lowB_same _ (by omega))]; exact HB, hb⟩
        case measure => simp [intOf]; omega
    · have hke : k = s.size := by omega
      subst hke
      go_wp2_with (refine Mem.wpList_text rfl 54 9 5 _ rfl _ _ _ (lowTo s.size s.data.toList) rfl Tryz.underlying54 Tryz.underlying9 Tryz.underlying5 (by rw [lowTo_len]; simp) HB ?_)
      go_ret
      exact ⟨ret_str (by rw [← lowTo_all]; simp), hb⟩

theorem lower_any (s : ByteArray) (hs : s.size ≤ 9223372036854775807) (w : World) :
    Calls Tryz.prog 37 #[.string s] w fun e w' => e = .returned (.string ⟨(lower s.data.toList).toArray⟩) ∧ Below w.heap.size w w' := by
  go_enter Tryz.func37, Tryz.ntmps37
  go_wp2_with (refine Mem.wpList_bytes rfl 9 54 5 _ rfl _ rfl Tryz.underlying9 Tryz.underlying54 Tryz.underlying5 ?_; intro cap w1 HB hb)
  go_loopw [10] (fun i wr => ∃ k : Nat, k ≤ s.size ∧ i = .int .i64 k ∧ Reg.Has wr w.heap.size (Mem.bytesV (lowTo k s.data.toList)) ∧ Below w.heap.size w wr) (fun i _ => s.size - (intOf i).toNat)
  case atStart => exact ⟨0, Nat.zero_le _, rfl, by rw [lowTo_zero]; exact HB, hb⟩
  case round =>
    clear HB hb
    obtain ⟨k, hk, rfl, HB, hb⟩ := hrel
    by_cases hlt : k < s.size
    · have c0 := HB.cell k _ (lowTo_at k s hlt)
      have f0 := HB.free k (by rw [Mem.bytesV_len, lowTo_len]; simpa using hlt)
      have zB := HB.lt
      go_wp2
      · have hr : 65 ≤ s[k].toNat ∧ s[k].toNat ≤ 90 := by omega
        go_roundw
        case rel =>
          exact ⟨k + 1, by omega, by go_num, by rw [← lowTo_next k s hlt ((s[k].toNat : Int) + 97 - 65) (by rw [lowB_nat _ hr]; omega)]; exact HB.put k _, hb.setCell (by simp) _⟩
        case measure => simp [intOf]; omega
      all_goals
        go_roundw
        case rel =>
          exact ⟨k + 1, by omega, by go_num, by rw [← lowTo_skip k s hlt (lowB_same _ (by omega))]; exact HB, hb⟩
        case measure => simp [intOf]; omega
    · have hke : k = s.size := by omega
      subst hke
      go_wp2_with (refine Mem.wpList_text rfl 54 9 5 _ rfl _ _ _ (lowTo s.size s.data.toList) rfl Tryz.underlying54 Tryz.underlying9 Tryz.underlying5 (by rw [lowTo_len]; simp) HB ?_)
      go_ret
      exact ⟨ret_str (by rw [← lowTo_all]; simp), hb⟩

theorem lower_size (s : ByteArray) : (⟨(lower s.data.toList).toArray⟩ : ByteArray).size = s.size := by
  show (lower s.data.toList).toArray.size = s.size
  rw [List.size_toArray]; unfold lower; rw [List.length_map]; simp

def same (a b : List UInt8) : Bool := lower a == lower b
theorem same_any (a b : ByteArray) (ha : a.size ≤ 9223372036854775807) (hb : b.size ≤ 9223372036854775807) (w : World) :
    Calls Tryz.prog 35 #[.string a, .string b] w fun e w' => e = .returned (.bool (same a.data.toList b.data.toList)) ∧ Below w.heap.size w w' := by
  go_enter Tryz.func35, Tryz.ntmps35
  go_wp2_with fail
  refine (lower_any a ha _).mono ?_; rintro e w1 ⟨rfl, hb1⟩
  go_wp2_with fail
  refine (lower_any b hb _).mono ?_; rintro e w2 ⟨rfl, hb2⟩
  go_wp2
  go_ret
  exact ⟨ret_bool (by unfold same; rfl), hb1.trans (hb2.mono hb1.size)⟩

theorem rsame_any (a b : ByteArray) (ha : a.size ≤ 9223372036854775807) (hb : b.size ≤ 9223372036854775807) (w : World) :
    Calls Tryz.prog 42 #[.string a, .string b] w fun e w' => e = .returned (.bool (same a.data.toList b.data.toList)) ∧ Below w.heap.size w w' := by
  go_enter Tryz.func42, Tryz.ntmps42
  go_wp2_with fail
  refine (rlower_any a ha _).mono ?_; rintro e w1 ⟨rfl, hb1⟩
  go_wp2_with fail
  refine (rlower_any b hb _).mono ?_; rintro e w2 ⟨rfl, hb2⟩
  go_wp2
  go_ret
  exact ⟨ret_bool (by unfold same; rfl), hb1.trans (hb2.mono hb1.size)⟩

end Go.Proofs.YtfkobhagdjaleaaGreatDoor.Sp
