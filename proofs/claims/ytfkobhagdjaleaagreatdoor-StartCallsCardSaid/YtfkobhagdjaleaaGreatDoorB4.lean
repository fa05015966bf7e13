/- token.all, Token, Same; start.seen, version, Request. -/
import Derived.Test.YtfkobhagdjaleaaGreatDoorB3
namespace Go.Proofs.YtfkobhagdjaleaaGreatDoor.Sp
open Go.RowKit

/-! ### plain -/
def tch (c : UInt8) : Bool := tB c.toNat
def chr (c : UInt8) : Bool := cB c.toNat
def allS (q : UInt8 → Bool) (l : List UInt8) : Bool := l.all q
def tokenS (l : List UInt8) : Bool := !l.isEmpty && allS tch l
theorem tblArr_size : tblArr.size = 256 := by unfold tblArr; rw [List.size_toArray, tbl_len]
theorem kind_and1 (c : UInt8) : bits BinOp.and IntKind.u8 (kindOf c.toNat) 1 = if tch c then 1 else 0 := by
  unfold tch kindOf
  cases tB c.toNat <;> cases cB c.toNat <;> kernel_rfl
theorem kind_and2 (c : UInt8) : bits BinOp.and IntKind.u8 (kindOf c.toNat) 2 = if chr c then 2 else 0 := by
  unfold chr kindOf
  cases tB c.toNat <;> cases cB c.toNat <;> kernel_rfl

theorem all_take {q : UInt8 → Bool} (s : ByteArray) (k : Nat) (h : k < s.size) : (s.data.toList.take (k + 1)).all q = ((s.data.toList.take k).all q && q s[k]) := by
  rw [List.take_succ_eq_append_getElem (by simpa using h), List.all_append]
  simp only [List.all_cons, List.all_nil, Bool.and_true]
  rfl
theorem all_no {q : UInt8 → Bool} (s : ByteArray) (k : Nat) (h : k < s.size) (hq : q s[k] = false) : s.data.toList.all q = false := by
  rw [List.all_eq_false]
  exact ⟨s[k], by rw [show s[k] = s.data.toList[k]'(by simpa using h) from rfl]; exact List.getElem_mem _, by rw [hq]; decide⟩

set_option maxRecDepth 100000 in
set_option maxHeartbeats 1000000 in
theorem all_any (s : ByteArray) (hs : s.size ≤ 9223372036854775807) (kind : Int) (q : UInt8 → Bool) (hq : ∀ c : UInt8, bits BinOp.and IntKind.u8 (kindOf c.toNat) kind = if q c then kind else 0) (hk : (kind == 0) = false) (w : World) :
    Calls Tryz.prog 51 #[.string s, .int .u8 kind] w fun e w' => e = .returned (.bool (allS q s.data.toList)) ∧ Below w.heap.size w w' := by
  have HQ := Lib.hid hq
  clear hq
  have hz := zero_value
  go_enter Tryz.func51, Tryz.ntmps51
  go_wp2_with fail
  refine (table_any _).mono ?_; rintro e w1 ⟨rfl, hb1⟩
  have hi2 : (Tryz.prog.info? 81).map (·.size) = some tblArr.size := by rw [tblArr_size]; kernel_rfl
  have H0 := Reg.Has.at w1 w1.heap.size (tbl 0) 81 rfl
  have ht : (w1.alloc (.cells zeroArr 81)).there w1.heap.size 0 tblArr.size := by have := has_there H0; rw [tblArr_size]; rw [tbl_len] at this; exact this
  have ho : tblArr.all (·.oneCell') = true := by kernel_rfl
  have HS : Reg.Has ((w1.alloc (.cells zeroArr 81)).setCells w1.heap.size 0 tblArr.toList) w1.heap.size (tbl 256) := has_setCells (vs := tbl 256) (by rw [tblArr_size, tbl_len]) ht H0.lt (fun o w => size_setCells _ _ _ _)
  have hbel : Below w.heap.size w ((w1.alloc (.cells zeroArr 81)).setCells w1.heap.size 0 tblArr.toList) := below_setCells _ hb1.size _ _ _ (hb1.alloc hb1.size _)
  have HI2 := Lib.hid hi2
  have HT := hide ht
  have HO := Lib.hid ho
  clear hi2 ht ho H0
  go_wp2_with (refine wpList_store_mid rfl 81 _ _ rfl w1.heap.size 0 tblArr rfl rfl (unhide HT) HI2.out HO.out ?_)
  generalize (w1.alloc (.cells zeroArr 81)).setCells w1.heap.size 0 tblArr.toList = w2 at *
  generalize w1.heap.size = b at *
  clear hz HI2 HT HO hb1
  go_loop [10] (fun n => ∃ k : Nat, k ≤ s.size ∧ n = .int .i64 k ∧ (s.data.toList.take k).all q = true) (fun n => s.size - (intOf n).toNat)
  case atStart => exact ⟨0, Nat.zero_le _, rfl, rfl⟩
  case round =>
    obtain ⟨k, hk, rfl, hall⟩ := hrel
    have HA := Lib.hid hall
    clear hall
    by_cases hlt : k < s.size
    · have hc := s[k].toNat_lt
      have c0 := HS.cell s[k].toNat _ (tbl_get 256 _ (by omega))
      rw [if_pos (by omega)] at c0
      have hN := Lib.hid (all_no (q := q) s k hlt)
      have hT := Lib.hid (all_take (q := q) s k hlt)
      have hq := HQ.out s[k]
      cases hqk : q s[k]
      · rw [hqk] at hq
        simp only [Bool.false_eq_true, if_false] at hq
        go_wp2
        go_ret
        exact ⟨ret_bool (by unfold allS; exact (hN.out hqk).symm), hbel⟩
      · rw [hqk] at hq
        simp only [if_true] at hq
        go_wp2
        go_round
        case rel => exact ⟨k + 1, by omega, by go_num, by rw [hT.out, HA.out, hqk]; rfl⟩
        case measure => simp [intOf]; omega
    · have hke : k = s.size := by omega
      subst hke
      go_wp2
      go_ret
      refine ⟨ret_bool ?_, hbel⟩
      have := HA.out
      rw [List.take_of_length_le (by simp)] at this
      unfold allS
      exact this.symm

theorem token_any (s : ByteArray) (hs : s.size ≤ 9223372036854775807) (w : World) :
    Calls Tryz.prog 25 #[.string s] w fun e w' => e = .returned (.bool (tokenS s.data.toList)) ∧ Below w.heap.size w w' := by
  by_cases he : s.toList = []
  · have he2 : s.data.toList = [] := by rwa [Lib.toList_data] at he
    go_enter Tryz.func25, Tryz.ntmps25
    go_wp2_with fail
    go_ret
    exact ⟨ret_bool (by unfold tokenS; rw [he2]; rfl), Below.refl _ _⟩
  · have he2 : s.data.toList ≠ [] := by rwa [Lib.toList_data] at he
    have he3 : s.toList.isEmpty = false := by cases hh : s.toList <;> simp_all
    have HE := Lib.hid he2
    clear he he2
    go_enter Tryz.func25, Tryz.ntmps25
    go_wp2_with fail
    refine (all_any s hs 1 tch kind_and1 rfl _).mono ?_; rintro e w1 ⟨rfl, hb1⟩
    go_wp2
    go_ret
    exact ⟨ret_bool (by unfold tokenS; cases hl : s.data.toList with
      | nil => exact absurd hl HE.out
      | cons c t => rfl), hb1⟩
end Go.Proofs.YtfkobhagdjaleaaGreatDoor.Sp
