/- The reference's Letter, Digit, in, Tchar, Token. -/
import Derived.Test.YtfkobhagdjaleaaGreatDoorB4
import Derived.Test.YtfkobhagdjaleaaGreatDoorC1
import Derived.Test.YtfkobhagdjaleaaGreatDoorSl
namespace Go.Proofs.YtfkobhagdjaleaaGreatDoor.Sp
open Go.RowKit Sl

def letterI (c : Int) : Bool := decide ((97 ≤ c ∧ c ≤ 122) ∨ (65 ≤ c ∧ c ≤ 90))
def digitI (c : Int) : Bool := decide (48 ≤ c ∧ c ≤ 57)
def inS (c : Int) (l : List UInt8) : Bool := l.any fun x => decide ((x.toNat : Int) = c)
def markB : ByteArray := ⟨#[33, 35, 36, 37, 38, 39, 42, 43, 45, 46, 94, 95, 96, 124, 126]⟩
def rtchI (c : Int) : Bool := letterI c || digitI c || inS c markB.data.toList

theorem letter_any (c : Int) (w : World) : Calls Tryz.prog 82 #[.int .u8 c] w fun e w' => e = .returned (.bool (letterI c)) ∧ w = w' := by
  go_enter Tryz.func82, Tryz.ntmps82
  go_wp2
  all_goals go_ret
  all_goals exact ⟨ret_bool (by unfold letterI; (first | (with_reducible refine dec_t ?_; omega) | (with_reducible refine dec_f ?_; omega) | (with_reducible refine dec_d ?_; omega) | (with_reducible refine dec_e ?_; omega) | (with_reducible refine dec_n ?_; omega) | (with_reducible refine dec_nd ?_; omega))), rfl⟩
theorem r1digit_any (c : Int) (w : World) : Calls Tryz.prog 58 #[.int .u8 c] w fun e w' => e = .returned (.bool (digitI c)) ∧ w = w' := by
  go_enter Tryz.func58, Tryz.ntmps58
  go_wp2
  all_goals go_ret
  all_goals exact ⟨ret_bool (by unfold digitI; (first | (with_reducible refine dec_t ?_; omega) | (with_reducible refine dec_f ?_; omega) | (with_reducible refine dec_d ?_; omega) | (with_reducible refine dec_e ?_; omega) | (with_reducible refine dec_n ?_; omega) | (with_reducible refine dec_nd ?_; omega))), rfl⟩

theorem inS_take (c : Int) (s : ByteArray) (k : Nat) (h : k < s.size) : inS c (s.data.toList.take (k + 1)) = (inS c (s.data.toList.take k) || decide ((s[k].toNat : Int) = c)) := by
  unfold inS
  rw [List.take_succ_eq_append_getElem (by simpa using h), List.any_append]
  simp only [List.any_cons, List.any_nil, Bool.or_false]
  rfl
theorem inS_yes (c : Int) (s : ByteArray) (k : Nat) (h : k < s.size) (hc : (s[k].toNat : Int) = c) : inS c s.data.toList = true := by
  unfold inS
  rw [List.any_eq_true]
  exact ⟨s[k], by rw [show s[k] = s.data.toList[k]'(by simpa using h) from rfl]; exact List.getElem_mem _, by simp [hc]⟩

set_option maxHeartbeats 1000000 in
theorem in_any (c : Int) (s : ByteArray) (hs : s.size ≤ 9223372036854775807) (w : World) : Calls Tryz.prog 83 #[.int .u8 c, .string s] w fun e w' => e = .returned (.bool (inS c s.data.toList)) ∧ w = w' := by
  go_enter Tryz.func83, Tryz.ntmps83
  go_wp2_with fail
  go_loop [5] (fun n => ∃ k : Nat, k ≤ s.size ∧ n = .int .i64 k ∧ inS c (s.data.toList.take k) = false) (fun n => s.size - (intOf n).toNat)
  case atStart => exact ⟨0, Nat.zero_le _, rfl, rfl⟩
  case round =>
    obtain ⟨k, hk, rfl, hall⟩ := hrel
    have HA := Lib.hid hall
    clear hall
    by_cases hlt : k < s.size
    · have HY := hide (inS_yes c s k hlt)
      have HT := hide (inS_take c s k hlt)
      by_cases hc : (s[k].toNat : Int) = c
      · have hb : ((s[k].toNat : Int) == c) = true := by simp [hc]
        have HC := Lib.hid hc
        clear hc
        go_wp2
        go_ret
        exact ⟨ret_bool (by rw [unhide HY HC.out]), rfl⟩
      · have hb : ((s[k].toNat : Int) == c) = false := by simp [hc]
        have HC := Lib.hid hc
        clear hc
        go_wp2
        go_round
        case rel => exact ⟨k + 1, by omega, by go_num, by rw [unhide HT, HA.out, decide_eq_false HC.out]; rfl⟩
        case measure => simp [intOf]; omega
    · have hke : k = s.size := by omega
      subst hke
      go_wp2
      go_ret
      refine ⟨ret_bool ?_, rfl⟩
      have := HA.out
      rw [List.take_of_length_le (by simp)] at this
      exact this.symm

set_option maxHeartbeats 1000000 in
theorem rtchar_any (c : Int) (w : World) : Calls Tryz.prog 57 #[.int .u8 c] w fun e w' => e = .returned (.bool (rtchI c)) ∧ w = w' := by
  unfold rtchI
  obtain ⟨a, ha⟩ : ∃ a, letterI c = a := ⟨_, rfl⟩
  obtain ⟨b, hb⟩ : ∃ b, digitI c = b := ⟨_, rfl⟩
  obtain ⟨d, hd⟩ : ∃ d, inS c markB.data.toList = d := ⟨_, rfl⟩
  have h1 := hide (letter_any c)
  have h2 := hide (r1digit_any c)
  have h3 := hide (in_any c markB (by decide))
  rw [ha] at h1 ⊢
  rw [hb] at h2 ⊢
  rw [hd] at h3 ⊢
  clear ha hb hd
  unfold markB at h3
  cases a <;> cases b
  all_goals
    go_enter Tryz.func57, Tryz.ntmps57
    go_wp2_with (first
      | (go_at_call 82; refine (unhide h1 _).mono ?_; rintro e w1 ⟨rfl, rfl⟩)
      | (go_at_call 58; refine (unhide h2 _).mono ?_; rintro e w1 ⟨rfl, rfl⟩)
      | (go_at_call 83; refine (unhide h3 _).mono ?_; rintro e w1 ⟨rfl, rfl⟩))
    go_ret
    exact ⟨rfl, rfl⟩
theorem rtchI_B (c : UInt8) : rtchI c.toNat = tch c := by
  have := byte_all (fun c => rtchI c.toNat == tch c) (by decide +kernel) c
  simpa using this

set_option maxHeartbeats 1000000 in
theorem rtoken_any (s : ByteArray) (hs : s.size ≤ 9223372036854775807) (w : World) :
    Calls Tryz.prog 30 #[.string s] w fun e w' => e = .returned (.bool (tokenS s.data.toList)) ∧ w = w' := by
  go_enter Tryz.func30, Tryz.ntmps30
  go_wp2_with fail
  go_loop [3] (fun n => ∃ k : Nat, k ≤ s.size ∧ n = .int .i64 k ∧ (s.data.toList.take k).all tch = true) (fun n => s.size - (intOf n).toNat)
  case atStart => exact ⟨0, Nat.zero_le _, rfl, rfl⟩
  case round =>
    obtain ⟨k, hk, rfl, hall⟩ := hrel
    have HA := Lib.hid hall
    clear hall
    by_cases hlt : k < s.size
    · have hN := Lib.hid (all_no (q := tch) s k hlt)
      have hT := Lib.hid (all_take (q := tch) s k hlt)
      have hc := hide (rtchar_any s[k].toNat)
      rw [rtchI_B] at hc
      have hne : s.data.toList ≠ [] := by
        intro e
        have h8 : s.data.toList.length = 0 := by rw [e]; rfl
        have h9 : s.data.toList.length = s.size := by simp
        omega
      have HNE := Lib.hid hne
      clear hne
      cases hq : tch s[k]
      · rw [hq] at hc
        have HQ := Lib.hid hq
        clear hq
        go_wp2_with (go_at_call 57; refine (unhide hc _).mono ?_; rintro e w1 ⟨rfl, rfl⟩)
        go_ret
        exact ⟨ret_bool (by unfold tokenS allS; rw [hN.out HQ.out, Bool.and_false]), rfl⟩
      · rw [hq] at hc
        have HQ := Lib.hid hq
        clear hq
        go_wp2_with (go_at_call 57; refine (unhide hc _).mono ?_; rintro e w1 ⟨rfl, rfl⟩)
        go_round
        case rel => exact ⟨k + 1, by omega, by go_num, by rw [hT.out, HA.out, HQ.out]; rfl⟩
        case measure => simp [intOf]; omega
    · have hke : k = s.size := by omega
      subst hke
      have hall := HA.out
      rw [List.take_of_length_le (by simp)] at hall
      have hfin : tokenS s.data.toList = !(s.toList.isEmpty) := by
        unfold tokenS allS
        rw [hall, Bool.and_true, Lib.toList_data]
      have HF := Lib.hid hfin
      clear hall hfin HA
      rcases ne_case s with ⟨e1, e2⟩ | ⟨e1, e2⟩
      all_goals
        go_wp2_with fail
        go_ret
        refine ⟨ret_bool ?_, rfl⟩
        rw [HF.out]
        first | (rw [e1]; rfl) | simp [e1] | (rw [e1])
end Go.Proofs.YtfkobhagdjaleaaGreatDoor.Sp
