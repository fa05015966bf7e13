/- The reference's Char, Chars. -/
import Derived.Test.YtfkobhagdjaleaaGreatDoorB4
namespace Go.Proofs.YtfkobhagdjaleaaGreatDoor.Sp
open Go.RowKit

def charI (c : Int) : Bool := decide (c = 9 ∨ (32 ≤ c ∧ c ≤ 126) ∨ 128 ≤ c)
theorem charI_B (c : UInt8) : charI c.toNat = chr c := by
  have := byte_all (fun c => charI c.toNat == chr c) (by decide +kernel) c
  simpa using this
theorem char_any (c : Int) (w : World) : Calls Tryz.prog 59 #[.int .u8 c] w fun e w' => e = .returned (.bool (charI c)) ∧ w = w' := by
  go_enter Tryz.func59, Tryz.ntmps59
  by_cases h9 : c = 9
  · have hb : (c == 9) = true := by simp [h9]
    have H := Lib.hid h9
    clear h9
    go_wp2
    all_goals go_ret
    all_goals exact ⟨ret_bool (by unfold charI; rw [decide_eq_true (Or.inl H.out)]), rfl⟩
  · have hb : (c == 9) = false := by simp [h9]
    have H := Lib.hid h9
    clear h9
    go_wp2
    all_goals go_ret
    all_goals exact ⟨ret_bool (by unfold charI; have := H.out; (first | (with_reducible refine dec_t ?_; omega) | (with_reducible refine dec_f ?_; omega) | (with_reducible refine dec_d ?_; omega) | (with_reducible refine dec_e ?_; omega) | (with_reducible refine dec_n ?_; omega) | (with_reducible refine dec_nd ?_; omega))), rfl⟩

set_option maxHeartbeats 1000000 in
theorem chars_any (s : ByteArray) (hs : s.size ≤ 9223372036854775807) (w : World) :
    Calls Tryz.prog 33 #[.string s] w fun e w' => e = .returned (.bool (allS chr s.data.toList)) ∧ w = w' := by
  go_enter Tryz.func33, Tryz.ntmps33
  go_wp2_with fail
  go_loop [3] (fun n => ∃ k : Nat, k ≤ s.size ∧ n = .int .i64 k ∧ (s.data.toList.take k).all chr = true) (fun n => s.size - (intOf n).toNat)
  case atStart => exact ⟨0, Nat.zero_le _, rfl, rfl⟩
  case round =>
    obtain ⟨k, hk, rfl, hall⟩ := hrel
    have HA := Lib.hid hall
    clear hall
    by_cases hlt : k < s.size
    · have hN := Lib.hid (all_no (q := chr) s k hlt)
      have hT := Lib.hid (all_take (q := chr) s k hlt)
      have hc := hide (char_any s[k].toNat)
      rw [charI_B] at hc
      cases hq : chr s[k]
      · rw [hq] at hc
        have HQ := Lib.hid hq
        clear hq
        go_wp2_with (go_at_call 59; refine (unhide hc _).mono ?_; rintro e w1 ⟨rfl, rfl⟩)
        go_ret
        exact ⟨ret_bool (by unfold allS; rw [hN.out HQ.out]), rfl⟩
      · rw [hq] at hc
        have HQ := Lib.hid hq
        clear hq
        go_wp2_with (go_at_call 59; refine (unhide hc _).mono ?_; rintro e w1 ⟨rfl, rfl⟩)
        go_round
        case rel => exact ⟨k + 1, by omega, by go_num, by rw [hT.out, HA.out, HQ.out]; rfl⟩
        case measure => simp [intOf]; omega
    · have hke : k = s.size := by omega
      subst hke
      have hall := HA.out
      rw [List.take_of_length_le (by simp)] at hall
      have HF := Lib.hid hall
      clear hall
      go_wp2
      go_ret
      exact ⟨ret_bool (by unfold allS; rw [HF.out]), rfl⟩

end Go.Proofs.YtfkobhagdjaleaaGreatDoor.Sp
