/- Small words of package start: digits, hosts' bytes. -/
import Derived.Test.YtfkobhagdjaleaaGreatDoorB4
namespace Go.Proofs.YtfkobhagdjaleaaGreatDoor.Sp
open Go.RowKit


def digI (c : Int) : Bool := decide (48 ≤ c ∧ c ≤ 57)
def addrI (c : Int) : Bool := decide ((48 ≤ c ∧ c ≤ 57) ∨ (97 ≤ c ∧ c ≤ 102) ∨ (65 ≤ c ∧ c ≤ 70) ∨ c = 58 ∨ c = 46)
def hostSigns : List UInt8 := [45, 46, 95, 126, 33, 36, 38, 39, 40, 41, 42, 43, 44, 59, 61, 37]
def hostX (c : Int) : Int := Lib.indexByte hostSigns c.toNat.toUInt8
def hostI (c : Int) : Bool := decide ((48 ≤ c ∧ c ≤ 57) ∨ (97 ≤ c ∧ c ≤ 122) ∨ (65 ≤ c ∧ c ≤ 90) ∨ 0 ≤ hostX c)
theorem digI_t {c : Int} (h : digI c = true) : 48 ≤ c ∧ c ≤ 57 := of_decide_eq_true h
theorem digI_f {c : Int} (h : digI c = false) : ¬ (48 ≤ c ∧ c ≤ 57) := of_decide_eq_false h

theorem digit_any (c : Int) (w : World) : Calls Tryz.prog 45 #[.int .u8 c] w fun e w' => e = .returned (.bool (digI c)) ∧ w = w' := by
  go_enter Tryz.func45, Tryz.ntmps45
  go_wp2
  all_goals go_ret
  all_goals exact ⟨ret_bool (by (try unfold digI); (try unfold addrI); (try unfold hostI); (first | (with_reducible refine dec_t ?_; omega) | (with_reducible refine dec_f ?_; omega) | (with_reducible refine dec_d ?_; omega) | (with_reducible refine dec_e ?_; omega) | (with_reducible refine dec_n ?_; omega) | (with_reducible refine dec_nd ?_; omega))), rfl⟩

theorem address_any (c : Int) (w : World) : Calls Tryz.prog 56 #[.int .u8 c] w fun e w' => e = .returned (.bool (addrI c)) ∧ w = w' := by
  cases hd : digI c
  all_goals first | (have hD := digI_t hd) | (have hD := digI_f hd)
  all_goals
    go_enter Tryz.func56, Tryz.ntmps56
    go_wp2_with (first | (go_at_call 45; refine (digit_any _ _).mono ?_; rintro e w' ⟨rfl, rfl⟩))
    all_goals go_ret
    all_goals exact ⟨ret_bool (by (try unfold digI); (try unfold addrI); (try unfold hostI); (first | (with_reducible refine dec_t ?_; omega) | (with_reducible refine dec_f ?_; omega) | (with_reducible refine dec_d ?_; omega) | (with_reducible refine dec_e ?_; omega) | (with_reducible refine dec_n ?_; omega) | (with_reducible refine dec_nd ?_; omega))), rfl⟩

theorem hostx_any (c : Int) (w : World) : Calls Tryz.prog 36 #[.string ⟨#[45, 46, 95, 126, 33, 36, 38, 39, 40, 41, 42, 43, 44, 59, 61, 37]⟩, .int .u8 c] w fun e w' => e = .returned (.int .i64 (hostX c)) ∧ w = w' := by
  refine (Tryz.strings_IndexByte _ _ _).mono ?_
  rintro e w' ⟨rfl, rfl⟩
  exact ⟨rfl, rfl⟩

theorem hostByte_any (c : Int) (w : World) : Calls Tryz.prog 55 #[.int .u8 c] w fun e w' => e = .returned (.bool (hostI c)) ∧ w = w' := by
  cases hd : digI c
  all_goals first | (have hD := digI_t hd) | (have hD := digI_f hd)
  all_goals
    go_enter Tryz.func55, Tryz.ntmps55
    go_wp2_with (first | (go_at_call 45; refine (digit_any _ _).mono ?_; rintro e w' ⟨rfl, rfl⟩) | (go_at_call 36; refine (hostx_any _ _).mono ?_; rintro e w' ⟨rfl, rfl⟩))
    all_goals go_ret
    all_goals exact ⟨ret_bool (by (try unfold digI); (try unfold addrI); (try unfold hostI); (first | (with_reducible refine dec_t ?_; omega) | (with_reducible refine dec_f ?_; omega) | (with_reducible refine dec_d ?_; omega) | (with_reducible refine dec_e ?_; omega) | (with_reducible refine dec_n ?_; omega) | (with_reducible refine dec_nd ?_; omega))), rfl⟩

end Go.Proofs.YtfkobhagdjaleaaGreatDoor.Sp
