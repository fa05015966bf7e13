/- The law's digits. -/
import Derived.Test.YtbhpcmbbbomknaaDoorT6
namespace Go.Proofs.YtbhpcmbbbomknaaDoor.Sp
open Go.RowKit

set_option maxRecDepth 100000 in
set_option maxHeartbeats 1000000 in
theorem digits_low (u : Nat) (hlt : u < 10) (w : World) : Calls Tryd.prog 8 #[.int .i64 u] w fun e w' => e = .returned (.string (decB u)) ∧ w = w' := by
  have hs := Lib.hid (dec_small u hlt)
  unfold tenB at hs
  go_enter Tryd.func8, Tryd.ntmps8
  go_wp2_with fail
  go_ret
  exact ⟨congrArg (fun x => Ending.returned (.string x)) hs.out, rfl⟩
set_option maxRecDepth 100000 in
set_option maxHeartbeats 1000000 in
theorem digits_nat (n : Nat) : ∀ (u : Nat), u ≤ n → u ≤ 9223372036854775807 → ∀ w : World, Calls Tryd.prog 8 #[.int .i64 u] w fun e w' => e = .returned (.string (decB u)) ∧ w = w' := by
  induction n with
  | zero =>
    intro u hu hm w
    exact digits_low u (by omega) w
  | succ n ih =>
    intro u hu hm w
    rcases Nat.lt_or_ge u 10 with hlt | hge
    · exact digits_low u hlt w
    · have i1 := hide (ih (u / 10) (by omega) (by omega))
      have i2 := hide (ih (u % 10) (by omega) (by omega))
      have hm := Lib.hid (dec_more u hge)
      have z1 := decB_20 (u / 10) (by omega)
      have z2 := decB_20 (u % 10) (by omega)
      obtain ⟨a, ha⟩ : ∃ a, u / 10 = a := ⟨_, rfl⟩
      obtain ⟨b, hb⟩ : ∃ b, u % 10 = b := ⟨_, rfl⟩
      rw [ha] at i1 hm z1
      rw [hb] at i2 hm z2
      have hd : Int.tdiv (u : Int) 10 = (a : Int) := by rw [Int.tdiv_eq_ediv_of_nonneg (by omega)]; omega
      have hr : Int.tmod (u : Int) 10 = (b : Int) := by rw [Int.tmod_eq_emod_of_nonneg (by omega)]; omega
      have hd2 : (u : Int) / 10 = (a : Int) := by omega
      have hr2 : (u : Int) % 10 = (b : Int) := by omega
      clear ha hb
      go_enter Tryd.func8, Tryd.ntmps8
      go_wp2_with (first | (have h7 := firstDone; go_at_call 8; refine (unhide i2 _).mono ?_; rintro e w1 ⟨rfl, rfl⟩) | (go_at_call 8; refine (unhide i1 _).mono ?_; rintro e w1 ⟨rfl, rfl⟩; have firstDone := True.intro))
      go_ret
      exact ⟨by rw [hm.out] <;> rfl, rfl⟩

end Go.Proofs.YtbhpcmbbbomknaaDoor.Sp
