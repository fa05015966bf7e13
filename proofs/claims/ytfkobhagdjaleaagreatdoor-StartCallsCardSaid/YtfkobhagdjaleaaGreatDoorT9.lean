/- Plain: what TokenNumbers says of a number's digits. -/
import Derived.Test.YtfkobhagdjaleaaGreatDoorT1
import Derived.Test.YtfkobhagdjaleaaGreatDoorT6
import Derived.Test.YtfkobhagdjaleaaGreatDoorT8
namespace Go.Proofs.YtfkobhagdjaleaaGreatDoor.Sp
open Go.RowKit

theorem decD_small (u : Nat) (h : u < 10) : Lib.decDigits u = [UInt8.ofNat (48 + u)] := by rw [Lib.decDigits, dif_pos h]
theorem decD_more (u : Nat) (h : 10 ≤ u) : Lib.decDigits u = Lib.decDigits (u / 10) ++ [UInt8.ofNat (48 + u % 10)] := by
  conv => lhs; rw [Lib.decDigits, dif_neg (by omega)]
theorem u8_48 (d : Nat) (h : d < 10) : (UInt8.ofNat (48 + d)).toNat = 48 + d := by
  simp [Nat.mod_eq_of_lt (show 48 + d < 256 by omega)]
theorem dig_48 (d : Nat) (h : d < 10) : digB (UInt8.ofNat (48 + d)) = true := by
  refine digB_of ?_
  rw [u8_48 d h]
  omega
theorem dec_law : ∀ (n u : Nat), u ≤ n → (Lib.decDigits u).all digB = true ∧ valN (Lib.decDigits u) = u ∧ Lib.decDigits u ≠ [] := by
  intro n
  induction n with
  | zero =>
    intro u hu
    obtain rfl : u = 0 := by omega
    decide +kernel
  | succ n ih =>
    intro u hu
    rcases Nat.lt_or_ge u 10 with h | h
    · rw [decD_small u h]
      refine ⟨by rw [List.all_cons, dig_48 u h]; rfl, ?_, by simp⟩
      unfold valN
      rw [valF_cons, u8_48 u h, valF_nil]
      omega
    · obtain ⟨h1, h2, h3⟩ := ih (u / 10) (by omega)
      rw [decD_more u h]
      refine ⟨by rw [List.all_append, h1, List.all_cons, dig_48 _ (by omega)]; rfl, ?_, by simp⟩
      unfold valN at h2 ⊢
      rw [valF_app, h2, valF_cons, u8_48 _ (by omega)]
      rw [valF_nil]
      omega
theorem val_noughts : ∀ z : Nat, valF 0 (List.replicate z 48) = 0
  | 0 => by unfold valF; rfl
  | z + 1 => by
    rw [List.replicate_succ, valF_cons]
    exact val_noughts z
theorem all_noughts (z : Nat) : (List.replicate z (48 : UInt8)).all digB = true := by
  rw [List.all_eq_true]
  intro c hc
  rw [(List.mem_replicate.1 hc).2]
  decide
theorem num_digs (z n : Nat) : digsS (List.replicate z 48 ++ Lib.decDigits n) = true ∧ valN (List.replicate z 48 ++ Lib.decDigits n) = n := by
  obtain ⟨h1, h2, h3⟩ := dec_law n n (Nat.le_refl _)
  refine ⟨?_, ?_⟩
  · unfold digsS
    rw [List.all_append, all_noughts, h1]
    cases hd : Lib.decDigits n with
    | nil => exact absurd hd h3
    | cons c t => simp
  · unfold valN at h2 ⊢
    rw [valF_app, val_noughts, h2]
theorem num_law (z n : Nat) : numS (List.replicate z 48 ++ Lib.decDigits n) = if n ≤ 9007199254740991 then ((n : Int), 0) else (0, 3) := by
  obtain ⟨h1, h2⟩ := num_digs z n
  unfold numS
  rw [if_pos h1, h2]
theorem num_mid (x y : List UInt8) (c : UInt8) (h : digB c = false) : numS (x ++ [c] ++ y) = (0, 4) := by
  refine numS_bad ?_
  unfold digsS
  rw [List.all_append, List.all_append, List.all_cons, h]
  simp
end Go.Proofs.YtfkobhagdjaleaaGreatDoor.Sp
