/- kit.LightTexts. -/
import Derived.Test.YtbhpcmbbbomknaaGreatDoorS0
namespace Go.Proofs.YtbhpcmbbbomknaaGreatDoor.Sp
open Go.RowKit Sl

def lensB (A : List ByteArray) : Nat := (A.map ByteArray.size).sum
theorem lensB_take (A : List ByteArray) (k : Nat) (h : k < A.length) : lensB (A.take (k + 1)) = lensB (A.take k) + A[k].size := by
  unfold lensB
  rw [List.take_succ_eq_append_getElem h, List.map_append, List.sum_append]; simp

def LightTOut (w : World) (A : List ByteArray) (most bytes : Nat) (e : Ending) (w' : World) : Prop := ∃ r, e = .returned (.bool r) ∧ (r = true → A.length ≤ most ∧ lensB A ≤ bytes) ∧ w = w'

set_option maxRecDepth 100000 in
set_option maxHeartbeats 2000000 in
theorem lightT_any (v : Value) (A : List ByteArray) (most bytes : Nat) (hL : A.length ≤ 9223372036854775807) (hb1 : most ≤ 1000) (hb2 : bytes ≤ 1000) (hf : ∀ x ∈ A, x.size ≤ 1000000000000000) (w : World) (hv : Rd w v A.length 1 (strV A)) :
    Calls Tryz.prog 10 #[v, .int .i64 most, .int .i64 bytes] w (LightTOut w A most bytes) := by
  obtain ⟨ao, cap, rfl⟩ := hv.form
  have HV := hide hv
  have HF := hide hf
  clear hv hf
  rcases Nat.lt_or_ge most A.length with hm | hm
  · go_enter Tryz.func10, Tryz.ntmps10
    go_wp2_with fail
    go_ret
    exact ⟨_, rfl, (by simp), rfl⟩
  · go_enter Tryz.func10, Tryz.ntmps10
    go_wp2_with fail
    go_loop [7, 8] (fun n i => ∃ k : Nat, i = .int .i64 k ∧ n = .int .i64 (lensB (A.take k) : Nat) ∧ k ≤ A.length ∧ lensB (A.take k) ≤ bytes) (fun _ i => A.length - (intOf i).toNat)
    case atStart => exact ⟨0, rfl, rfl, Nat.zero_le _, Nat.zero_le _⟩
    case round =>
      obtain ⟨k, rfl, rfl, hk, hs⟩ := hrel
      rcases Nat.lt_or_ge k A.length with hlt | hge
      · obtain ⟨b, off, rfl, hb, c1⟩ := str_cell (unhide HV) k hlt
        have z1 := (unhide HF) A[k] (List.getElem_mem _)
        have HT := Lib.hid (lensB_take A k hlt)
        obtain ⟨s, hs0⟩ : ∃ s, lensB (A.take k) = s := ⟨_, rfl⟩
        rw [hs0] at hs ⊢
        have HS0 := Lib.hid hs0
        clear hs0
        rcases Nat.lt_or_ge bytes (s + A[k].size) with hq | hq
        · go_wp2_with fail
          go_ret
          exact ⟨_, rfl, (by simp), rfl⟩
        · go_wp2_with fail
          go_round
          case rel =>
            refine ⟨k + 1, by go_num, ?_, by omega, by rw [HT.out, HS0.out]; exact hq⟩
            rw [HT.out, HS0.out]; go_num
          case measure => simp [intOf]; omega
      · have hT : A.take k = A := List.take_of_length_le hge
        rw [hT] at hs
        have HS := hide hs
        clear hT hs
        go_wp2_with fail
        go_ret
        exact ⟨_, rfl, fun _ => ⟨hm, unhide HS⟩, rfl⟩
end Go.Proofs.YtbhpcmbbbomknaaGreatDoor.Sp
