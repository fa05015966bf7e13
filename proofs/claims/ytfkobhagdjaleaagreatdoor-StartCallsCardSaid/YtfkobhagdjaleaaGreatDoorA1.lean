/- start.run; Lower of the program and of the reference; Same. -/
import Derived.Test.YtfkobhagdjaleaaGreatDoorA0
namespace Go.Proofs.YtfkobhagdjaleaaGreatDoor.Sp
open Go.RowKit

def byteP (p : Int → Bool) (c : UInt8) : Bool := p c.toNat
def runN (p : Int → Bool) (l : List UInt8) : Nat := (l.takeWhile (byteP p)).length

theorem run_yes {p : Int → Bool} {l : List UInt8} {c : UInt8} {t : List UInt8} (h : l = c :: t) (hp : p c.toNat = true) : runN p l = 1 + runN p t := by
  subst h; unfold runN; rw [List.takeWhile_cons_of_pos (by exact hp)]; simp; omega
theorem run_no {p : Int → Bool} {l : List UInt8} {c : UInt8} {t : List UInt8} (h : l = c :: t) (hp : p c.toNat = false) : runN p l = 0 := by
  subst h; unfold runN; rw [List.takeWhile_cons_of_neg (by unfold byteP; rw [hp]; decide)]; rfl
theorem run_end (p : Int → Bool) (s : ByteArray) (k : Nat) (h : s.size ≤ k) : runN p (s.data.toList.drop k) = 0 := by
  rw [List.drop_eq_nil_of_le (by simpa using h)]; rfl

set_option maxHeartbeats 400000 in
theorem run_any (g : Nat) (p : Int → Bool) (hg : ∀ (c : Int) w, Calls Tryz.prog g #[.int .u8 c] w fun e w' => e = .returned (.bool (p c)) ∧ w = w')
    (eg : ∀ args w, (callFunc g args).run Tryz.prog w = .ok (.enter g args) w) (s : ByteArray) (hs : s.size ≤ 9223372036854775807) (w : World) :
    Calls Tryz.prog 54 #[.string s, .func (.func g) #[] #[]] w fun e w' => e = .returned (.int .i64 (runN p s.data.toList)) ∧ w = w' := by
  go_enter Tryz.func54, Tryz.ntmps54
  go_wp2
  go_loop [5] (fun n => ∃ k : Nat, k ≤ s.size ∧ n = .int .i64 k ∧ runN p s.data.toList = k + runN p (s.data.toList.drop k)) (fun n => s.size - (intOf n).toNat)
  case atStart => exact ⟨0, Nat.zero_le _, rfl, by simp⟩
  case round =>
    obtain ⟨k, hk, rfl, hrun⟩ := hrel
    have HR := Lib.hid hrun
    clear hrun
    by_cases hlt : k < s.size
    · have HD := Lib.hid (drop_cons s k hlt)
      cases hp : p s[k].toNat
      · go_wp2_with (go_at_fn g; refine (hg _ _).mono ?_; rintro e w' ⟨rfl, rfl⟩)
        go_ret
        exact ⟨ret_int (by rw [HR.out, run_no HD.out hp]; rfl), rfl⟩
      · go_wp2_with (go_at_fn g; refine (hg _ _).mono ?_; rintro e w' ⟨rfl, rfl⟩)
        go_round
        case rel => exact ⟨k + 1, by omega, by go_num, by rw [HR.out, run_yes HD.out hp]; omega⟩
        case measure => simp [intOf]; omega
    · go_wp2
      go_ret
      exact ⟨ret_int (by rw [HR.out, run_end p s k (by omega)]; rfl), rfl⟩
end Go.Proofs.YtfkobhagdjaleaaGreatDoor.Sp
