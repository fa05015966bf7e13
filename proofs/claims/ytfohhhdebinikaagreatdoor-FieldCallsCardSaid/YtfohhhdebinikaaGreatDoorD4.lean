/- kit.LightTexts. -/
import Derived.Test.YtfohhhdebinikaaGreatDoorD2
namespace Go.Proofs.YtfohhhdebinikaaGreatDoor.Sp
open Go.RowKit Sl

theorem rget_any (v : Value) (L : List Fld) (name : ByteArray) (hL : Few L) (hn : name.size ≤ 2000) (w : World) (hv : Rd w v L.length 2 (fldV L)) :
    Calls Tryz.prog 29 #[v, .string name] w fun e w' => e = .returned (.tuple #[.string (getB L name), .bool (!(allB L name).isEmpty)]) ∧ Below w.heap.size w w' := by
  obtain ⟨ao, cap, rfl⟩ := hv.form
  have hc := hide (rall_any _ L name hL hn w hv)
  obtain ⟨hs1, hs2⟩ := allB_small hL name
  have hgt : decide (0 < (allB L name).length) = !(allB L name).isEmpty := by cases allB L name <;> simp
  have hget : getB L name = joinB (allB L name) := rfl
  rw [hget]
  obtain ⟨A, hA⟩ : ∃ A, allB L name = A := ⟨_, rfl⟩
  rw [hA] at hc hs1 hs2 hgt ⊢
  obtain ⟨yes, hy⟩ : ∃ yes, (!A.isEmpty) = yes := ⟨_, rfl⟩
  rw [hy] at hgt ⊢
  have HS2 := hide hs2
  have HGT := Lib.hid hgt
  clear hv hs2 hA hget hy hL hgt
  go_enter Tryz.func29, Tryz.ntmps29
  go_wp2_with (first
    | (go_at_call 31; refine (unhide hc).mono ?_; rintro e w1 ⟨v1, rfl, ho1, hb1⟩; obtain ⟨bo, cp, rfl⟩ := (Rd.own ho1).form; have hj := hide (rjoin_any _ A hs1 (unhide HS2) w1 (Rd.own ho1)); have B1 := hide hb1; clear ho1 hb1)
    | (go_at_call 58; refine (unhide hj).mono ?_; rintro e w2 ⟨rfl, rfl⟩))
  go_ret2
  exact ⟨by rw [← HGT.out] <;> rfl, unhide B1⟩


def lensB (A : List ByteArray) : Nat := (A.map ByteArray.size).sum
theorem lensB_take (A : List ByteArray) (k : Nat) (h : k < A.length) : lensB (A.take (k + 1)) = lensB (A.take k) + A[k].size := by
  unfold lensB
  rw [List.take_succ_eq_append_getElem h, List.map_append, List.sum_append]; simp

end Go.Proofs.YtfohhhdebinikaaGreatDoor.Sp
