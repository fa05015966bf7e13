/- kit: Same of texts, Pick, Times. -/
import Derived.Test.YtbhpcmbbbomknaaGreatDoorS0
namespace Go.Proofs.YtbhpcmbbbomknaaGreatDoor.Sp
open Go.RowKit Sl

def sameLS (A B : List ByteArray) : Bool := decide (A = B)
theorem take_ne {α : Type} {A B : List α} {k : Nat} (hA : k < A.length) (hB : k < B.length) (h : A[k] ≠ B[k]) : A ≠ B := by
  intro e; subst e; exact h rfl

set_option maxRecDepth 100000 in
set_option maxHeartbeats 2000000 in
theorem ksameS_any (u v : Value) (A B : List ByteArray) (hA : A.length ≤ 100000000) (hB : B.length ≤ 100000000) (w : World) (hu : Rd w u A.length 1 (strV A)) (hv : Rd w v B.length 1 (strV B)) :
    Calls Tryz.prog 11 #[u, v] w fun e w' => e = .returned (.bool (sameLS A B)) ∧ Below w.heap.size w w' := by
  obtain ⟨ao, cap, rfl⟩ := hu.form
  obtain ⟨bo, caq, rfl⟩ := hv.form
  have HU := hide hu
  have HV := hide hv
  clear hu hv
  by_cases hl : A.length = B.length
  · have HL := Lib.hid hl
    clear hl
    have hlen : (((A.length : Nat) : Int) != ((B.length : Nat) : Int)) = false := by rw [HL.out]; simp
    go_enter Tryz.func11, Tryz.ntmps11
    go_wp2_with fail
    go_loopw [5] (fun i wr => ∃ k : Nat, i = .int .i64 k ∧ k ≤ A.length ∧ A.take k = B.take k ∧ Below w.heap.size w wr) (fun i _ => A.length - (intOf i).toNat)
    case atStart => exact ⟨0, rfl, Nat.zero_le _, by simp, Below.refl _ _⟩
    case round =>
      obtain ⟨k, rfl, hk, hall, hbel⟩ := hrel
      have HA := Lib.hid hall
      have HB := hide hbel
      clear hall
      rcases Nat.lt_or_ge k A.length with hlt | hge
      · have hlt2 : k < B.length := by rw [← HL.out]; exact hlt
        obtain ⟨b, off, rfl, hb, c1⟩ := str_cell (unhide HU) k hlt
        obtain ⟨b2, off2, rfl, hb2, c2⟩ := str_cell (unhide HV) k hlt2
        have d1 := (hbel.cell (p := ⟨b, off + k, none⟩) hb).trans c1
        have d2 := (hbel.cell (p := ⟨b2, off2 + k, none⟩) hb2).trans c2
        have hbw : b < wr.heap.size := Nat.lt_of_lt_of_le hb hbel.size
        have hbw2 : b2 < wr.heap.size := Nat.lt_of_lt_of_le hb2 hbel.size
        clear c1 c2 hbel
        obtain ⟨x, hx⟩ : ∃ x, A[k] = x := ⟨_, rfl⟩
        obtain ⟨y, hy⟩ : ∃ y, B[k] = y := ⟨_, rfl⟩
        rw [hx] at d1
        rw [hy] at d2
        have HX := Lib.hid hx
        have HY := Lib.hid hy
        clear hx hy
        go_wp2_with fail
        refine Reg.region_more (by kernel_rfl) (by kernel_rfl) ?_
        repeat (go_big_quiet_step (fail))
        refine wpQuiet_nil ?_
        intro w9 hb9; obtain ⟨hc9, hf9, hz9⟩ := bcell hb9; (try simp at hz9)
        have HB9 := hide ((unhide HB).trans (hb9.mono (unhide HB).size))
        clear hb9 hc9 hf9
        cases hxy : (x.toList == y.toList)
        · have hT : sameLS A B = false := by
            unfold sameLS
            rw [decide_eq_false_iff_not]
            refine take_ne hlt hlt2 ?_
            rw [HX.out, HY.out]
            intro e
            subst e
            simp at hxy
          have HT := Lib.hid hT
          clear hT
          go_wp2_with fail
          go_ret
          exact ⟨by rw [HT.out] <;> rfl, unhide HB9⟩
        · have hT : A.take (k + 1) = B.take (k + 1) := by
            have e : x = y := by
              have := eq_of_beq hxy
              rw [Lib.toList_data, Lib.toList_data] at this
              rw [← ofL_of x, ← ofL_of y, this]
            rw [List.take_succ_eq_append_getElem hlt, List.take_succ_eq_append_getElem hlt2, HA.out, HX.out, HY.out, e]
          have HT := Lib.hid hT
          clear hT
          go_wp2_with fail
          go_roundw
          case rel => exact ⟨k + 1, by go_num, by omega, HT.out, unhide HB9⟩
          case measure => simp [intOf]; omega
      · have hT : sameLS A B = true := by
          unfold sameLS
          have := HA.out
          rw [List.take_of_length_le hge, List.take_of_length_le (by rw [← HL.out]; exact hge)] at this
          simp [this]
        have HT := Lib.hid hT
        clear hT hbel
        go_wp2_with fail
        go_ret
        exact ⟨by rw [HT.out] <;> rfl, unhide HB⟩
  · have hT : sameLS A B = false := by unfold sameLS; rw [decide_eq_false_iff_not]; intro e; exact hl (by rw [e])
    have HT := Lib.hid hT
    clear hT
    have hlen : (((A.length : Nat) : Int) != ((B.length : Nat) : Int)) = true := by rw [bne_iff_ne]; omega
    go_enter Tryz.func11, Tryz.ntmps11
    go_wp2_with fail
    go_ret
    exact ⟨by rw [HT.out] <;> rfl, Below.refl _ _⟩

end Go.Proofs.YtbhpcmbbbomknaaGreatDoor.Sp
