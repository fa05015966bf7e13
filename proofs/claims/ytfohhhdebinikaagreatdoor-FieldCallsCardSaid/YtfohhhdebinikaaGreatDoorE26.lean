/- The reference's Same of fields. -/
import Derived.Test.YtfohhhdebinikaaGreatDoorC12
namespace Go.Proofs.YtfohhhdebinikaaGreatDoor.Sp
open Go.RowKit Sl

def samePF (p : Fld × Fld) : Bool := same p.1.1.data.toList p.2.1.data.toList && p.1.2.toList == p.2.2.toList
/-- the fields are the same, names small or not -/
def sameFs (A B : List Fld) : Bool := decide (A.length = B.length) && (A.zip B).all samePF
theorem zip_step {A B : List Fld} (hl : A.length = B.length) {k : Nat} (h : k < A.length) (h2 : k < B.length) : ((A.zip B).take (k + 1)).all samePF = (((A.zip B).take k).all samePF && samePF (A[k], B[k])) := by
  have hz : k < (A.zip B).length := by rw [List.length_zip]; omega
  rw [List.take_succ_eq_append_getElem hz, List.all_append, List.getElem_zip]
  simp
theorem zip_all {A B : List Fld} (hl : A.length = B.length) : ((A.zip B).take A.length).all samePF = sameFs A B := by
  have hz : (A.zip B).length ≤ A.length := by rw [List.length_zip]; omega
  unfold sameFs
  rw [List.take_of_length_le hz, decide_eq_true hl, Bool.true_and]
theorem zip_no {A B : List Fld} {k : Nat} (h : k < A.length) (h2 : k < B.length) (hn : samePF (A[k], B[k]) = false) : sameFs A B = false := by
  have hz : k < (A.zip B).length := by rw [List.length_zip]; omega
  unfold sameFs
  rw [Bool.and_eq_false_iff]
  refine .inr ?_
  rw [List.all_eq_false]
  refine ⟨(A.zip B)[k], List.getElem_mem hz, ?_⟩
  rw [List.getElem_zip, hn]
  decide

set_option maxRecDepth 100000 in
set_option maxHeartbeats 2000000 in
theorem rsameF_any (u v : Value) (A B : List Fld) (hA : A.length ≤ 100000000) (hB : B.length ≤ 100000000) (hsA : ∀ f ∈ A, f.1.size ≤ 100000) (hsB : ∀ f ∈ B, f.1.size ≤ 100000) (w : World) (hu : Rd w u A.length 2 (fldV A)) (hv : Rd w v B.length 2 (fldV B)) :
    Calls Tryz.prog 36 #[u, v] w fun e w' => e = .returned (.bool (sameFs A B)) ∧ Below w.heap.size w w' := by
  obtain ⟨ao, cap, rfl⟩ := hu.form
  obtain ⟨bo, caq, rfl⟩ := hv.form
  have HU := hide hu
  have HV := hide hv
  have HSA := hide hsA
  have HSB := hide hsB
  clear hu hv hsA hsB
  by_cases hl : A.length = B.length
  · have HL := Lib.hid hl
    clear hl
    have hlen : (((A.length : Nat) : Int) != ((B.length : Nat) : Int)) = false := by rw [HL.out]; simp
    go_enter Tryz.func36, Tryz.ntmps36
    go_wp2_with fail
    go_loopw [5] (fun i wr => ∃ k : Nat, i = .int .i64 k ∧ k ≤ A.length ∧ ((A.zip B).take k).all samePF = true ∧ Below w.heap.size w wr) (fun i _ => A.length - (intOf i).toNat)
    case atStart => exact ⟨0, rfl, Nat.zero_le _, by simp, Below.refl _ _⟩
    case round =>
      obtain ⟨k, rfl, hk, hall, hbel⟩ := hrel
      have HA := Lib.hid hall
      have HB := hide hbel
      clear hall
      rcases Nat.lt_or_ge k A.length with hlt | hge
      · have hlt2 : k < B.length := by rw [← HL.out]; exact hlt
        obtain ⟨b, off, rfl, hb, d1, d3⟩ := fld_cells ((unhide HU).below hbel) rfl k hlt
        obtain ⟨b2, off2, rfl, hb2, d2, d4⟩ := fld_cells ((unhide HV).below hbel) rfl k hlt2
        have hzA := (unhide HSA) A[k] (List.getElem_mem _)
        have hzB := (unhide HSB) B[k] (List.getElem_mem _)
        have hst := zip_step HL.out hlt hlt2
        have hno := fun h => zip_no (A := A) (B := B) hlt hlt2 h
        obtain ⟨⟨x, x'⟩, hx⟩ : ∃ x, A[k] = x := ⟨_, rfl⟩
        obtain ⟨⟨y, y'⟩, hy⟩ : ∃ y, B[k] = y := ⟨_, rfl⟩
        rw [hx] at d1 d3 hzA hst hno
        rw [hy] at d2 d4 hzB hst hno
        rw [HA.out, Bool.true_and] at hst
        have hp : samePF ((x, x'), (y, y')) = (same x.data.toList y.data.toList && (x'.toList == y'.toList)) := rfl
        rw [hp] at hst hno
        have hc := fun w => rsame_any x y (show x.size ≤ 9223372036854775807 by have h9 : x.size ≤ 100000 := hzA; omega) (show y.size ≤ 9223372036854775807 by have h9 : y.size ≤ 100000 := hzB; omega) w
        obtain ⟨sm, hsm⟩ : ∃ sm, same x.data.toList y.data.toList = sm := ⟨_, rfl⟩
        rw [hsm] at hc hst hno
        have HC := hide hc
        have HST := Lib.hid hst
        have HNO := hide hno
        clear hbel hx hy hsm hc hst hno hp hzA hzB
        cases sm
        · have hF := (unhide HNO) rfl
          have HF := Lib.hid hF
          clear hF
          go_wp2_with fail
          refine Reg.region_more (by kernel_rfl) (by kernel_rfl) ?_
          repeat (go_big_quiet_step ((go_at_call 25; exact Reg.Calls.more (unhide HC _))))
          refine wpQuiet_nil ?_
          intro w9 hb9; obtain ⟨hc9, hf9, hz9⟩ := bcell hb9; (try simp at hz9)
          have HB9 := hide ((unhide HB).trans (hb9.mono (unhide HB).size))
          clear hb9 hc9 hf9
          go_wp2_with fail
          go_ret
          exact ⟨by rw [HF.out] <;> rfl, unhide HB9⟩
        · go_wp2_with fail
          refine Reg.region_more (by kernel_rfl) (by kernel_rfl) ?_
          repeat (go_big_quiet_step ((go_at_call 25; exact Reg.Calls.more (unhide HC _))))
          refine wpQuiet_nil ?_
          intro w9 hb9; obtain ⟨hc9, hf9, hz9⟩ := bcell hb9; (try simp at hz9)
          have HB9 := hide ((unhide HB).trans (hb9.mono (unhide HB).size))
          clear hb9 hc9 hf9
          cases hxy : (x'.toList == y'.toList)
          · have hF := (unhide HNO) (by rw [hxy]; rfl)
            have HF := Lib.hid hF
            clear hF
            go_wp2_with fail
            go_ret
            exact ⟨by rw [HF.out] <;> rfl, unhide HB9⟩
          · have hT := HST.out
            rw [hxy] at hT
            have HT := Lib.hid hT
            clear hT
            go_wp2_with fail
            go_roundw
            case rel => exact ⟨k + 1, by go_num, by omega, HT.out, unhide HB9⟩
            case measure => simp [intOf]; omega
      · have hT : sameFs A B = true := by
          have h1 := HA.out
          have h2 := zip_all HL.out
          rw [List.take_of_length_le (by rw [List.length_zip]; omega)] at h1 h2
          rw [← h2, h1]
        have HT := Lib.hid hT
        clear hT hbel
        go_wp2_with fail
        go_ret
        exact ⟨by rw [HT.out] <;> rfl, unhide HB⟩
  · have hT : sameFs A B = false := by unfold sameFs; rw [decide_eq_false hl]; rfl
    have HT := Lib.hid hT
    clear hT
    have hlen : (((A.length : Nat) : Int) != ((B.length : Nat) : Int)) = true := by rw [bne_iff_ne]; omega
    go_enter Tryz.func36, Tryz.ntmps36
    go_wp2_with fail
    go_ret
    exact ⟨by rw [HT.out] <;> rfl, Below.refl _ _⟩
end Go.Proofs.YtfohhhdebinikaaGreatDoor.Sp
