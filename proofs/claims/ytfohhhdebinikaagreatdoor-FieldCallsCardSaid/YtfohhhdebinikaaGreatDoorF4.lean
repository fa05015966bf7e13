/- field.Same. -/
import Derived.Test.YtfohhhdebinikaaGreatDoorF2
import Derived.Test.YtfohhhdebinikaaGreatDoorF3
namespace Go.Proofs.YtfohhhdebinikaaGreatDoor.Sp
open Go.RowKit Sl

set_option maxRecDepth 100000 in
theorem same1_any (x x' y y' : ByteArray) (w : World) (hx : x.size ≤ 100000) (hy : y.size ≤ 100000) :
    Calls Tryz.prog 46 #[.agg #[.string x, .string x'], .agg #[.string y, .string y']] w fun e w' => e = .returned (.bool (samePF ((x, x'), (y, y')))) ∧ Below w.heap.size w w' := by
  have hc := fun w => same_any x y (by omega) (by omega) w
  have hp : samePF ((x, x'), (y, y')) = (same x.data.toList y.data.toList && (x'.toList == y'.toList)) := rfl
  rw [hp]
  obtain ⟨sm, hsm⟩ : ∃ sm, same x.data.toList y.data.toList = sm := ⟨_, rfl⟩
  rw [hsm] at hc ⊢
  have HC := hide hc
  clear hc hp hsm
  go_enter Tryz.func46, Tryz.ntmps46
  go_upto_region 1 with fail
  have HX := (Reg.Has.new w [.string x, .string x'] 30).alloc (.cells #[.string y, .string y'] 30)
  have HY := Reg.Has.at (w.alloc (.cells #[.string x, .string x'] 30)) (w.heap.size + 1) [.string y, .string y'] 30 (by simp)
  have HB := hide (((Below.refl w.heap.size w).alloc (Nat.le_refl _) (.cells #[.string x, .string x'] 30)).alloc (by simp) (.cells #[.string y, .string y'] 30))
  generalize (w.alloc (.cells #[.string x, .string x'] 30)).alloc (.cells #[.string y, .string y'] 30) = w1 at HX HY HB ⊢
  have p1 := HX.cell 0 _ rfl; have q1 := HX.cell 1 _ rfl; have u1 := HX.free 0 (by simp); have v1 := HX.free 1 (by simp); have z1 := HX.lt
  have p2 := HY.cell 0 _ rfl; have q2 := HY.cell 1 _ rfl; have u2 := HY.free 0 (by simp); have v2 := HY.free 1 (by simp); have z2 := HY.lt
  have HX := hide HX
  have HY := hide HY
  cases sm
  · go_wp2_with (go_at_call 47; refine (unhide HC _).mono ?_; rintro e w2 ⟨rfl, hb2⟩; have HB := hide ((unhide HB).trans (hb2.mono (unhide HB).size)); clear hb2)
    go_ret
    exact ⟨rfl, unhide HB⟩
  · go_wp2_with (go_at_call 47; refine (unhide HC _).mono ?_; rintro e w2 ⟨rfl, hb2⟩; have HB := hide ((unhide HB).trans (hb2.mono (unhide HB).size)); have hx9 := (unhide HX).call hb2; have hy9 := (unhide HY).call hb2; have s1 := hx9.cell 1 _ rfl; have s2 := hy9.cell 1 _ rfl; have s3 := hx9.lt; have s4 := hy9.lt; clear hb2 hx9 hy9)
    go_ret
    exact ⟨rfl, unhide HB⟩

set_option maxRecDepth 100000 in
set_option maxHeartbeats 2000000 in
theorem equal_any (u v : Value) (A B : List Fld) (hA : A.length ≤ 100000000) (hB : B.length ≤ 100000000) (hsA : ∀ f ∈ A, f.1.size ≤ 100000) (hsB : ∀ f ∈ B, f.1.size ≤ 100000) (w : World) (hu : Rd w u A.length 2 (fldV A)) (hv : Rd w v B.length 2 (fldV B)) :
    Calls Tryz.prog 45 #[u, v, .func (.func 46) #[] #[]] w fun e w' => e = .returned (.bool (sameFs A B)) ∧ Below w.heap.size w w' := by
  obtain ⟨ao, cap, rfl⟩ := hu.form
  obtain ⟨bo, caq, rfl⟩ := hv.form
  have HU := hide hu
  have HV := hide hv
  have HSA := hide hsA
  have HSB := hide hsB
  clear hu hv hsA hsB
  by_cases hl : A.length = B.length
  · have HL := Lib.hid hl
    clear hl
    have hlen : (((A.length : Nat) : Int) != ((B.length : Nat) : Int)) = false := by rw [HL.out]; simp
    go_enter Tryz.func45, Tryz.ntmps45
    go_wp2_with fail
    go_loopw [17] (fun i wr => ∃ k : Nat, i = .int .i64 k ∧ k ≤ A.length ∧ ((A.zip B).take k).all samePF = true ∧ Below w.heap.size w wr) (fun i _ => A.length - (intOf i).toNat)
    case atStart => exact ⟨0, rfl, Nat.zero_le _, by simp, Below.refl _ _⟩
    case round =>
      obtain ⟨k, rfl, hk, hall, hbel⟩ := hrel
      have HA := Lib.hid hall
      have HB := hide hbel
      clear hall
      rcases Nat.lt_or_ge k A.length with hlt | hge
      · have hlt2 : k < B.length := by rw [← HL.out]; exact hlt
        obtain ⟨b, off, rfl, hb, d1, d3⟩ := fld_cells ((unhide HU).below hbel) rfl k hlt
        obtain ⟨b2, off2, rfl, hb2, d2, d4⟩ := fld_cells ((unhide HV).below hbel) rfl k hlt2
        have hzA := (unhide HSA) A[k] (List.getElem_mem _)
        have hzB := (unhide HSB) B[k] (List.getElem_mem _)
        have hst := zip_step HL.out hlt hlt2
        have hno := fun h => zip_no (A := A) (B := B) hlt hlt2 h
        obtain ⟨⟨x, x'⟩, hx⟩ : ∃ x, A[k] = x := ⟨_, rfl⟩
        obtain ⟨⟨y, y'⟩, hy⟩ : ∃ y, B[k] = y := ⟨_, rfl⟩
        rw [hx] at d1 d3 hzA hst hno
        rw [hy] at d2 d4 hzB hst hno
        rw [HA.out, Bool.true_and] at hst
        have hc := fun w => same1_any x x' y y' w hzA hzB
        obtain ⟨sm, hsm⟩ : ∃ sm, samePF ((x, x'), (y, y')) = sm := ⟨_, rfl⟩
        rw [hsm] at hc hst hno
        have HC := hide hc
        have HST := Lib.hid hst
        have HNO := hide hno
        clear hbel hx hy hsm hc hst hno hzA hzB
        cases sm
        · have hF := (unhide HNO) rfl
          have HF := Lib.hid hF
          clear hF
          go_wp2_with (go_at_call 46; refine (unhide HC _).mono ?_; rintro e w2 ⟨rfl, hb9⟩; have HB9 := hide hb9; clear hb9)
          go_ret
          refine ⟨by rw [HF.out] <;> rfl, ?_⟩
          have hb9 := unhide HB9
          exact (((unhide HB).alloc (unhide HB).size _).alloc (by have := (unhide HB).size; simp; omega) _).trans (hb9.mono (by have := (unhide HB).size; simp; omega))
        · go_wp2_with (go_at_call 46; refine (unhide HC _).mono ?_; rintro e w2 ⟨rfl, hb9⟩; have HB9 := hide hb9; clear hb9)
          go_roundw
          case rel =>
            have hb9 := unhide HB9
            exact ⟨k + 1, by go_num, by omega, HST.out, (((unhide HB).alloc (unhide HB).size _).alloc (by have := (unhide HB).size; simp; omega) _).trans (hb9.mono (by have := (unhide HB).size; simp; omega))⟩
          case measure => simp [intOf]; omega
      · have hT : sameFs A B = true := by
          have h1 := HA.out
          have h2 := zip_all HL.out
          rw [List.take_of_length_le (by rw [List.length_zip]; omega)] at h1 h2
          rw [← h2, h1]
        have HT := Lib.hid hT
        clear hT hbel
        go_wp2_with fail
        go_ret
        exact ⟨by rw [HT.out] <;> rfl, unhide HB⟩
  · have hT : sameFs A B = false := by unfold sameFs; rw [decide_eq_false hl]; rfl
    have HT := Lib.hid hT
    clear hT
    have hlen : (((A.length : Nat) : Int) != ((B.length : Nat) : Int)) = true := by rw [bne_iff_ne]; omega
    go_enter Tryz.func45, Tryz.ntmps45
    go_wp2_with fail
    go_ret
    exact ⟨by rw [HT.out] <;> rfl, Below.refl _ _⟩

theorem fsame_any (u v : Value) (A B : List Fld) (hA : A.length ≤ 100000000) (hB : B.length ≤ 100000000) (hsA : ∀ f ∈ A, f.1.size ≤ 100000) (hsB : ∀ f ∈ B, f.1.size ≤ 100000) (w : World) (hu : Rd w u A.length 2 (fldV A)) (hv : Rd w v B.length 2 (fldV B)) :
    Calls Tryz.prog 16 #[u, v] w fun e w' => e = .returned (.bool (sameFs A B)) ∧ Below w.heap.size w w' := by
  have HE := hide (equal_any u v A B hA hB hsA hsB w hu hv)
  obtain ⟨ao, cap, rfl⟩ := hu.form
  obtain ⟨bo, caq, rfl⟩ := hv.form
  clear hu hv hsA hsB
  go_enter Tryz.func16, Tryz.ntmps16
  go_wp2_with (go_at_call 45; refine (unhide HE).mono ?_; rintro e w1 ⟨rfl, hb⟩; have HB := hide hb; clear hb)
  go_ret
  exact ⟨rfl, unhide HB⟩
end Go.Proofs.YtfohhhdebinikaaGreatDoor.Sp
