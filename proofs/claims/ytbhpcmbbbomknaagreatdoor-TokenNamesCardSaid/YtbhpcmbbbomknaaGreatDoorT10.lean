/- token.WeightText. -/
import Derived.Test.YtbhpcmbbbomknaaGreatDoorT3
import Derived.Test.YtbhpcmbbbomknaaGreatDoorT6
import Derived.Test.YtbhpcmbbbomknaaGreatDoorSpPl2
import Derived.Shelf.Strings.SlTrimAscii
namespace Go.Proofs.YtbhpcmbbbomknaaGreatDoor.Sp
open Go.RowKit

/-! ### plain -/
theorem itoa_dig3 (k : Nat) (h : k < 1000) : (itoaB (1000 + k)).data.toList.drop 1 = dig3 k := by
  have h1 : ((List.range 1000).all fun k => (Lib.itoa ((1000 : Int) + (k : Int))).drop 1 == dig3 k) = true := by decide +kernel
  rw [List.all_eq_true] at h1
  have h2 := h1 k (List.mem_range.2 h)
  rw [beq_iff_eq] at h2
  exact h2
theorem kText_mid (k : Nat) (h0 : 0 < k) (h : k < 1000) : kText k = [48, 46] ++ Lib.trimRightS (dig3 k) [48] := by
  unfold kText; rw [if_neg (by omega), if_neg (by omega)]
theorem wtS_out {q : Nat} (h : inF q = false) : wtS q = [] := by unfold wtS; rw [if_neg (by rw [h]; decide)]
theorem wtS_in {q : Nat} (h : inF q = true) : wtS q = kText (kOf q) := by unfold wtS; rw [if_pos h]

theorem trimR_len (l cs : List UInt8) : (Lib.trimRightS l cs).length ≤ l.length := by
  unfold Lib.trimRightS
  rw [List.length_reverse]
  have := (List.dropWhile_suffix (p := fun x => cs.contains x) (l := l.reverse)).length_le
  simpa using this
theorem fdiv_run (k : Nat) (h : k ≤ 1000) (w : World) : (binOp .quo 30 (.float .f64 (floatOfInt .f64 (k : Int))) (.float .f64 4652007308841189376)).run Tryz.prog w = .ok (.float .f64 (fB k)) w :=
  run_float_arith w .quo 30 .f64 _ _ _ (fB_div k h)
theorem order_cases (a b : Nat) : FloatKind.f64.format.order a b = none ∨ FloatKind.f64.format.order a b = some .lt ∨ FloatKind.f64.format.order a b = some .eq ∨ FloatKind.f64.format.order a b = some .gt := by
  cases h : FloatKind.f64.format.order a b with
  | none => exact .inl rfl
  | some o => cases o <;> simp

set_option maxRecDepth 100000 in
set_option maxHeartbeats 2000000 in
theorem weightText_any (q : Nat) (w : World) (ht : Pow10 w) :
    Calls Tryz.prog 13 #[.float .f64 q] w fun e w' => e = .returned (.string (ofL (wtS q))) ∧ Below w.heap.size w w' := by
  have ct := hide (fun s w hs => Any.strings_TrimRight_laid Tryz.lays162 (by kernel_rfl) s ⟨#[48]⟩ w hs (by decide) (ascii_of_all (by decide)))
  cases hin : inF q
  · have hr := hide (wtS_out hin)
    unfold inF geF leF at hin
    rcases order_cases q 0 with h1 | h1 | h1 | h1 <;> rcases order_cases q 4607182418800017408 with h2 | h2 | h2 | h2 <;> rw [h1, h2] at hin <;> first | (exfalso; revert hin; decide) | skip
    all_goals
      clear hin ct ht
      go_enter Tryz.func13, Tryz.ntmps13
      go_wp2_with fail
      go_ret
      exact ⟨by rw [unhide hr] <;> rfl, Below.refl _ _⟩
  · have hr := Lib.hid (wtS_in hin)
    have HT := hide ht
    clear ht
    have c0 := hide (fun w ht => itoa_any 0 (by decide) (by decide) w ht)
    have c1 := hide (fun w ht => itoa_any 1 (by decide) (by decide) w ht)
    unfold inF geF leF at hin
    rcases order_cases q 0 with h1 | h1 | h1 | h1 <;> rcases order_cases q 4607182418800017408 with h2 | h2 | h2 | h2 <;> rw [h1, h2] at hin <;> first | (exfalso; revert hin; decide) | skip
    all_goals
      clear hin
      go_enter Tryz.func13, Tryz.ntmps13
      go_wp2_with fail
      clear h1 h2
      go_loop [3] (fun n => ∃ k : Nat, k ≤ 1000 ∧ n = .int .i64 k ∧ kOf q = kFrom q (1000 - k) k) (fun n => 1000 - (intOf n).toNat)
      case atStart => exact ⟨0, by omega, rfl, rfl⟩
      case round =>
        obtain ⟨k, hk, rfl, hko⟩ := hrel
        have HK := Lib.hid hko
        clear hko
        rcases Nat.lt_or_ge k 1000 with hlt | hge
        · have hdiv : ∀ w, (binOp .quo 30 (.float .f64 (floatOfInt .f64 ((k : Int) + 1))) (.float .f64 4652007308841189376)).run Tryz.prog w = .ok (.float .f64 (fB (k + 1))) w := by
            intro w
            have := fdiv_run (k + 1) (by omega) w
            rwa [show ((k + 1 : Nat) : Int) = (k : Int) + 1 by omega] at this
          have hkb : decide ((k : Int) < 1000) = true := by simp; omega
          cases hle : leF (fB (k + 1)) q
          · have hko := kFrom_no hlt hle
            rw [← HK.out] at hko
            have HR := Lib.hid hko
            clear hko HK
            unfold leF at hle
            rcases Nat.eq_zero_or_pos k with h0 | h0
            · have hres : itoaB 0 = ofL (wtS q) := by rw [hr.out, HR.out, h0]; exact ba_eq (by decide +kernel)
              have HRES := Lib.hid hres
              have hmod : Int.tmod (k : Int) 1000 = 0 := by rw [Int.tmod_eq_emod_of_nonneg (by omega)]; omega
              have hdv : Int.tdiv (k : Int) 1000 = 0 := by rw [Int.tdiv_eq_ediv_of_nonneg (by omega)]; omega
              clear hres h0
              rcases order_cases (fB (k + 1)) q with h3 | h3 | h3 | h3 <;> rw [h3] at hle <;> first | (exfalso; revert hle; decide) | skip
              all_goals
                clear hle
                go_wp2_with (go_at_call 27; refine (unhide c0 _ (unhide HT)).mono ?_; rintro e w1 ⟨rfl, hb1⟩; have HB1 := hide hb1; clear hb1)
                go_ret
                exact ⟨by rw [HRES.out] <;> rfl, unhide HB1⟩
            · have hmod : Int.tmod (k : Int) 1000 = (k : Int) := by rw [Int.tmod_eq_emod_of_nonneg (by omega)]; omega
              have ci := hide (fun w ht => itoa_any (1000 + (k : Int)) (by omega) (by omega) w ht)
              have hd3 := itoa_dig3 k hlt
              obtain ⟨X, hX⟩ : ∃ X, itoaB (1000 + (k : Int)) = X := ⟨_, rfl⟩
              rw [hX] at ci hd3
              have hz : X.size = 4 := by
                have h := congrArg List.length hd3
                rw [List.length_drop] at h
                have e : X.data.toList.length = X.size := by simp
                rw [e] at h
                have e3 : (dig3 k).length = 3 := rfl
                omega
              have hext : (X.extract 1 X.size).data.toList = dig3 k := by rw [Lib.extract_to_end]; exact hd3
              obtain ⟨Y, hY⟩ : ∃ Y, X.extract 1 X.size = Y := ⟨_, rfl⟩
              rw [hY] at hext
              have hzy : Y.size ≤ 4 := by rw [size_list hext]; show 3 ≤ 4; omega
              obtain ⟨Z, hZ⟩ : ∃ Z : ByteArray, Z = ⟨(Lib.trimRightS Y.data.toList (⟨#[48]⟩ : ByteArray).data.toList).toArray⟩ := ⟨_, rfl⟩
              have hZl : Z.data.toList = Lib.trimRightS (dig3 k) [48] := by rw [hZ, hext]
              have hzz : Z.size ≤ 4 := by
                rw [size_list hZl]
                have h := trimR_len (dig3 k) [48]
                have e3 : (dig3 k).length = 3 := rfl
                omega
              have hres : (⟨#[48, 46]⟩ : ByteArray) ++ Z = ofL (wtS q) := by
                rw [hr.out, HR.out, kText_mid k h0 hlt]
                exact ba_eq (by rw [app_data, hZl])
              have cz := hide (fun w => show Calls Tryz.prog 28 #[.string Y, .string ⟨#[48]⟩] w fun e w' => e = .returned (.string Z) ∧ Below w.heap.size w w' from by rw [hZ]; exact unhide ct Y w (by omega))
              have HRES := Lib.hid hres
              have hneq : ((k : Int) == 0) = false := by rw [beq_eq_false_iff_ne]; omega
              rw [hz] at hY
              clear hres hX hd3 hext hZ hZl
              rcases order_cases (fB (k + 1)) q with h3 | h3 | h3 | h3 <;> rw [h3] at hle <;> first | (exfalso; revert hle; decide) | skip
              all_goals
                clear hle
                go_wp2_with (first
                  | (go_at_call 27; refine (unhide ci _ (unhide HT)).mono ?_; rintro e w1 ⟨rfl, hb1⟩; have HB1 := hide hb1; clear hb1)
                  | (go_at_call 28; refine (unhide cz _).mono ?_; rintro e w2 ⟨rfl, hb2⟩; have HB2 := hide hb2; clear hb2))
                go_ret
                exact ⟨by rw [HRES.out] <;> rfl, (unhide HB1).trans ((unhide HB2).mono (unhide HB1).size)⟩
          · have hko := kFrom_yes hlt hle
            rw [← HK.out] at hko
            have HR := Lib.hid hko
            clear hko HK
            unfold leF at hle
            rcases order_cases (fB (k + 1)) q with h3 | h3 | h3 | h3 <;> rw [h3] at hle <;> first | (exfalso; revert hle; decide) | skip
            all_goals
              clear hle
              go_wp2_with fail
              go_round
              case rel => exact ⟨k + 1, by omega, by go_num, HR.out⟩
              case measure => simp [intOf]; omega
        · have hke : k = 1000 := by omega
          have hres : itoaB 1 = ofL (wtS q) := by rw [hr.out, HK.out, kFrom_end hge, hke]; exact ba_eq (by decide +kernel)
          have HRES := Lib.hid hres
          have hmod : Int.tmod (k : Int) 1000 = 0 := by rw [Int.tmod_eq_emod_of_nonneg (by omega)]; omega
          have hdv : Int.tdiv (k : Int) 1000 = 1 := by rw [Int.tdiv_eq_ediv_of_nonneg (by omega)]; omega
          have hkb : decide ((k : Int) < 1000) = false := by simp; omega
          clear hres hke
          go_wp2_with (go_at_call 27; refine (unhide c1 _ (unhide HT)).mono ?_; rintro e w1 ⟨rfl, hb1⟩; have HB1 := hide hb1; clear hb1)
          go_ret
          exact ⟨by rw [HRES.out] <;> rfl, unhide HB1⟩
end Go.Proofs.YtbhpcmbbbomknaaGreatDoor.Sp
