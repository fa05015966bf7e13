/- Lemmas for the statement's proof, several texts in one: P13. -/
import Derived.Test.YtbpopmbabckojaaGreatDoorZ45
import Derived.Test.YtbpopmbabckojaaGreatDoorZ03
set_option linter.unusedVariables false
set_option linter.unusedSimpArgs false
/- The reference's Size. -/
section
namespace Go.Proofs.YtbpopmbabckojaaGreatDoor.Sp
open Go.RowKit Sl

def hexR (c : Int) : Int := if 48 ≤ c ∧ c ≤ 57 then c - 48 else if 97 ≤ c ∧ c ≤ 102 then c - 97 + 10 else if 65 ≤ c ∧ c ≤ 70 then c - 65 + 10 else -1
theorem hexR_B (c : UInt8) : hexR c.toNat = if hexB c = true then (hexV c : Int) else -1 := by
  have := byte_all (fun c => hexR c.toNat == if hexB c = true then (hexV c : Int) else -1) (by decide +kernel) c
  simpa using this
set_option maxRecDepth 100000 in
theorem rhex_I (c : Int) (h0 : 0 ≤ c) (h1 : c ≤ 255) (w : World) : Calls Tryz.prog 130 #[.int .u8 c] w fun e w' => e = .returned (.int .i64 (hexR c)) ∧ w = w' := by
  go_enter Tryz.func130, Tryz.ntmps130
  go_wp2
  all_goals go_ret
  all_goals exact ⟨ret_int (by unfold hexR; repeat' split; all_goals omega), rfl⟩
theorem rhex_any (c : UInt8) (w : World) : Calls Tryz.prog 130 #[.int .u8 c.toNat] w fun e w' => e = .returned (.int .i64 (if hexB c = true then (hexV c : Int) else -1)) ∧ w = w' := by
  have := rhex_I c.toNat (by omega) (by have := c.toNat_lt; omega) w
  rwa [hexR_B] at this

set_option maxRecDepth 100000 in
set_option maxHeartbeats 4000000 in
theorem rsize_any (s : ByteArray) (hs : s.size ≤ 1000000) (w : World) :
    Calls Tryz.prog 108 #[.string s] w fun e w' => sizeE s.data.toList e ∧ w = w' := by
  go_enter Tryz.func108, Tryz.ntmps108
  go_wp2_with fail
  go_loop [4, 5] (fun n i => ∃ k m : Nat, k ≤ s.size ∧ k ≤ 17 ∧ i = .int .i64 k ∧ n = .int .u64 m ∧ m < 18446744073709551616 ∧ (k ≤ 16 → m = hexN (s.data.toList.take k)) ∧ (s.data.toList.take k).all hexB = true ∧ hexP s.data.toList = k + hexP (s.data.toList.drop k)) (fun n i => s.size - (intOf i).toNat)
  case atStart => exact ⟨0, 0, Nat.zero_le _, Nat.zero_le _, rfl, rfl, by decide, fun _ => rfl, rfl, by simp⟩
  case round =>
    obtain ⟨k, m, hk, hk17, rfl, rfl, hm64, hmn, hall, hp⟩ := hrel
    by_cases hgo : k < s.size ∧ k ≤ 16
    · obtain ⟨hlt, hk16⟩ := hgo
      have hx := hexP_at s k hlt
      have HC := rhex_any s[k]
      cases hb : hexB s[k]
      · rw [hb, if_neg (by simp)] at hx
        rw [hb, if_neg (by simp)] at HC
        have HP := Lib.hid (show hexP s.data.toList = k by omega)
        have hr : (s.extract k s.size).data.toList = s.data.toList.drop k := Lib.extract_to_end s k
        have hrs : (s.extract k s.size).size = s.size - k := by rw [ByteArray.size_extract]; omega
        have QE := fun w' => chars_any (s.extract k s.size) (by rw [hrs]; omega) w'
        obtain ⟨ok, hok⟩ : ∃ ok, allS chr (s.extract k s.size).data.toList = ok := ⟨_, rfl⟩
        rw [hok] at QE
        have QE := hide QE
        have HOK := Lib.hid (show allS chr (s.data.toList.drop (hexP s.data.toList)) = ok by rw [HP.out, ← hr, hok])
        have HC2 := hide HC
        have hdr := drop_cons s k hlt
        have HNN := Lib.hid (show s.data.toList.drop (hexP s.data.toList) ≠ [] by rw [HP.out, hdr]; simp)
        have HHD := Lib.hid (show (s.data.toList.drop (hexP s.data.toList)).head? = some s[k] by rw [HP.out, hdr]; rfl)
        have HVV := Lib.hid (show hexN (s.data.toList.take (hexP s.data.toList)) = m by rw [HP.out, hmn hk16])
        have k16 : (k : Int) ≤ 16 := by omega
        have k16' : ¬ (16 : Int) < k := by omega
        clear hp hb hx HC hr hrs hok hmn hall hm64 hdr
        by_cases k1 : k < 1
        · have k1i : (k : Int) = 0 := by omega
          have k1b : ((k : Int) == 0) = true := by rw [k1i]; rfl
          have HQ := Lib.hid (sizeF_bad1 (l := s.data.toList) (by rw [HP.out]; exact .inl k1))
          obtain rfl : k = 0 := by omega
          clear k1 k1i k1b
          go_wp2_with (first | (go_at_call 130; refine (unhide HC2 _).mono ?_; rintro e w1 ⟨rfl, rfl⟩) | (go_at_call 97; refine (unhide QE _).mono ?_; rintro e w2 ⟨rfl, rfl⟩))
          all_goals go_ret2
          all_goals exact ⟨by unfold sizeE; rw [HQ.out]; rfl, rfl⟩
        have k1i : ¬ (k : Int) = 0 := by omega
        have k1b : ((k : Int) == 0) = false := by rw [beq_eq_false_iff_ne]; exact k1i
        have HK := Lib.hid (show ¬ (hexP s.data.toList < 1 ∨ 16 < hexP s.data.toList) by rw [HP.out]; omega)
        obtain ⟨c0, hc0⟩ : ∃ c0, s[k] = c0 := ⟨_, rfl⟩
        have HHD2 := Lib.hid (show (s.data.toList.drop (hexP s.data.toList)).head? = some c0 by rw [HHD.out, hc0])
        clear k1
        by_cases h59 : c0 = 59
        · have c1 : ((s[k].toNat : Int) == 59) = true := by rw [hc0, h59]; rfl
          have c2 : ((s[k].toNat : Int) != 59) = false := by rw [hc0, h59]; rfl
          have H59 := Lib.hid h59
          clear h59 hc0
          cases ok
          · have HQ := Lib.hid (sizeF_bad2 (l := s.data.toList) HNN.out (.inr HOK.out))
            go_wp2_with (first | (go_at_call 130; refine (unhide HC2 _).mono ?_; rintro e w1 ⟨rfl, rfl⟩) | (go_at_call 97; refine (unhide QE _).mono ?_; rintro e w2 ⟨rfl, rfl⟩))
            all_goals go_ret2
            all_goals exact ⟨by unfold sizeE; rw [HQ.out]; rfl, rfl⟩
          · have HG := Lib.hid (sizeF_good (l := s.data.toList) HK.out (.inr ⟨by rw [HHD2.out, H59.out], HOK.out⟩))
            by_cases g : 9007199254740991 < m
            · have gi : (9007199254740991 : Int) < m := by omega
              have HQ := Lib.hid (show sizeF s.data.toList = (0, 413) by rw [HG.out, HVV.out, if_pos g])
              clear g
              go_wp2_with (first | (go_at_call 130; refine (unhide HC2 _).mono ?_; rintro e w1 ⟨rfl, rfl⟩) | (go_at_call 97; refine (unhide QE _).mono ?_; rintro e w2 ⟨rfl, rfl⟩))
              all_goals go_ret2
              all_goals exact ⟨by unfold sizeE; rw [HQ.out]; rfl, rfl⟩
            · have gi : ¬ (9007199254740991 : Int) < m := by omega
              have wi : IntKind.i64.wrap (m : Int) = m := by rw [IntKind.wrap_i64]; omega
              have HQ := Lib.hid (show sizeF s.data.toList = (m, 0) by rw [HG.out, HVV.out, if_neg g])
              clear g
              go_wp2_with (first | (go_at_call 130; refine (unhide HC2 _).mono ?_; rintro e w1 ⟨rfl, rfl⟩) | (go_at_call 97; refine (unhide QE _).mono ?_; rintro e w2 ⟨rfl, rfl⟩))
              all_goals go_ret2
              all_goals exact ⟨by unfold sizeE; rw [HQ.out]; rfl, rfl⟩
        · have c1 : ((s[k].toNat : Int) == 59) = false := by
            rw [beq_eq_false_iff_ne, hc0]; intro e; exact h59 (u8_eq (n := 59) e)
          have c2 : ((s[k].toNat : Int) != 59) = true := by rw [bne, c1]; rfl
          have HQ := Lib.hid (sizeF_bad2 (l := s.data.toList) HNN.out (.inl (by rw [HHD2.out]; simpa using h59)))
          clear h59 hc0
          go_wp2_with (first | (go_at_call 130; refine (unhide HC2 _).mono ?_; rintro e w1 ⟨rfl, rfl⟩) | (go_at_call 97; refine (unhide QE _).mono ?_; rintro e w2 ⟨rfl, rfl⟩))
          all_goals go_ret2
          all_goals exact ⟨by unfold sizeE; rw [HQ.out]; rfl, rfl⟩
      · rw [hb, if_pos rfl] at hx
        rw [hb, if_pos rfl] at HC
        have hv := hexV_lt _ hb
        obtain ⟨v, hv'⟩ : ∃ v, hexV s[k] = v := ⟨_, rfl⟩
        rw [hv'] at HC hv
        have HCC := hide HC
        have HP := Lib.hid (show hexP s.data.toList = k + 1 + hexP (s.data.toList.drop (k + 1)) by omega)
        have v0 : ¬ (v : Int) < 0 := by omega
        have k16 : (k : Int) ≤ 16 := by omega
        have HMN := hide hmn
        have HALL := Lib.hid hall
        have HM := hide hm64
        have HV := Lib.hid hv'
        have HB := Lib.hid hb
        have hvv := hide hv
        clear hp hb hx hmn hall hm64 hv hv' HC
        go_upto_region 6 with (go_at_call 130; refine (unhide HCC _).mono ?_; rintro e w1 ⟨rfl, rfl⟩)
        go_wp2_with fail
        refine ⟨⟨k + 1, (m * 16 % 18446744073709551616) ||| v, by omega, by omega, by go_num, ?_, ?_, fun hk' => ?_, ?_, HP.out⟩, by simp [intOf]; omega⟩
        · have e1 : IntKind.u64.wrap ((m : Int) * 16) = ((m * 16 % 18446744073709551616 : Nat) : Int) := by rw [IntKind.wrap_u64]; omega
          have e2 : IntKind.u64.wrap (v : Int) = (v : Int) := by rw [IntKind.wrap_u64]; have := unhide hvv; omega
          rw [e1, e2, bits_or_u64_nat _ _ (Nat.mod_lt _ (by decide)) (by have := unhide hvv; omega)]
        · have h1 : m * 16 % 18446744073709551616 < 2 ^ 64 := Nat.mod_lt _ (by decide)
          have h2 : v < 2 ^ 64 := by have := unhide hvv; omega
          exact Nat.or_lt_two_pow h1 h2
        · have hm := unhide HMN hk16
          have hlt2 : hexN (s.data.toList.take k) < 16 ^ k := hexN_lt k _ (by simp; omega) HALL.out
          have hm2 : hexN (s.data.toList.take k) < 1152921504606846976 := Nat.lt_of_lt_of_le hlt2 (Nat.le_trans (Nat.pow_le_pow_right (by decide) (show k ≤ 15 by omega)) (by decide))
          have h3 : m * 16 % 18446744073709551616 = m <<< 4 := by rw [Nat.shiftLeft_eq]; omega
          rw [h3, ← Nat.shiftLeft_add_eq_or_of_lt (i := 4) (by have := unhide hvv; omega), hexN_take s k hlt, HV.out, ← hm, Nat.shiftLeft_eq]
        · rw [List.take_succ_eq_append_getElem (by simpa using hlt), List.all_append, HALL.out]
          have h9 : hexB s.data[k] = true := HB.out
          simp [h9]
    · by_cases hke : k = s.size
      · have hz : s.data.toList.drop k = [] := List.drop_of_length_le (by simp; omega)
        rw [hz] at hp
        have HP := Lib.hid (show hexP s.data.toList = k by rw [hp]; rfl)
        have HZ := Lib.hid (show s.data.toList.drop (hexP s.data.toList) = [] by rw [HP.out]; exact hz)
        have hji : ¬ (k : Int) < s.size := by omega
        by_cases k1 : k < 1
        · have HQ := Lib.hid (sizeF_bad1 (l := s.data.toList) (by rw [HP.out]; exact .inl k1))
          obtain rfl : k = 0 := by omega
          clear k1 hp hz hke hgo
          go_wp2_with fail
          all_goals go_ret2
          all_goals exact ⟨by unfold sizeE; rw [HQ.out]; rfl, rfl⟩
        have k1i : ¬ (k : Int) = 0 := by omega
        have k1b : ((k : Int) == 0) = false := by rw [beq_eq_false_iff_ne]; exact k1i
        by_cases k2 : 16 < k
        · have k2i : (16 : Int) < k := by omega
          have k2j : ¬ (k : Int) ≤ 16 := by omega
          have HQ := Lib.hid (sizeF_bad1 (l := s.data.toList) (by rw [HP.out]; exact .inr k2))
          clear k1 k2 hp hz hke hgo
          go_wp2_with fail
          all_goals go_ret2
          all_goals exact ⟨by unfold sizeE; rw [HQ.out]; rfl, rfl⟩
        have k2i : ¬ (16 : Int) < k := by omega
        have HG := Lib.hid (sizeF_good (l := s.data.toList) (by rw [HP.out]; omega) (.inl HZ.out))
        have HVV := Lib.hid (show hexN (s.data.toList.take (hexP s.data.toList)) = m by rw [HP.out, hmn (by omega)])
        clear k1 k2 hp hz hke hgo hmn hall hm64
        by_cases g : 9007199254740991 < m
        · have gi : (9007199254740991 : Int) < m := by omega
          have HQ := Lib.hid (show sizeF s.data.toList = (0, 413) by rw [HG.out, HVV.out, if_pos g])
          clear g
          go_wp2_with fail
          all_goals go_ret2
          all_goals exact ⟨by unfold sizeE; rw [HQ.out]; rfl, rfl⟩
        · have gi : ¬ (9007199254740991 : Int) < m := by omega
          have wi : IntKind.i64.wrap (m : Int) = m := by rw [IntKind.wrap_i64]; omega
          have HQ := Lib.hid (show sizeF s.data.toList = (m, 0) by rw [HG.out, HVV.out, if_neg g])
          clear g
          go_wp2_with fail
          all_goals go_ret2
          all_goals exact ⟨by unfold sizeE; rw [HQ.out]; rfl, rfl⟩
      · have hlt : k < s.size := by omega
        have hk2 : 16 < k := by omega
        have k2i : (16 : Int) < k := by omega
        have k2j : ¬ (k : Int) ≤ 16 := by omega
        have k1i : ¬ (k : Int) = 0 := by omega
        have k1b : ((k : Int) == 0) = false := by rw [beq_eq_false_iff_ne]; exact k1i
        have HQ := Lib.hid (sizeF_bad1 (l := s.data.toList) (.inr (by omega)))
        clear hp hke hgo hmn hall hm64 hk2
        go_wp2_with fail
        all_goals go_ret2
        all_goals exact ⟨by unfold sizeE; rw [HQ.out]; rfl, rfl⟩
end Go.Proofs.YtbpopmbabckojaaGreatDoor.Sp
end
