/- The reference's port, Host. -/
import Derived.Test.YtfkobhagdjaleaaGreatDoorS13
namespace Go.Proofs.YtfkobhagdjaleaaGreatDoor.Sp
open Go.RowKit Sl

def rp (l : List UInt8) : Int := if (portS l).2 = true then (portS l).1 else -1

theorem tail_zero (l : List UInt8) : tailP l 0 = (0, false) := by unfold tailP; rw [if_pos rfl]
theorem name_cases (l : List UInt8) : (nameS l = -1 ∧ rp l = -1) ∨ (∃ m : Nat, 0 < m ∧ m ≤ l.length ∧ nameS l = m ∧ portS l = tailP l m) := by
  unfold nameS rp
  by_cases hp : Lib.hasPrefix l [91] = true
  · rw [if_pos hp]
    have hP : portS l = if brackOK (l.drop 1) then tailP l (runN addrI (l.drop 1) + 2) else (0, false) := by unfold portS; rw [if_pos hp]
    by_cases hb : brackOK (l.drop 1)
    · rw [if_pos hb] at hP ⊢
      refine .inr ⟨runN addrI (l.drop 1) + 2, by omega, ?_, rfl, hP⟩
      have h2 := hb.2.1
      rw [List.length_drop] at h2
      omega
    · rw [if_neg hb] at hP ⊢
      exact .inl ⟨rfl, by rw [hP]; rfl⟩
  · rw [if_neg hp]
    have hP : portS l = tailP l (runN hostI l) := by unfold portS; rw [if_neg hp]
    by_cases h0 : runN hostI l = 0
    · rw [if_pos h0]
      rw [h0, tail_zero] at hP
      exact .inl ⟨rfl, by rw [hP]; rfl⟩
    · rw [if_neg h0]
      exact .inr ⟨_, by omega, runN_le _ _, rfl, hP⟩
theorem tail_end (l : List UInt8) (m : Nat) (h0 : 0 < m) (h : m = l.length) : tailP l m = (0, true) := by
  unfold tailP; rw [if_neg (by omega), if_pos h]
theorem tail_no (s : ByteArray) (m : Nat) (h0 : 0 < m) (h : m < s.size) (hc : s[m].toNat ≠ 58) : (tailP s.data.toList m).2 = false := by
  have hl : s.data.toList.length = s.size := by simp
  unfold tailP
  rw [if_neg (by omega), if_neg (by omega)]
  have hp : Lib.hasPrefix (s.data.toList.drop m) [58] = false := by
    rw [drop_cons s m h]
    have : s[m] ≠ 58 := fun e => hc (by rw [e]; rfl)
    simp [Lib.hasPrefix, List.isPrefixOf, Ne.symm this]
  rw [hp]; rfl
theorem tail_yes (s : ByteArray) (m : Nat) (h0 : 0 < m) (h : m < s.size) (hc : s[m].toNat = 58) :
    tailP s.data.toList m = (((s.size - m - 1 : Nat) : Int), decide (s.size - m - 1 ≤ 5) && decide (runN digI (s.data.toList.drop (m + 1)) = s.size - m - 1)) := by
  have hl : s.data.toList.length = s.size := by simp
  unfold tailP
  rw [if_neg (by omega), if_neg (by omega)]
  have hs : s[m] = 58 := UInt8.toNat_inj.1 (by rw [hc]; rfl)
  have hp : Lib.hasPrefix (s.data.toList.drop m) [58] = true := by
    rw [drop_cons s m h, hs]
    simp [Lib.hasPrefix, List.isPrefixOf]
  have ht : Lib.trimPrefix (s.data.toList.drop m) [58] = s.data.toList.drop (m + 1) := by
    unfold Lib.trimPrefix
    rw [if_pos hp, drop_cons s m h]
    rfl
  have hlen : (s.data.toList.drop (m + 1)).length = s.size - m - 1 := by rw [List.length_drop, hl]; omega
  rw [hp, ht, hlen, Bool.true_and]
theorem digI_eq (c : Int) : digitI c = digI c := rfl

set_option maxRecDepth 100000 in
set_option maxHeartbeats 4000000 in
theorem rport_any (s : ByteArray) (hs : s.size ≤ 1000000) (w : World) :
    Calls Tryz.prog 40 #[.string s] w fun e w' => e = .returned (.int .i64 (rp s.data.toList)) ∧ w = w' := by
  have hl : s.data.toList.length = s.size := by simp
  have HL := Lib.hid hl
  have c0 := hide (fun w => rname_any s hs w)
  rcases name_cases s.data.toList with ⟨h1, h2⟩ | ⟨m, hm0, hm, h1, h2⟩
  · rw [h1] at c0
    have HP := Lib.hid h2
    clear h1 h2 hl
    go_enter Tryz.func40, Tryz.ntmps40
    go_wp2_with fail
    refine (unhide c0 _).mono ?_; rintro e w' ⟨rfl, rfl⟩
    go_wp2_with fail
    go_ret
    exact ⟨by rw [HP.out]; rfl, rfl⟩
  rw [h1] at c0
  rw [hl] at hm
  clear h1
  have bneg : decide ((m : Int) < 0) = false := decide_eq_false (by omega)
  by_cases me : m = s.size
  · have hP : rp s.data.toList = 0 := by unfold rp; rw [h2, tail_end _ m hm0 (by rw [hl]; exact me)]; rfl
    have HP := Lib.hid hP
    have be : ((m : Int) == (s.size : Int)) = true := by rw [beq_cast]; exact decide_eq_true me
    clear hP h2 hl me
    go_enter Tryz.func40, Tryz.ntmps40
    go_wp2_with fail
    refine (unhide c0 _).mono ?_; rintro e w' ⟨rfl, rfl⟩
    go_wp2_with fail
    go_ret
    exact ⟨by rw [HP.out]; rfl, rfl⟩
  have be : ((m : Int) == (s.size : Int)) = false := by rw [beq_cast]; exact decide_eq_false me
  have hlt : m < s.size := by omega
  have hsub : IntKind.i64.wrap (((s.size : Int) - m) - 1) = (s.size : Int) - m - 1 := by rw [IntKind.wrap_i64]; omega
  by_cases hc : s[m].toNat = 58
  rotate_left
  · have hP : rp s.data.toList = -1 := by unfold rp; rw [h2, tail_no s m hm0 hlt hc]; rfl
    have HP := Lib.hid hP
    have bc : ((s[m].toNat : Int) != 58) = true := by rw [bne_iff_ne]; omega
    clear hP h2 hl me hc hsub
    go_enter Tryz.func40, Tryz.ntmps40
    go_wp2_with fail
    refine (unhide c0 _).mono ?_; rintro e w' ⟨rfl, rfl⟩
    go_wp2_with fail
    go_ret
    exact ⟨by rw [HP.out]; rfl, rfl⟩
  have ht := tail_yes s m hm0 hlt hc
  have bc : ((s[m].toNat : Int) != 58) = false := by rw [hc]; rfl
  by_cases h5 : s.size - m - 1 ≤ 5
  rotate_left
  · have hP : rp s.data.toList = -1 := by unfold rp; rw [h2, ht, decide_eq_false h5]; rfl
    have HP := Lib.hid hP
    have b5 : decide ((5 : Int) < (s.size : Int) - (m : Int) - 1) = true := decide_eq_true (by omega)
    clear hP h2 hl me hc ht hsub
    go_enter Tryz.func40, Tryz.ntmps40
    go_wp2_with fail
    refine (unhide c0 _).mono ?_; rintro e w' ⟨rfl, rfl⟩
    go_wp2_with fail
    go_ret
    exact ⟨by rw [HP.out]; rfl, rfl⟩
  have b5 : decide ((5 : Int) < (s.size : Int) - (m : Int) - 1) = false := decide_eq_false (by omega)
  have hR : rp s.data.toList = if runN digI (s.data.toList.drop (m + 1)) = s.size - m - 1 then (s.size : Int) - m - 1 else -1 := by
    unfold rp
    rw [h2, ht, decide_eq_true h5, Bool.true_and]
    by_cases hr : runN digI (s.data.toList.drop (m + 1)) = s.size - m - 1
    · rw [if_pos hr, decide_eq_true hr]
      show ((s.size - m - 1 : Nat) : Int) = _
      omega
    · rw [if_neg hr, decide_eq_false hr]; rfl
  have HRP := Lib.hid hR
  clear hR h2 ht me hc hl hsub
  go_enter Tryz.func40, Tryz.ntmps40
  go_wp2_with fail
  refine (unhide c0 _).mono ?_; rintro e w' ⟨rfl, rfl⟩
  clear c0
  go_wp2_with fail
  go_loop [5] (fun n => ∃ k : Nat, m + 1 ≤ k ∧ k ≤ s.size ∧ n = .int .i64 k ∧ runN digI (s.data.toList.drop (m + 1)) + (m + 1) = k + runN digI (s.data.toList.drop k)) (fun n => s.size - (intOf n).toNat)
  case atStart => exact ⟨m + 1, by omega, by omega, by go_num, by omega⟩
  case round =>
    obtain ⟨k, hk1, hk, rfl, hrun⟩ := hrel
    have HR := Lib.hid hrun
    clear hrun
    rcases Nat.lt_or_ge k s.size with hlt2 | hge
    · have hkb : decide ((k : Int) < (s.size : Int)) = true := by rw [decide_eq_true_iff]; omega
      have HY := hide (run_step (p := digI) s k hlt2)
      have HN := hide (run_stop (p := digI) s k hlt2)
      have c1 := hide (fun w => r1digit_any s[k].toNat w)
      obtain ⟨b, hb⟩ : ∃ b, digI (s[k].toNat : Int) = b := ⟨_, rfl⟩
      rw [digI_eq, hb] at c1
      rw [hb] at HY HN
      clear hb
      cases b
      · have hr := HR.out
        rw [unhide HN rfl] at hr
        replace hr : runN digI (s.data.toList.drop (m + 1)) + (m + 1) = k := hr
        have hP : rp s.data.toList = -1 := by rw [HRP.out, if_neg]; omega
        have HP := Lib.hid hP
        clear hP hr HR HY HN
        go_wp2_with fail
        refine (unhide c1 _).mono ?_; rintro e w' ⟨rfl, rfl⟩
        go_wp2_with fail
        go_ret
        exact ⟨by rw [HP.out]; rfl, rfl⟩
      · have hr := HR.out
        rw [unhide HY rfl] at hr
        have HR1 := Lib.hid hr
        clear hr HR HY HN
        go_wp2_with fail
        refine (unhide c1 _).mono ?_; rintro e w' ⟨rfl, rfl⟩
        go_wp2_with fail
        go_round
        case rel => exact ⟨k + 1, by omega, by omega, by go_num, by rw [HR1.out]; omega⟩
        case measure => simp [intOf]; omega
    · have hkb : decide ((k : Int) < (s.size : Int)) = false := decide_eq_false (by omega)
      have hr0 : runN digI (s.data.toList.drop k) = 0 := by
        rw [List.drop_of_length_le (by rw [HL.out]; omega)]; rfl
      have hr := HR.out
      rw [hr0] at hr
      replace hr : runN digI (s.data.toList.drop (m + 1)) + (m + 1) = k := hr
      have hP : rp s.data.toList = (s.size : Int) - m - 1 := by rw [HRP.out, if_pos]; omega
      have HP := Lib.hid hP
      clear hP hr hr0 HR
      go_wp2_with fail
      go_ret
      exact ⟨by rw [HP.out]; rfl, rfl⟩

theorem rp_nonneg (l : List UInt8) : decide (0 ≤ rp l) = (portS l).2 := by
  have h1 : 0 ≤ (portS l).1 := by
    unfold portS
    have ht : ∀ l n, 0 ≤ (tailP l n).1 := by
      intro l n
      unfold tailP
      split
      · exact Int.le_refl 0
      split
      · exact Int.le_refl 0
      · exact Int.natCast_nonneg _
    split
    · split
      · exact ht _ _
      · exact Int.le_refl 0
    · exact ht _ _
  unfold rp
  cases h : (portS l).2
  · rfl
  · simp only [if_true, decide_eq_true_iff]; exact h1
theorem rhost_any (s : ByteArray) (hs : s.size ≤ 1000000) (w : World) :
    Calls Tryz.prog 20 #[.string s] w fun e w' => e = .returned (.bool (portS s.data.toList).2) ∧ w = w' := by
  have hb := rp_nonneg s.data.toList
  have c0 := hide (fun w => rport_any s hs w)
  obtain ⟨r, hr⟩ : ∃ r, rp s.data.toList = r := ⟨_, rfl⟩
  rw [hr] at hb c0
  clear hr
  rw [← hb]
  clear hb
  go_enter Tryz.func20, Tryz.ntmps20
  go_wp2_with fail
  refine (unhide c0 _).mono ?_; rintro e w' ⟨rfl, rfl⟩
  go_wp2_with fail
  go_ret
  exact ⟨rfl, rfl⟩
end Go.Proofs.YtfkobhagdjaleaaGreatDoor.Sp
