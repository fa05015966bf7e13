/- Lemmas for the statement's proof, several texts in one: S13, S14. -/
import Derived.Test.YtbpopmbabckojaaGreatDoorZ13
set_option linter.unusedVariables false
set_option linter.unusedSimpArgs false
/- The reference's name, port, Host. -/
section
namespace Go.Proofs.YtbpopmbabckojaaGreatDoor.Sp
open Go.RowKit Sl

/-! ### plain -/
def nameS (l : List UInt8) : Int :=
  if Lib.hasPrefix l [91] = true then (if brackOK (l.drop 1) then ((runN addrI (l.drop 1) + 2 : Nat) : Int) else -1) else (if runN hostI l = 0 then -1 else ((runN hostI l : Nat) : Int))
def hostTo (c : UInt8) (k : Nat) : Bool := (letterI c.toNat || digitI c.toNat) || (hostSigns.take k).any fun x => x == c
theorem isEmpty_of {s : ByteArray} (h : s.toList = []) : s.toList.isEmpty = true := by rw [h]; rfl
theorem hostTo_all (c : UInt8) : hostTo c 16 = hostI c.toNat := by
  have := byte_all (fun c => hostTo c 16 == hostI c.toNat) (by decide +kernel) c
  simpa using this
def signAt (k : Nat) : UInt8 := hostSigns.getD k 0
theorem hostTo_step (c : UInt8) (k : Nat) (h : k < 16) : hostTo c (k + 1) = (hostTo c k || signAt k == c) := by
  unfold hostTo signAt
  have hl : k < hostSigns.length := h
  rw [List.take_succ_eq_append_getElem hl, List.any_append, List.getD, List.getElem?_eq_getElem hl]
  simp only [List.any_cons, List.any_nil, Bool.or_false, Option.getD_some, Bool.or_assoc]
theorem sign_run (k : Nat) (h : k < 16) (w : World) : (Instr.index 9 (.string ⟨#[45, 46, 95, 126, 33, 36, 38, 39, 40, 41, 42, 43, 44, 59, 61, 37]⟩) (.int .i64 (k : Int))).run Tryz.prog w = .ok (.int .u8 (signAt k).toNat) w := by
  have hk : ∀ k, k < 16 → (⟨#[45, 46, 95, 126, 33, 36, 38, 39, 40, 41, 42, 43, 44, 59, 61, 37]⟩ : ByteArray)[k]? = some (signAt k) := by decide +kernel
  have h2 := hk k h
  simp [Instr.index, run_underlying Tryz.underlying9, asIntOf, go_sem, h2]
theorem run_step {p : Int → Bool} (s : ByteArray) (k : Nat) (h : k < s.size) (hp : p s[k].toNat = true) : runN p (s.data.toList.drop k) = 1 + runN p (s.data.toList.drop (k + 1)) := run_yes (drop_cons s k h) hp
theorem run_stop {p : Int → Bool} (s : ByteArray) (k : Nat) (h : k < s.size) (hp : p s[k].toNat = false) : runN p (s.data.toList.drop k) = 0 := run_no (drop_cons s k h) hp
theorem prefix_91 (s : ByteArray) : Lib.hasPrefix s.data.toList [91] = true ↔ ∃ h : 0 < s.size, (s[0].toNat : Int) = 91 := by
  constructor
  · intro h
    obtain ⟨t, ht⟩ := prefix_pos h
    have hs : 0 < s.size := by rw [size_list ht]; simp
    refine ⟨hs, ?_⟩
    have hd := drop_cons s 0 hs
    rw [List.drop_zero, ht] at hd
    rw [← (List.cons.inj hd).1]; rfl
  · rintro ⟨hs, h⟩
    have hd := drop_cons s 0 hs
    rw [List.drop_zero] at hd
    rw [hd, u8_eq h]
    simp [Lib.hasPrefix, List.isPrefixOf]
theorem getD_at (s : ByteArray) (i : Nat) (h : i < s.size) : s.data.toList.getD i 0 = s[i] := by
  rw [List.getD, List.getElem?_eq_getElem (by simpa using h)]; rfl

set_option maxRecDepth 100000 in
set_option maxHeartbeats 4000000 in
theorem rname_any (s : ByteArray) (hs : s.size ≤ 1000000) (w : World) :
    Calls Tryz.prog 145 #[.string s] w fun e w' => e = .returned (.int .i64 (nameS s.data.toList)) ∧ w = w' := by
  have hl : s.data.toList.length = s.size := by simp
  have HL := Lib.hid hl
  clear hl
  by_cases hp : Lib.hasPrefix s.data.toList [91] = true
  · obtain ⟨h0, h91⟩ := (prefix_91 s).1 hp
    have hspec : nameS s.data.toList = if brackOK (s.data.toList.drop 1) then ((runN addrI (s.data.toList.drop 1) + 2 : Nat) : Int) else -1 := by unfold nameS; rw [if_pos hp]
    have HSP := Lib.hid hspec
    have b91 : ((s[0].toNat : Int) == 91) = true := by rw [h91]; rfl
    have hne : s.toList.isEmpty = false := by
      rcases ne_case s with ⟨_, e2⟩ | ⟨e1, _⟩
      · omega
      · exact e1
    clear hp hspec h91
    go_enter Tryz.func145, Tryz.ntmps145
    go_wp2_with fail
    go_loop [3] (fun n => ∃ k : Nat, 1 ≤ k ∧ k ≤ s.size ∧ n = .int .i64 k ∧ runN addrI (s.data.toList.drop 1) + 1 = k + runN addrI (s.data.toList.drop k)) (fun n => s.size - (intOf n).toNat)
    case atStart => exact ⟨1, by omega, by omega, rfl, by omega⟩
    case round =>
      obtain ⟨k, hk1, hk, rfl, hrun⟩ := hrel
      have HR := Lib.hid hrun
      clear hrun
      rcases Nat.lt_or_ge k s.size with hlt | hge
      · have hkb : decide ((k : Int) < (s.size : Int)) = true := by rw [decide_eq_true_iff]; omega
        have c0 := hide (fun w => r1digit_any s[k].toNat w)
        have HY := hide (run_step (p := addrI) s k hlt)
        have HN := hide (run_stop (p := addrI) s k hlt)
        have hDR : ∀ i, (s.data.toList.drop 1).getD i 0 = s.data.toList.getD (i + 1) 0 := fun i => by
          simp [List.getD, List.getElem?_drop, Nat.add_comm]
        have hgk := getD_at s k hlt
        obtain ⟨c, hc⟩ : ∃ c, s[k].toNat = c := ⟨_, rfl⟩
        have HC := Lib.hid hc
        have HGK := Lib.hid hgk
        have HDR := hide hDR
        rw [hc] at c0 HY HN
        clear hDR hgk
        go_upto_region 4 with fail
        go_cut [59] (fun t wc => t = .bool (addrI (c : Int)) ∧ w = wc)
        case first =>
          cases hdi : digitI (c : Int)
          all_goals
            rw [hdi] at c0
            have HDI := Lib.hid hdi
            clear hdi
            go_wp2_with (go_at_call 60; refine (unhide c0 _).mono ?_; rintro e w' ⟨rfl, rfl⟩)
            all_goals go_meet
            all_goals
              refine ⟨congrArg Value.bool ?_, rfl⟩
              have hd := HDI.out
              unfold digitI at hd
              unfold addrI
              rw [Bool.eq_iff_iff]
              simp only [decide_eq_true_iff, decide_eq_false_iff_not, beq_iff_eq, true_iff, false_iff, Bool.false_eq_true] at hd ⊢
              omega
        case rest =>
          obtain ⟨rfl, rfl⟩ := hcut
          have h1000 : k < 1000000 := by omega
          cases ha : addrI (c : Int)
          · have hN := unhide HN ha
            have hr := HR.out
            rw [hN] at hr
            replace hr : runN addrI (s.data.toList.drop 1) + 1 = k := hr
            have HR1 := Lib.hid hr
            clear hr hN HR HN HY ha c0
            have bl : ((k : Int) == (s.size : Int)) = false := by rw [beq_cast]; exact decide_eq_false (by omega)
            by_cases k1 : k = 1
            · have b1 : ((k : Int) == 1) = true := by rw [k1]; rfl
              have hP : nameS s.data.toList = -1 := by
                rw [HSP.out, if_neg]
                rintro ⟨h, _⟩
                have := HR1.out
                omega
              have HP := Lib.hid hP
              clear hP k1
              go_wp2_with fail
              go_ret
              exact ⟨by rw [HP.out]; rfl, rfl⟩
            have b1 : ((k : Int) == 1) = false := by rw [show (1 : Int) = ((1 : Nat) : Int) from rfl, beq_cast]; exact decide_eq_false k1
            have hgd : (s.data.toList.drop 1).getD (runN addrI (s.data.toList.drop 1)) 0 = s[k] := by
              rw [unhide HDR, HR1.out, HGK.out]
            have hln : (s.data.toList.drop 1).length = s.size - 1 := by rw [List.length_drop, HL.out]
            by_cases hq : c = 93
            · have hP : nameS s.data.toList = (k : Int) + 1 := by
                rw [HSP.out, if_pos]
                · have := HR1.out
                  omega
                · refine ⟨?_, ?_, ?_⟩
                  · have := HR1.out; omega
                  · rw [hln]; have := HR1.out; omega
                  · rw [hgd]; exact UInt8.toNat_inj.1 (by rw [HC.out, hq]; rfl)
              have HP := Lib.hid hP
              have bq : ((c : Int) != 93) = false := by rw [hq]; rfl
              clear hP hgd hln k1 hq
              go_wp2_with fail
              go_ret
              exact ⟨by rw [HP.out]; rfl, rfl⟩
            · have hP : nameS s.data.toList = -1 := by
                rw [HSP.out, if_neg]
                rintro ⟨_, _, h⟩
                rw [hgd] at h
                exact hq (by rw [← HC.out, h]; rfl)
              have HP := Lib.hid hP
              have bq : ((c : Int) != 93) = true := by rw [bne_iff_ne]; omega
              clear hP hgd hln k1 hq
              go_wp2_with fail
              go_ret
              exact ⟨by rw [HP.out]; rfl, rfl⟩
          · have hY := unhide HY ha
            have hr := HR.out
            rw [hY] at hr
            clear HR HN HY ha c0
            have HR1 := Lib.hid hr
            clear hr hY
            go_wp2_with fail
            go_round
            case rel => exact ⟨k + 1, by omega, by omega, by go_num, by rw [HR1.out]; omega⟩
            case measure => simp [intOf]; omega
      · have hkb : decide ((k : Int) < (s.size : Int)) = false := decide_eq_false (by omega)
        have hnl : ¬ k < s.size := by omega
        have hkn : decide (k < s.size) = false := decide_eq_false hnl
        have hke : k = s.size := by omega
        have bl : ((k : Int) == (s.size : Int)) = true := by rw [beq_cast]; exact decide_eq_true hke
        have hr0 : runN addrI (s.data.toList.drop k) = 0 := by
          rw [List.drop_of_length_le (by rw [HL.out]; omega)]; rfl
        have hr := HR.out
        rw [hr0] at hr
        have hP : nameS s.data.toList = -1 := by
          rw [HSP.out, if_neg]
          rintro ⟨_, h, _⟩
          rw [List.length_drop, HL.out] at h
          omega
        have HP := Lib.hid hP
        clear hP hr hr0 HR
        by_cases k1 : k = 1
        · have b1 : ((k : Int) == 1) = true := by rw [k1]; rfl
          clear k1 hke
          go_wp2_with fail
          go_ret
          exact ⟨by rw [HP.out]; rfl, rfl⟩
        · have b1 : ((k : Int) == 1) = false := by rw [show (1 : Int) = ((1 : Nat) : Int) from rfl, beq_cast]; exact decide_eq_false k1
          clear k1 hke
          go_wp2_with fail
          go_ret
          exact ⟨by rw [HP.out]; rfl, rfl⟩
  · have hspec : nameS s.data.toList = if runN hostI s.data.toList = 0 then -1 else ((runN hostI s.data.toList : Nat) : Int) := by unfold nameS; rw [if_neg hp]
    have HSP := Lib.hid hspec
    have hcase : s.toList.isEmpty = true ∨ (s.toList.isEmpty = false ∧ ∃ h : 0 < s.size, ((s[0].toNat : Int) == 91) = false) := by
      rcases ne_case s with ⟨e1, _⟩ | ⟨e1, e2⟩
      · exact .inl (isEmpty_of e1)
      · refine .inr ⟨e1, by omega, ?_⟩
        have h2 : 0 < s.size := by omega
        cases hb : ((s[0].toNat : Int) == 91)
        · rfl
        · exact absurd ((prefix_91 s).2 ⟨h2, by simpa using hb⟩) hp
    clear hp hspec
    rcases hcase with he | ⟨he, h0, b91⟩
    all_goals
      go_enter Tryz.func145, Tryz.ntmps145
      go_wp2_with fail
      go_loop [3] (fun n => ∃ k : Nat, k ≤ s.size ∧ n = .int .i64 k ∧ runN hostI s.data.toList = k + runN hostI (s.data.toList.drop k)) (fun n => s.size - (intOf n).toNat)
      case atStart => exact ⟨0, by omega, rfl, by rw [List.drop_zero]; omega⟩
      case round =>
        obtain ⟨k, hk, rfl, hrun⟩ := hrel
        have HR := Lib.hid hrun
        clear hrun
        have h1000 : k ≤ 1000000 := by omega
        rcases Nat.lt_or_ge k s.size with hlt | hge
        · have hkb : decide ((k : Int) < (s.size : Int)) = true := by rw [decide_eq_true_iff]; omega
          have HY := hide (run_step (p := hostI) s k hlt)
          have HN := hide (run_stop (p := hostI) s k hlt)
          have cL := hide (fun w => letter_any s[k].toNat w)
          have cD := hide (fun w => r1digit_any s[k].toNat w)
          have hst : hostTo s[k] 0 = (letterI s[k].toNat || digitI s[k].toNat) := by simp [hostTo]
          obtain ⟨ch, hch⟩ : ∃ ch, s[k] = ch := ⟨_, rfl⟩
          have hall := hostTo_all ch
          rw [hch] at HY HN cL cD hst
          rw [← hall] at HY HN
          have HCH := Lib.hid hch
          clear hall
          clear HCH
          have go : ∀ b : Bool, b = (letterI ch.toNat || digitI ch.toNat) → True := fun _ _ => trivial
          clear go
          obtain ⟨bL, hbL⟩ : ∃ b, letterI (ch.toNat : Int) = b := ⟨_, rfl⟩
          obtain ⟨bD, hbD⟩ : ∃ b, digitI (ch.toNat : Int) = b := ⟨_, rfl⟩
          rw [hbL] at cL hst
          rw [hbD] at cD hst
          clear hbL hbD
          go_upto_region 11 with fail
          go_cut [5] (fun v wc => v = .bool (hostTo ch 0) ∧ w = wc)
          case first =>
            have HST := Lib.hid hst
            clear hst
            cases bL
            · cases bD
              all_goals
                go_wp2_with fail
                refine (unhide cL _).mono ?_; rintro e w' ⟨rfl, rfl⟩
                go_wp2_with fail
                refine (unhide cD _).mono ?_; rintro e w' ⟨rfl, rfl⟩
                go_wp2_with fail
                go_meet
                exact ⟨by rw [HST.out]; rfl, rfl⟩
            · go_wp2_with fail
              refine (unhide cL _).mono ?_; rintro e w' ⟨rfl, rfl⟩
              go_wp2_with fail
              go_meet
              exact ⟨by rw [HST.out]; rfl, rfl⟩
          case rest =>
            obtain ⟨rfl, rfl⟩ := hcut
            clear cL cD hst
            clear hkb
            go_wp2_with fail
            go_loop [5, 6] (fun p q => ∃ j : Nat, j ≤ 16 ∧ p = .bool (hostTo ch j) ∧ q = .int .i64 j) (fun _ q => 16 - (intOf q).toNat)
            case atStart => exact ⟨0, by omega, rfl, rfl⟩
            case round =>
              obtain ⟨j, hj, rfl, rfl⟩ := hrel
              rcases Nat.lt_or_ge j 16 with hl16 | hg16
              · have hjb : decide ((j : Int) < 16) = true := by rw [decide_eq_true_iff]; omega
                have HT := Lib.hid (hostTo_step ch j hl16)
                have hix := sign_run j hl16
                obtain ⟨b, hb⟩ : ∃ b, hostTo ch j = b := ⟨_, rfl⟩
                rw [hb] at HT ⊢
                clear hb
                cases b
                · obtain ⟨sg, hsg⟩ : ∃ x, signAt j = x := ⟨_, rfl⟩
                  rw [hsg] at HT hix
                  clear hsg
                  cases hq : (sg == ch)
                  · rw [hq] at HT
                    have hn : ¬ ch.toNat = sg.toNat := by
                      intro h
                      rw [UInt8.toNat_inj.1 h] at hq
                      simp at hq
                    have hi : ((ch.toNat : Int) == (sg.toNat : Int)) = false := by rw [beq_cast]; exact decide_eq_false hn
                    clear hq
                    go_wp2_with fail
                    go_round
                    case rel => exact ⟨j + 1, by omega, by rw [HT.out]; rfl, by go_num⟩
                    case measure => simp [intOf]; omega
                  · rw [hq] at HT
                    have hn : ch = sg := (eq_of_beq hq).symm
                    have hi : ((ch.toNat : Int) == (sg.toNat : Int)) = true := by rw [hn]; simp
                    clear hq
                    go_wp2_with fail
                    go_round
                    case rel => exact ⟨j + 1, by omega, by rw [HT.out]; rfl, by go_num⟩
                    case measure => simp [intOf]; omega
                · go_wp2_with fail
                  go_round
                  case rel => exact ⟨j + 1, by omega, by rw [HT.out]; rfl, by go_num⟩
                  case measure => simp [intOf]; omega
              · obtain rfl : j = 16 := by omega
                obtain ⟨b, hb⟩ : ∃ b, hostTo ch 16 = b := ⟨_, rfl⟩
                rw [hb] at HY HN ⊢
                clear hb
                cases b
                · have hr := HR.out
                  rw [unhide HN rfl] at hr
                  replace hr : runN hostI s.data.toList = k := hr
                  have HR1 := Lib.hid hr
                  clear hr HR HN HY
                  by_cases k0 : k = 0
                  · have b0 : ((k : Int) == 0) = true := by rw [k0]; rfl
                    have hP : nameS s.data.toList = -1 := by rw [HSP.out, HR1.out, if_pos k0]
                    have HP := Lib.hid hP
                    clear hP
                    go_wp2_with fail
                    go_ret
                    exact ⟨by rw [HP.out]; rfl, rfl⟩
                  · have b0 : ((k : Int) == 0) = false := by rw [show (0 : Int) = ((0 : Nat) : Int) from rfl, beq_cast]; exact decide_eq_false k0
                    have hP : nameS s.data.toList = (k : Int) := by rw [HSP.out, HR1.out, if_neg k0]
                    have HP := Lib.hid hP
                    clear hP
                    go_wp2_with fail
                    go_ret
                    exact ⟨by rw [HP.out]; rfl, rfl⟩
                · have hr := HR.out
                  rw [unhide HY rfl] at hr
                  have HR1 := Lib.hid hr
                  clear hr HR HN HY
                  go_wp2_with fail
                  go_round
                  case rel => exact ⟨k + 1, by omega, by go_num, by rw [HR1.out]; omega⟩
                  case measure => simp [intOf]; omega
        · have hkb : decide ((k : Int) < (s.size : Int)) = false := decide_eq_false (by omega)
          have hr0 : runN hostI (s.data.toList.drop k) = 0 := by
            rw [List.drop_of_length_le (by rw [HL.out]; omega)]; rfl
          have hr := HR.out
          rw [hr0] at hr
          replace hr : runN hostI s.data.toList = k := hr
          have HR1 := Lib.hid hr
          clear hr hr0 HR
          have hnl : ¬ k < s.size := by omega
          have hkn : decide (k < s.size) = false := decide_eq_false hnl
          by_cases k0 : k = 0
          · have b0 : ((k : Int) == 0) = true := by rw [k0]; rfl
            have hP : nameS s.data.toList = -1 := by rw [HSP.out, HR1.out, if_pos k0]
            have HP := Lib.hid hP
            clear hP
            first
            | (exfalso; omega)
            | (go_wp2_with fail
               go_ret
               exact ⟨by rw [HP.out]; rfl, rfl⟩)
          · have b0 : ((k : Int) == 0) = false := by rw [show (0 : Int) = ((0 : Nat) : Int) from rfl, beq_cast]; exact decide_eq_false k0
            have hP : nameS s.data.toList = (k : Int) := by rw [HSP.out, HR1.out, if_neg k0]
            have HP := Lib.hid hP
            clear hP
            go_wp2_with fail
            go_ret
            exact ⟨by rw [HP.out]; rfl, rfl⟩
end Go.Proofs.YtbpopmbabckojaaGreatDoor.Sp
end

/- The reference's port, Host. -/
section
namespace Go.Proofs.YtbpopmbabckojaaGreatDoor.Sp
open Go.RowKit Sl

def rp (l : List UInt8) : Int := if (portS l).2 = true then (portS l).1 else -1

theorem tail_zero (l : List UInt8) : tailP l 0 = (0, false) := by unfold tailP; rw [if_pos rfl]
theorem name_cases (l : List UInt8) : (nameS l = -1 ∧ rp l = -1) ∨ (∃ m : Nat, 0 < m ∧ m ≤ l.length ∧ nameS l = m ∧ portS l = tailP l m) := by
  unfold nameS rp
  by_cases hp : Lib.hasPrefix l [91] = true
  · rw [if_pos hp]
    have hP : portS l = if brackOK (l.drop 1) then tailP l (runN addrI (l.drop 1) + 2) else (0, false) := by unfold portS; rw [if_pos hp]
    by_cases hb : brackOK (l.drop 1)
    · rw [if_pos hb] at hP ⊢
      refine .inr ⟨runN addrI (l.drop 1) + 2, by omega, ?_, rfl, hP⟩
      have h2 := hb.2.1
      rw [List.length_drop] at h2
      omega
    · rw [if_neg hb] at hP ⊢
      exact .inl ⟨rfl, by rw [hP]; rfl⟩
  · rw [if_neg hp]
    have hP : portS l = tailP l (runN hostI l) := by unfold portS; rw [if_neg hp]
    by_cases h0 : runN hostI l = 0
    · rw [if_pos h0]
      rw [h0, tail_zero] at hP
      exact .inl ⟨rfl, by rw [hP]; rfl⟩
    · rw [if_neg h0]
      exact .inr ⟨_, by omega, runN_le _ _, rfl, hP⟩
theorem tail_end (l : List UInt8) (m : Nat) (h0 : 0 < m) (h : m = l.length) : tailP l m = (0, true) := by
  unfold tailP; rw [if_neg (by omega), if_pos h]
theorem tail_no (s : ByteArray) (m : Nat) (h0 : 0 < m) (h : m < s.size) (hc : s[m].toNat ≠ 58) : (tailP s.data.toList m).2 = false := by
  have hl : s.data.toList.length = s.size := by simp
  unfold tailP
  rw [if_neg (by omega), if_neg (by omega)]
  have hp : Lib.hasPrefix (s.data.toList.drop m) [58] = false := by
    rw [drop_cons s m h]
    have : s[m] ≠ 58 := fun e => hc (by rw [e]; rfl)
    simp [Lib.hasPrefix, List.isPrefixOf, Ne.symm this]
  rw [hp]; rfl
theorem tail_yes (s : ByteArray) (m : Nat) (h0 : 0 < m) (h : m < s.size) (hc : s[m].toNat = 58) :
    tailP s.data.toList m = (((s.size - m - 1 : Nat) : Int), decide (s.size - m - 1 ≤ 5) && decide (runN digI (s.data.toList.drop (m + 1)) = s.size - m - 1)) := by
  have hl : s.data.toList.length = s.size := by simp
  unfold tailP
  rw [if_neg (by omega), if_neg (by omega)]
  have hs : s[m] = 58 := UInt8.toNat_inj.1 (by rw [hc]; rfl)
  have hp : Lib.hasPrefix (s.data.toList.drop m) [58] = true := by
    rw [drop_cons s m h, hs]
    simp [Lib.hasPrefix, List.isPrefixOf]
  have ht : Lib.trimPrefix (s.data.toList.drop m) [58] = s.data.toList.drop (m + 1) := by
    unfold Lib.trimPrefix
    rw [if_pos hp, drop_cons s m h]
    rfl
  have hlen : (s.data.toList.drop (m + 1)).length = s.size - m - 1 := by rw [List.length_drop, hl]; omega
  rw [hp, ht, hlen, Bool.true_and]
theorem digI_eq (c : Int) : digitI c = digI c := rfl

set_option maxRecDepth 100000 in
set_option maxHeartbeats 4000000 in
theorem rport_any (s : ByteArray) (hs : s.size ≤ 1000000) (w : World) :
    Calls Tryz.prog 127 #[.string s] w fun e w' => e = .returned (.int .i64 (rp s.data.toList)) ∧ w = w' := by
  have hl : s.data.toList.length = s.size := by simp
  have HL := Lib.hid hl
  have c0 := hide (fun w => rname_any s hs w)
  rcases name_cases s.data.toList with ⟨h1, h2⟩ | ⟨m, hm0, hm, h1, h2⟩
  · rw [h1] at c0
    have HP := Lib.hid h2
    clear h1 h2 hl
    go_enter Tryz.func127, Tryz.ntmps127
    go_wp2_with fail
    refine (unhide c0 _).mono ?_; rintro e w' ⟨rfl, rfl⟩
    go_wp2_with fail
    go_ret
    exact ⟨by rw [HP.out]; rfl, rfl⟩
  rw [h1] at c0
  rw [hl] at hm
  clear h1
  have bneg : decide ((m : Int) < 0) = false := decide_eq_false (by omega)
  by_cases me : m = s.size
  · have hP : rp s.data.toList = 0 := by unfold rp; rw [h2, tail_end _ m hm0 (by rw [hl]; exact me)]; rfl
    have HP := Lib.hid hP
    have be : ((m : Int) == (s.size : Int)) = true := by rw [beq_cast]; exact decide_eq_true me
    clear hP h2 hl me
    go_enter Tryz.func127, Tryz.ntmps127
    go_wp2_with fail
    refine (unhide c0 _).mono ?_; rintro e w' ⟨rfl, rfl⟩
    go_wp2_with fail
    go_ret
    exact ⟨by rw [HP.out]; rfl, rfl⟩
  have be : ((m : Int) == (s.size : Int)) = false := by rw [beq_cast]; exact decide_eq_false me
  have hlt : m < s.size := by omega
  have hsub : IntKind.i64.wrap (((s.size : Int) - m) - 1) = (s.size : Int) - m - 1 := by rw [IntKind.wrap_i64]; omega
  by_cases hc : s[m].toNat = 58
  rotate_left
  · have hP : rp s.data.toList = -1 := by unfold rp; rw [h2, tail_no s m hm0 hlt hc]; rfl
    have HP := Lib.hid hP
    have bc : ((s[m].toNat : Int) != 58) = true := by rw [bne_iff_ne]; omega
    clear hP h2 hl me hc hsub
    go_enter Tryz.func127, Tryz.ntmps127
    go_wp2_with fail
    refine (unhide c0 _).mono ?_; rintro e w' ⟨rfl, rfl⟩
    go_wp2_with fail
    go_ret
    exact ⟨by rw [HP.out]; rfl, rfl⟩
  have ht := tail_yes s m hm0 hlt hc
  have bc : ((s[m].toNat : Int) != 58) = false := by rw [hc]; rfl
  by_cases h5 : s.size - m - 1 ≤ 5
  rotate_left
  · have hP : rp s.data.toList = -1 := by unfold rp; rw [h2, ht, decide_eq_false h5]; rfl
    have HP := Lib.hid hP
    have b5 : decide ((5 : Int) < (s.size : Int) - (m : Int) - 1) = true := decide_eq_true (by omega)
    clear hP h2 hl me hc ht hsub
    go_enter Tryz.func127, Tryz.ntmps127
    go_wp2_with fail
    refine (unhide c0 _).mono ?_; rintro e w' ⟨rfl, rfl⟩
    go_wp2_with fail
    go_ret
    exact ⟨by rw [HP.out]; rfl, rfl⟩
  have b5 : decide ((5 : Int) < (s.size : Int) - (m : Int) - 1) = false := decide_eq_false (by omega)
  have hR : rp s.data.toList = if runN digI (s.data.toList.drop (m + 1)) = s.size - m - 1 then (s.size : Int) - m - 1 else -1 := by
    unfold rp
    rw [h2, ht, decide_eq_true h5, Bool.true_and]
    by_cases hr : runN digI (s.data.toList.drop (m + 1)) = s.size - m - 1
    · rw [if_pos hr, decide_eq_true hr]
      show ((s.size - m - 1 : Nat) : Int) = _
      omega
    · rw [if_neg hr, decide_eq_false hr]; rfl
  have HRP := Lib.hid hR
  clear hR h2 ht me hc hl hsub
  go_enter Tryz.func127, Tryz.ntmps127
  go_wp2_with fail
  refine (unhide c0 _).mono ?_; rintro e w' ⟨rfl, rfl⟩
  clear c0
  go_wp2_with fail
  go_loop [5] (fun n => ∃ k : Nat, m + 1 ≤ k ∧ k ≤ s.size ∧ n = .int .i64 k ∧ runN digI (s.data.toList.drop (m + 1)) + (m + 1) = k + runN digI (s.data.toList.drop k)) (fun n => s.size - (intOf n).toNat)
  case atStart => exact ⟨m + 1, by omega, by omega, by go_num, by omega⟩
  case round =>
    obtain ⟨k, hk1, hk, rfl, hrun⟩ := hrel
    have HR := Lib.hid hrun
    clear hrun
    rcases Nat.lt_or_ge k s.size with hlt2 | hge
    · have hkb : decide ((k : Int) < (s.size : Int)) = true := by rw [decide_eq_true_iff]; omega
      have HY := hide (run_step (p := digI) s k hlt2)
      have HN := hide (run_stop (p := digI) s k hlt2)
      have c1 := hide (fun w => r1digit_any s[k].toNat w)
      obtain ⟨b, hb⟩ : ∃ b, digI (s[k].toNat : Int) = b := ⟨_, rfl⟩
      rw [digI_eq, hb] at c1
      rw [hb] at HY HN
      clear hb
      cases b
      · have hr := HR.out
        rw [unhide HN rfl] at hr
        replace hr : runN digI (s.data.toList.drop (m + 1)) + (m + 1) = k := hr
        have hP : rp s.data.toList = -1 := by rw [HRP.out, if_neg]; omega
        have HP := Lib.hid hP
        clear hP hr HR HY HN
        go_wp2_with fail
        refine (unhide c1 _).mono ?_; rintro e w' ⟨rfl, rfl⟩
        go_wp2_with fail
        go_ret
        exact ⟨by rw [HP.out]; rfl, rfl⟩
      · have hr := HR.out
        rw [unhide HY rfl] at hr
        have HR1 := Lib.hid hr
        clear hr HR HY HN
        go_wp2_with fail
        refine (unhide c1 _).mono ?_; rintro e w' ⟨rfl, rfl⟩
        go_wp2_with fail
        go_round
        case rel => exact ⟨k + 1, by omega, by omega, by go_num, by rw [HR1.out]; omega⟩
        case measure => simp [intOf]; omega
    · have hkb : decide ((k : Int) < (s.size : Int)) = false := decide_eq_false (by omega)
      have hr0 : runN digI (s.data.toList.drop k) = 0 := by
        rw [List.drop_of_length_le (by rw [HL.out]; omega)]; rfl
      have hr := HR.out
      rw [hr0] at hr
      replace hr : runN digI (s.data.toList.drop (m + 1)) + (m + 1) = k := hr
      have hP : rp s.data.toList = (s.size : Int) - m - 1 := by rw [HRP.out, if_pos]; omega
      have HP := Lib.hid hP
      clear hP hr hr0 HR
      go_wp2_with fail
      go_ret
      exact ⟨by rw [HP.out]; rfl, rfl⟩

theorem rp_nonneg (l : List UInt8) : decide (0 ≤ rp l) = (portS l).2 := by
  have h1 : 0 ≤ (portS l).1 := by
    unfold portS
    have ht : ∀ l n, 0 ≤ (tailP l n).1 := by
      intro l n
      unfold tailP
      split
      · exact Int.le_refl 0
      split
      · exact Int.le_refl 0
      · exact Int.natCast_nonneg _
    split
    · split
      · exact ht _ _
      · exact Int.le_refl 0
    · exact ht _ _
  unfold rp
  cases h : (portS l).2
  · rfl
  · simp only [if_true, decide_eq_true_iff]; exact h1
theorem rhost_any (s : ByteArray) (hs : s.size ≤ 1000000) (w : World) :
    Calls Tryz.prog 106 #[.string s] w fun e w' => e = .returned (.bool (portS s.data.toList).2) ∧ w = w' := by
  have hb := rp_nonneg s.data.toList
  have c0 := hide (fun w => rport_any s hs w)
  obtain ⟨r, hr⟩ : ∃ r, rp s.data.toList = r := ⟨_, rfl⟩
  rw [hr] at hb c0
  clear hr
  rw [← hb]
  clear hb
  go_enter Tryz.func106, Tryz.ntmps106
  go_wp2_with fail
  refine (unhide c0 _).mono ?_; rintro e w' ⟨rfl, rfl⟩
  go_wp2_with fail
  go_ret
  exact ⟨rfl, rfl⟩
end Go.Proofs.YtbpopmbabckojaaGreatDoor.Sp
end
