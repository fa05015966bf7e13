/- The reference's name, port, Host. -/
import Derived.Test.YtfkobhagdjaleaaGreatDoorS10
import Derived.Test.YtfkobhagdjaleaaGreatDoorA7
namespace Go.Proofs.YtfkobhagdjaleaaGreatDoor.Sp
open Go.RowKit Sl

/-! ### plain -/
def nameS (l : List UInt8) : Int :=
  if Lib.hasPrefix l [91] = true then (if brackOK (l.drop 1) then ((runN addrI (l.drop 1) + 2 : Nat) : Int) else -1) else (if runN hostI l = 0 then -1 else ((runN hostI l : Nat) : Int))
def hostTo (c : UInt8) (k : Nat) : Bool := (letterI c.toNat || digitI c.toNat) || (hostSigns.take k).any fun x => x == c
theorem isEmpty_of {s : ByteArray} (h : s.toList = []) : s.toList.isEmpty = true := by rw [h]; rfl
theorem hostTo_all (c : UInt8) : hostTo c 16 = hostI c.toNat := by
  have := byte_all (fun c => hostTo c 16 == hostI c.toNat) (by decide +kernel) c
  simpa using this
def signAt (k : Nat) : UInt8 := hostSigns.getD k 0
theorem hostTo_step (c : UInt8) (k : Nat) (h : k < 16) : hostTo c (k + 1) = (hostTo c k || signAt k == c) := by
  unfold hostTo signAt
  have hl : k < hostSigns.length := h
  rw [List.take_succ_eq_append_getElem hl, List.any_append, List.getD, List.getElem?_eq_getElem hl]
  simp only [List.any_cons, List.any_nil, Bool.or_false, Option.getD_some, Bool.or_assoc]
theorem sign_run (k : Nat) (h : k < 16) (w : World) : (Instr.index 9 (.string ⟨#[45, 46, 95, 126, 33, 36, 38, 39, 40, 41, 42, 43, 44, 59, 61, 37]⟩) (.int .i64 (k : Int))).run Tryz.prog w = .ok (.int .u8 (signAt k).toNat) w := by
  have hk : ∀ k, k < 16 → (⟨#[45, 46, 95, 126, 33, 36, 38, 39, 40, 41, 42, 43, 44, 59, 61, 37]⟩ : ByteArray)[k]? = some (signAt k) := by decide +kernel
  have h2 := hk k h
  simp [Instr.index, run_underlying Tryz.underlying9, asIntOf, go_sem, h2]
theorem run_step {p : Int → Bool} (s : ByteArray) (k : Nat) (h : k < s.size) (hp : p s[k].toNat = true) : runN p (s.data.toList.drop k) = 1 + runN p (s.data.toList.drop (k + 1)) := run_yes (drop_cons s k h) hp
theorem run_stop {p : Int → Bool} (s : ByteArray) (k : Nat) (h : k < s.size) (hp : p s[k].toNat = false) : runN p (s.data.toList.drop k) = 0 := run_no (drop_cons s k h) hp
theorem prefix_91 (s : ByteArray) : Lib.hasPrefix s.data.toList [91] = true ↔ ∃ h : 0 < s.size, (s[0].toNat : Int) = 91 := by
  constructor
  · intro h
    obtain ⟨t, ht⟩ := prefix_pos h
    have hs : 0 < s.size := by rw [size_list ht]; simp
    refine ⟨hs, ?_⟩
    have hd := drop_cons s 0 hs
    rw [List.drop_zero, ht] at hd
    rw [← (List.cons.inj hd).1]; rfl
  · rintro ⟨hs, h⟩
    have hd := drop_cons s 0 hs
    rw [List.drop_zero] at hd
    rw [hd, u8_eq h]
    simp [Lib.hasPrefix, List.isPrefixOf]
theorem getD_at (s : ByteArray) (i : Nat) (h : i < s.size) : s.data.toList.getD i 0 = s[i] := by
  rw [List.getD, List.getElem?_eq_getElem (by simpa using h)]; rfl

set_option maxRecDepth 100000 in
set_option maxHeartbeats 4000000 in
theorem rname_any (s : ByteArray) (hs : s.size ≤ 1000000) (w : World) :
    Calls Tryz.prog 66 #[.string s] w fun e w' => e = .returned (.int .i64 (nameS s.data.toList)) ∧ w = w' := by
  have hl : s.data.toList.length = s.size := by simp
  have HL := Lib.hid hl
  clear hl
  by_cases hp : Lib.hasPrefix s.data.toList [91] = true
  · obtain ⟨h0, h91⟩ := (prefix_91 s).1 hp
    have hspec : nameS s.data.toList = if brackOK (s.data.toList.drop 1) then ((runN addrI (s.data.toList.drop 1) + 2 : Nat) : Int) else -1 := by unfold nameS; rw [if_pos hp]
    have HSP := Lib.hid hspec
    have b91 : ((s[0].toNat : Int) == 91) = true := by rw [h91]; rfl
    have hne : s.toList.isEmpty = false := by
      rcases ne_case s with ⟨_, e2⟩ | ⟨e1, _⟩
      · omega
      · exact e1
    clear hp hspec h91
    go_enter Tryz.func66, Tryz.ntmps66
    go_wp2_with fail
    go_loop [3] (fun n => ∃ k : Nat, 1 ≤ k ∧ k ≤ s.size ∧ n = .int .i64 k ∧ runN addrI (s.data.toList.drop 1) + 1 = k + runN addrI (s.data.toList.drop k)) (fun n => s.size - (intOf n).toNat)
    case atStart => exact ⟨1, by omega, by omega, rfl, by omega⟩
    case round =>
      obtain ⟨k, hk1, hk, rfl, hrun⟩ := hrel
      have HR := Lib.hid hrun
      clear hrun
      rcases Nat.lt_or_ge k s.size with hlt | hge
      · have hkb : decide ((k : Int) < (s.size : Int)) = true := by rw [decide_eq_true_iff]; omega
        have c0 := hide (fun w => r1digit_any s[k].toNat w)
        have HY := hide (run_step (p := addrI) s k hlt)
        have HN := hide (run_stop (p := addrI) s k hlt)
        have hDR : ∀ i, (s.data.toList.drop 1).getD i 0 = s.data.toList.getD (i + 1) 0 := fun i => by
          simp [List.getD, List.getElem?_drop, Nat.add_comm]
        have hgk := getD_at s k hlt
        obtain ⟨c, hc⟩ : ∃ c, s[k].toNat = c := ⟨_, rfl⟩
        have HC := Lib.hid hc
        have HGK := Lib.hid hgk
        have HDR := hide hDR
        rw [hc] at c0 HY HN
        clear hDR hgk
        go_upto_region 4 with fail
        go_cut [59] (fun t wc => t = .bool (addrI (c : Int)) ∧ w = wc)
        case first =>
          cases hdi : digitI (c : Int)
          all_goals
            rw [hdi] at c0
            have HDI := Lib.hid hdi
            clear hdi
            go_wp2_with (go_at_call 58; refine (unhide c0 _).mono ?_; rintro e w' ⟨rfl, rfl⟩)
            all_goals go_meet
            all_goals
              refine ⟨congrArg Value.bool ?_, rfl⟩
              have hd := HDI.out
              unfold digitI at hd
              unfold addrI
              rw [Bool.eq_iff_iff]
              simp only [decide_eq_true_iff, decide_eq_false_iff_not, beq_iff_eq, true_iff, false_iff, Bool.false_eq_true] at hd ⊢
              omega
        case rest =>
          obtain ⟨rfl, rfl⟩ := hcut
          have h1000 : k < 1000000 := by omega
          cases ha : addrI (c : Int)
          · have hN := unhide HN ha
            have hr := HR.out
            rw [hN] at hr
            replace hr : runN addrI (s.data.toList.drop 1) + 1 = k := hr
            have HR1 := Lib.hid hr
            clear hr hN HR HN HY ha c0
            have bl : ((k : Int) == (s.size : Int)) = false := by rw [beq_cast]; exact decide_eq_false (by omega)
            by_cases k1 : k = 1
            · have b1 : ((k : Int) == 1) = true := by rw [k1]; rfl
              have hP : nameS s.data.toList = -1 := by
                rw [HSP.out, if_neg]
                rintro ⟨h, _⟩
                have := HR1.out
                omega
              have HP := Lib.hid hP
              clear hP k1
              go_wp2_with fail
              go_ret
              exact ⟨by rw [HP.out]; rfl, rfl⟩
            have b1 : ((k : Int) == 1) = false := by rw [show (1 : Int) = ((1 : Nat) : Int) from rfl, beq_cast]; exact decide_eq_false k1
            have hgd : (s.data.toList.drop 1).getD (runN addrI (s.data.toList.drop 1)) 0 = s[k] := by
              rw [unhide HDR, HR1.out, HGK.out]
            have hln : (s.data.toList.drop 1).length = s.size - 1 := by rw [List.length_drop, HL.out]
            by_cases hq : c = 93
            · have hP : nameS s.data.toList = (k : Int) + 1 := by
                rw [HSP.out, if_pos]
                · have := HR1.out
                  omega
                · refine ⟨?_, ?_, ?_⟩
                  · have := HR1.out; omega
                  · rw [hln]; have := HR1.out; omega
                  · rw [hgd]; exact UInt8.toNat_inj.1 (by rw [HC.out, hq]; rfl)
              have HP := Lib.hid hP
              have bq : ((c : Int) != 93) = false := by rw [hq]; rfl
              clear hP hgd hln k1 hq
              go_wp2_with fail
              go_ret
              exact ⟨by rw [HP.out]; rfl, rfl⟩
            · have hP : nameS s.data.toList = -1 := by
                rw [HSP.out, if_neg]
                rintro ⟨_, _, h⟩
                rw [hgd] at h
                exact hq (by rw [← HC.out, h]; rfl)
              have HP := Lib.hid hP
              have bq : ((c : Int) != 93) = true := by rw [bne_iff_ne]; omega
              clear hP hgd hln k1 hq
              go_wp2_with fail
              go_ret
              exact ⟨by rw [HP.out]; rfl, rfl⟩
          · have hY := unhide HY ha
            have hr := HR.out
            rw [hY] at hr
            clear HR HN HY ha c0
            have HR1 := Lib.hid hr
            clear hr hY
            go_wp2_with fail
            go_round
            case rel => exact ⟨k + 1, by omega, by omega, by go_num, by rw [HR1.out]; omega⟩
            case measure => simp [intOf]; omega
      · have hkb : decide ((k : Int) < (s.size : Int)) = false := decide_eq_false (by omega)
        have hnl : ¬ k < s.size := by omega
        have hkn : decide (k < s.size) = false := decide_eq_false hnl
        have hke : k = s.size := by omega
        have bl : ((k : Int) == (s.size : Int)) = true := by rw [beq_cast]; exact decide_eq_true hke
        have hr0 : runN addrI (s.data.toList.drop k) = 0 := by
          rw [List.drop_of_length_le (by rw [HL.out]; omega)]; rfl
        have hr := HR.out
        rw [hr0] at hr
        have hP : nameS s.data.toList = -1 := by
          rw [HSP.out, if_neg]
          rintro ⟨_, h, _⟩
          rw [List.length_drop, HL.out] at h
          omega
        have HP := Lib.hid hP
        clear hP hr hr0 HR
        by_cases k1 : k = 1
        · have b1 : ((k : Int) == 1) = true := by rw [k1]; rfl
          clear k1 hke
          go_wp2_with fail
          go_ret
          exact ⟨by rw [HP.out]; rfl, rfl⟩
        · have b1 : ((k : Int) == 1) = false := by rw [show (1 : Int) = ((1 : Nat) : Int) from rfl, beq_cast]; exact decide_eq_false k1
          clear k1 hke
          go_wp2_with fail
          go_ret
          exact ⟨by rw [HP.out]; rfl, rfl⟩
  · have hspec : nameS s.data.toList = if runN hostI s.data.toList = 0 then -1 else ((runN hostI s.data.toList : Nat) : Int) := by unfold nameS; rw [if_neg hp]
    have HSP := Lib.hid hspec
    have hcase : s.toList.isEmpty = true ∨ (s.toList.isEmpty = false ∧ ∃ h : 0 < s.size, ((s[0].toNat : Int) == 91) = false) := by
      rcases ne_case s with ⟨e1, _⟩ | ⟨e1, e2⟩
      · exact .inl (isEmpty_of e1)
      · refine .inr ⟨e1, by omega, ?_⟩
        have h2 : 0 < s.size := by omega
        cases hb : ((s[0].toNat : Int) == 91)
        · rfl
        · exact absurd ((prefix_91 s).2 ⟨h2, by simpa using hb⟩) hp
    clear hp hspec
    rcases hcase with he | ⟨he, h0, b91⟩
    all_goals
      go_enter Tryz.func66, Tryz.ntmps66
      go_wp2_with fail
      go_loop [3] (fun n => ∃ k : Nat, k ≤ s.size ∧ n = .int .i64 k ∧ runN hostI s.data.toList = k + runN hostI (s.data.toList.drop k)) (fun n => s.size - (intOf n).toNat)
      case atStart => exact ⟨0, by omega, rfl, by rw [List.drop_zero]; omega⟩
      case round =>
        obtain ⟨k, hk, rfl, hrun⟩ := hrel
        have HR := Lib.hid hrun
        clear hrun
        have h1000 : k ≤ 1000000 := by omega
        rcases Nat.lt_or_ge k s.size with hlt | hge
        · have hkb : decide ((k : Int) < (s.size : Int)) = true := by rw [decide_eq_true_iff]; omega
          have HY := hide (run_step (p := hostI) s k hlt)
          have HN := hide (run_stop (p := hostI) s k hlt)
          have cL := hide (fun w => letter_any s[k].toNat w)
          have cD := hide (fun w => r1digit_any s[k].toNat w)
          have hst : hostTo s[k] 0 = (letterI s[k].toNat || digitI s[k].toNat) := by simp [hostTo]
          obtain ⟨ch, hch⟩ : ∃ ch, s[k] = ch := ⟨_, rfl⟩
          have hall := hostTo_all ch
          rw [hch] at HY HN cL cD hst
          rw [← hall] at HY HN
          have HCH := Lib.hid hch
          clear hall
          clear HCH
          have go : ∀ b : Bool, b = (letterI ch.toNat || digitI ch.toNat) → True := fun _ _ => trivial
          clear go
          obtain ⟨bL, hbL⟩ : ∃ b, letterI (ch.toNat : Int) = b := ⟨_, rfl⟩
          obtain ⟨bD, hbD⟩ : ∃ b, digitI (ch.toNat : Int) = b := ⟨_, rfl⟩
          rw [hbL] at cL hst
          rw [hbD] at cD hst
          clear hbL hbD
          go_upto_region 11 with fail
          go_cut [5] (fun v wc => v = .bool (hostTo ch 0) ∧ w = wc)
          case first =>
            have HST := Lib.hid hst
            clear hst
            cases bL
            · cases bD
              all_goals
                go_wp2_with fail
                refine (unhide cL _).mono ?_; rintro e w' ⟨rfl, rfl⟩
                go_wp2_with fail
                refine (unhide cD _).mono ?_; rintro e w' ⟨rfl, rfl⟩
                go_wp2_with fail
                go_meet
                exact ⟨by rw [HST.out]; rfl, rfl⟩
            · go_wp2_with fail
              refine (unhide cL _).mono ?_; rintro e w' ⟨rfl, rfl⟩
              go_wp2_with fail
              go_meet
              exact ⟨by rw [HST.out]; rfl, rfl⟩
          case rest =>
            obtain ⟨rfl, rfl⟩ := hcut
            clear cL cD hst
            clear hkb
            go_wp2_with fail
            go_loop [5, 6] (fun p q => ∃ j : Nat, j ≤ 16 ∧ p = .bool (hostTo ch j) ∧ q = .int .i64 j) (fun _ q => 16 - (intOf q).toNat)
            case atStart => exact ⟨0, by omega, rfl, rfl⟩
            case round =>
              obtain ⟨j, hj, rfl, rfl⟩ := hrel
              rcases Nat.lt_or_ge j 16 with hl16 | hg16
              · have hjb : decide ((j : Int) < 16) = true := by rw [decide_eq_true_iff]; omega
                have HT := Lib.hid (hostTo_step ch j hl16)
                have hix := sign_run j hl16
                obtain ⟨b, hb⟩ : ∃ b, hostTo ch j = b := ⟨_, rfl⟩
                rw [hb] at HT ⊢
                clear hb
                cases b
                · obtain ⟨sg, hsg⟩ : ∃ x, signAt j = x := ⟨_, rfl⟩
                  rw [hsg] at HT hix
                  clear hsg
                  cases hq : (sg == ch)
                  · rw [hq] at HT
                    have hn : ¬ ch.toNat = sg.toNat := by
                      intro h
                      rw [UInt8.toNat_inj.1 h] at hq
                      simp at hq
                    have hi : ((ch.toNat : Int) == (sg.toNat : Int)) = false := by rw [beq_cast]; exact decide_eq_false hn
                    clear hq
                    go_wp2_with fail
                    go_round
                    case rel => exact ⟨j + 1, by omega, by rw [HT.out]; rfl, by go_num⟩
                    case measure => simp [intOf]; omega
                  · rw [hq] at HT
                    have hn : ch = sg := (eq_of_beq hq).symm
                    have hi : ((ch.toNat : Int) == (sg.toNat : Int)) = true := by rw [hn]; simp
                    clear hq
                    go_wp2_with fail
                    go_round
                    case rel => exact ⟨j + 1, by omega, by rw [HT.out]; rfl, by go_num⟩
                    case measure => simp [intOf]; omega
                · go_wp2_with fail
                  go_round
                  case rel => exact ⟨j + 1, by omega, by rw [HT.out]; rfl, by go_num⟩
                  case measure => simp [intOf]; omega
              · obtain rfl : j = 16 := by omega
                obtain ⟨b, hb⟩ : ∃ b, hostTo ch 16 = b := ⟨_, rfl⟩
                rw [hb] at HY HN ⊢
                clear hb
                cases b
                · have hr := HR.out
                  rw [unhide HN rfl] at hr
                  replace hr : runN hostI s.data.toList = k := hr
                  have HR1 := Lib.hid hr
                  clear hr HR HN HY
                  by_cases k0 : k = 0
                  · have b0 : ((k : Int) == 0) = true := by rw [k0]; rfl
                    have hP : nameS s.data.toList = -1 := by rw [HSP.out, HR1.out, if_pos k0]
                    have HP := Lib.hid hP
                    clear hP
                    go_wp2_with fail
                    go_ret
                    exact ⟨by rw [HP.out]; rfl, rfl⟩
                  · have b0 : ((k : Int) == 0) = false := by rw [show (0 : Int) = ((0 : Nat) : Int) from rfl, beq_cast]; exact decide_eq_false k0
                    have hP : nameS s.data.toList = (k : Int) := by rw [HSP.out, HR1.out, if_neg k0]
                    have HP := Lib.hid hP
                    clear hP
                    go_wp2_with fail
                    go_ret
                    exact ⟨by rw [HP.out]; rfl, rfl⟩
                · have hr := HR.out
                  rw [unhide HY rfl] at hr
                  have HR1 := Lib.hid hr
                  clear hr HR HN HY
                  go_wp2_with fail
                  go_round
                  case rel => exact ⟨k + 1, by omega, by go_num, by rw [HR1.out]; omega⟩
                  case measure => simp [intOf]; omega
        · have hkb : decide ((k : Int) < (s.size : Int)) = false := decide_eq_false (by omega)
          have hr0 : runN hostI (s.data.toList.drop k) = 0 := by
            rw [List.drop_of_length_le (by rw [HL.out]; omega)]; rfl
          have hr := HR.out
          rw [hr0] at hr
          replace hr : runN hostI s.data.toList = k := hr
          have HR1 := Lib.hid hr
          clear hr hr0 HR
          have hnl : ¬ k < s.size := by omega
          have hkn : decide (k < s.size) = false := decide_eq_false hnl
          by_cases k0 : k = 0
          · have b0 : ((k : Int) == 0) = true := by rw [k0]; rfl
            have hP : nameS s.data.toList = -1 := by rw [HSP.out, HR1.out, if_pos k0]
            have HP := Lib.hid hP
            clear hP
            first
            | (exfalso; omega)
            | (go_wp2_with fail
               go_ret
               exact ⟨by rw [HP.out]; rfl, rfl⟩)
          · have b0 : ((k : Int) == 0) = false := by rw [show (0 : Int) = ((0 : Nat) : Int) from rfl, beq_cast]; exact decide_eq_false k0
            have hP : nameS s.data.toList = (k : Int) := by rw [HSP.out, HR1.out, if_neg k0]
            have HP := Lib.hid hP
            clear hP
            go_wp2_with fail
            go_ret
            exact ⟨by rw [HP.out]; rfl, rfl⟩
end Go.Proofs.YtfkobhagdjaleaaGreatDoor.Sp
