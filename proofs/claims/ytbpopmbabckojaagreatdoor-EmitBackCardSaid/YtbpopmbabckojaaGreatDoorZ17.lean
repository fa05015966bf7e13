/- Lemmas for the statement's proof, several texts in one: S11, Ms, Mm, T4, Bt. -/
import Derived.Test.YtbpopmbabckojaaGreatDoorZ13
import Derived.Test.YtbpopmbabckojaaGreatDoorZ12
import Derived.Test.YtbpopmbabckojaaGreatDoorZ03
import Derived.Test.YtbpopmbabckojaaGreatDoorZ02
import Derived.Test.YtbpopmbabckojaaGreatDoorZ01
import Derived.Test.YtbpopmbabckojaaGreatDoorZ04
import Derived.Laws.BytesArg
import Derived.Test.YtbpopmbabckojaaGreatDoorZ08
import Derived.Maps.AppendAt
set_option linter.unusedVariables false
set_option linter.unusedSimpArgs false
/- The reference's Number of few digits, Request, Status. -/
section
namespace Go.Proofs.YtbpopmbabckojaaGreatDoor.Sp
open Go.RowKit Sl

theorem digitI_B (c : UInt8) : digitI c.toNat = digB c := by
  have := byte_all (fun c => digitI c.toNat == digB c) (by decide +kernel) c
  simpa using this
theorem valN_take (s : ByteArray) (k : Nat) (h : k < s.size) : valN (s.data.toList.take (k + 1)) = valN (s.data.toList.take k) * 10 + (s[k].toNat - 48) := by
  unfold valN
  rw [List.take_succ_eq_append_getElem (by simpa using h), valF_app, valF_cons, valF_nil]
  rfl
theorem valF_lt : ∀ (l : List UInt8) (a : Nat), l.all digB = true → valF a l < (a + 1) * 10 ^ l.length
  | [], a, _ => by rw [valF_nil]; simp
  | c :: r, a, h => by
    rw [List.all_cons, Bool.and_eq_true] at h
    have hc := digB_t h.1
    have ih := valF_lt r (a * 10 + (c.toNat - 48)) h.2
    rw [valF_cons, List.length_cons, Nat.pow_succ, Nat.mul_comm (10 ^ r.length) 10, ← Nat.mul_assoc]
    refine Nat.lt_of_lt_of_le ih (Nat.mul_le_mul_right _ ?_)
    omega

set_option maxRecDepth 100000 in
set_option maxHeartbeats 2000000 in
theorem rnumber_any (s : ByteArray) (hs : s.size ≤ 14) (w : World) :
    Calls Tryz.prog 126 #[.string s] w fun e w' => e = .returned (.tuple #[.int .i64 (numS s.data.toList).1, .int .i64 (numS s.data.toList).2]) ∧ w = w' := by
  have hl : s.data.toList.length = s.size := by simp
  rcases empty_case s with ⟨he, he2⟩ | ⟨he, he2⟩
  · have hn := hide (numS_bad (l := s.data.toList) (by rw [he2]; rfl))
    clear he2 hl
    go_enter Tryz.func126, Tryz.ntmps126
    go_wp2_with fail
    go_ret2
    exact ⟨by rw [unhide hn] <;> rfl, rfl⟩
  · have HL := Lib.hid hl
    have HNE := Lib.hid he2
    clear hl he2
    go_enter Tryz.func126, Tryz.ntmps126
    go_wp2_with fail
    go_loop [4] (fun i => ∃ k : Nat, k ≤ s.size ∧ i = .int .i64 k ∧ (s.data.toList.take k).all digB = true) (fun i => s.size - (intOf i).toNat)
    case atStart => exact ⟨0, Nat.zero_le _, rfl, rfl⟩
    case round =>
      obtain ⟨k, hk, rfl, hall⟩ := hrel
      have HA := Lib.hid hall
      clear hall
      rcases Nat.lt_or_ge k s.size with hlt | hge
      · have hkb : decide ((k : Int) < (s.size : Int)) = true := by rw [decide_eq_true_iff]; omega
        have hN := Lib.hid (all_no (q := digB) s k hlt)
        have hT := Lib.hid (all_take (q := digB) s k hlt)
        have hc := hide (fun w => r1digit_any s[k].toNat w)
        rw [digitI_B] at hc
        cases hq : digB s[k]
        · rw [hq] at hc
          have hn := hide (numS_bad (l := s.data.toList) (by unfold digsS; rw [hN.out hq, Bool.and_false]))
          clear hq
          go_wp2_with (go_at_call 60; refine (unhide hc _).mono ?_; rintro e w1 ⟨rfl, rfl⟩)
          go_ret2
          exact ⟨by rw [unhide hn] <;> rfl, rfl⟩
        · rw [hq] at hc
          have HQ := Lib.hid hq
          clear hq
          go_wp2_with (go_at_call 60; refine (unhide hc _).mono ?_; rintro e w1 ⟨rfl, rfl⟩)
          go_round
          case rel => exact ⟨k + 1, by omega, by go_num, by rw [hT.out, HA.out, HQ.out]; rfl⟩
          case measure => simp [intOf]; omega
      · have hkb : decide ((k : Int) < (s.size : Int)) = false := by rw [decide_eq_false_iff_not]; omega
        have hall : s.data.toList.all digB = true := by
          have := HA.out
          rw [List.take_of_length_le (by rw [HL.out]; exact hge)] at this
          exact this
        have hdig : digsS s.data.toList = true := by
          unfold digsS
          rw [hall, Bool.and_true]
          cases hh : s.data.toList with
          | nil => exact absurd hh HNE.out
          | cons c t => rfl
        have HALL := Lib.hid hall
        have HDIG := Lib.hid hdig
        clear hall hdig HA
        go_wp2_with fail
        go_loop [5, 6] (fun n i => ∃ k : Nat, k ≤ s.size ∧ i = .int .i64 k ∧ n = .int .i64 (valN (s.data.toList.take k) : Nat)) (fun _ i => s.size - (intOf i).toNat)
        case atStart => exact ⟨0, Nat.zero_le _, rfl, by rw [List.take_zero]; unfold valN; rw [valF_nil]; rfl⟩
        case round =>
          obtain ⟨k, hk, rfl, rfl⟩ := hrel
          have hvl : valN (s.data.toList.take k) < 100000000000000 := by
            have h := valF_lt (s.data.toList.take k) 0 (by
              rw [List.all_eq_true]
              intro c hc
              exact List.all_eq_true.1 HALL.out c (List.mem_of_mem_take hc))
            have h2 : (s.data.toList.take k).length ≤ 14 := by rw [List.length_take, HL.out]; omega
            have h3 : 10 ^ (s.data.toList.take k).length ≤ 10 ^ 14 := Nat.pow_le_pow_right (by decide) h2
            unfold valN
            omega
          rcases Nat.lt_or_ge k s.size with hlt | hge
          · have hkb : decide ((k : Int) < (s.size : Int)) = true := by rw [decide_eq_true_iff]; omega
            have hd := digB_t (List.all_eq_true.1 HALL.out s[k] (by rw [show s[k] = s.data.toList[k]'(by simpa using hlt) from rfl]; exact List.getElem_mem _))
            have hstep := valN_take s k hlt
            obtain ⟨D, hD⟩ : ∃ D, s[k].toNat - 48 = D := ⟨_, rfl⟩
            rw [hD] at hstep
            have hD9 : D ≤ 9 := by omega
            have hu : IntKind.u8.wrap ((s[k].toNat : Int) - 48) = (D : Int) := by rw [IntKind.wrap_u8]; omega
            have hu2 : (s[k].toNat : Int) - 48 = (D : Int) := by omega
            obtain ⟨N', hN'⟩ : ∃ N', valN (s.data.toList.take (k + 1)) = N' := ⟨_, rfl⟩
            obtain ⟨N, hN⟩ : ∃ N, valN (s.data.toList.take k) = N := ⟨_, rfl⟩
            rw [hN', hN] at hstep
            rw [hN] at hvl ⊢
            have hsum : 10 * (N : Int) + (D : Int) = (N' : Int) := by omega
            obtain ⟨M, hM⟩ : ∃ M : Nat, (9007199254740991 : Int) - (D : Int) = (M : Int) := ⟨9007199254740991 - D, by omega⟩
            obtain ⟨Q, hQ⟩ : ∃ Q : Nat, M / 10 = Q := ⟨_, rfl⟩
            have hq : Int.tdiv (M : Int) 10 = (Q : Int) := by rw [Int.tdiv_eq_ediv_of_nonneg (by omega)]; omega
            have hQb : Q ≤ 1000000000000000 := by omega
            have hQN : N ≤ Q := by omega
            have hqb : decide ((Q : Int) < (N : Int)) = false := decide_eq_false (by omega)
            have HN' := Lib.hid hN'
            clear hd hstep hD hN hN' hQ
            go_wp2_with fail
            go_round
            case rel => exact ⟨k + 1, by omega, by go_num, by rw [HN'.out]⟩
            case measure => simp [intOf]; omega
          · have hkb : decide ((k : Int) < (s.size : Int)) = false := by rw [decide_eq_false_iff_not]; omega
            have htk : s.data.toList.take k = s.data.toList := List.take_of_length_le (by rw [HL.out]; exact hge)
            rw [htk] at hvl ⊢
            have hn := hide (numS_ok HDIG.out (by omega))
            clear htk
            go_wp2_with fail
            go_ret2
            exact ⟨by rw [unhide hn] <;> rfl, rfl⟩

theorem ver_zero {l : List UInt8} (h : (ver l).2 ≠ 0) : (ver l).1 = 0 := by
  unfold ver at h ⊢
  split
  · rename_i hp
    rw [if_pos hp] at h
    unfold verC at h ⊢
    split
    · rename_i h1
      rw [if_pos h1] at h
      split
      · rfl
      · rename_i h2
        rw [if_neg h2] at h
        exact absurd rfl h
    · rfl
  · rfl

set_option maxRecDepth 100000 in
set_option maxHeartbeats 2000000 in
theorem rrequest_any (s : ByteArray) (hs : s.size ≤ 1000000) (w : World) :
    Calls Tryz.prog 105 #[.string s] w (ReqPost s w) := by
  obtain ⟨m, hm⟩ := of_list (cutS 32 s.data.toList).1
  obtain ⟨r, hr⟩ := of_list (cutS 32 s.data.toList).2.1
  obtain ⟨t, ht⟩ := of_list (cutS 32 r.data.toList).1
  obtain ⟨v, hv⟩ := of_list (cutS 32 r.data.toList).2.1
  have hl := cutS_len 32 s.data.toList
  have hl2 := cutS_len 32 r.data.toList
  have sm := size_list hm
  have sr := size_list hr
  have st := size_list ht
  have sv := size_list hv
  have zs : s.data.toList.length = s.size := by simp
  have zr : r.data.toList.length = r.size := by simp
  have hrs : r.size ≤ 1000000 := by omega
  have hms : m.size ≤ 1000000 := by omega
  have hts : t.size ≤ 1000000 := by omega
  have hvs : v.size ≤ 1000000 := by omega
  clear sm sr st sv zs zr hl hl2
  obtain ⟨ok, hok⟩ : ∃ b, b = (cutS 32 s.data.toList).2.2 := ⟨_, rfl⟩
  obtain ⟨is, his⟩ : ∃ b, b = (cutS 32 r.data.toList).2.2 := ⟨_, rfl⟩
  have hO : reqOK s.data.toList = (ok && is && tokenS m.data.toList && seenS t.data.toList) := by
    unfold reqOK; rw [← hr, ← hm, ← ht, ← hok, ← his]
  have hV : reqV s.data.toList = ver v.data.toList := by unfold reqV; rw [← hr, ← hv]
  have c1 := hide (fun w => rcut_any s m r ok hm hr hok (by omega) w)
  have c2 := hide (fun w => rcut_any r t v is ht hv his (by omega) w)
  have c3 := hide (fun w => rtoken_any m (by omega) w)
  have c4 := hide (fun w => rseen_any t (by omega) w)
  have c5 := hide (fun w => rver_any v (by omega) w)
  have HO := Lib.hid hO
  have HV := Lib.hid hV
  have E1 := Lib.hid hm
  have E2 : Hid (t.data.toList = (cutS 32 (cutS 32 s.data.toList).2.1).1) := Lib.hid (by rw [ht, hr])
  clear hO hV hm hr ht hv hok his
  go_enter Tryz.func105, Tryz.ntmps105
  go_wp2_with fail
  refine (unhide c1 _).mono ?_; rintro e w1 ⟨rfl, hb1⟩
  go_wp2_with fail
  refine (unhide c2 _).mono ?_; rintro e w2 ⟨rfl, hb2⟩
  have hb := hb1.trans (hb2.mono hb1.size)
  clear hb1 hb2 c1 c2
  cases ok
  · go_wp2_with fail
    refine bodyPost_ret (Mem.results_tmp4 Tryz.results105 _ _ _) rfl ?_
    exact req_bad s w _ (by rw [HO.out]; rfl) hb
  cases is
  · go_wp2_with fail
    refine bodyPost_ret (Mem.results_tmp4 Tryz.results105 _ _ _) rfl ?_
    exact req_bad s w _ (by rw [HO.out]; rfl) hb
  go_wp2_with fail
  refine (unhide c3 _).mono ?_; rintro e w3 ⟨rfl, rfl⟩
  cases hT : tokenS m.data.toList
  · go_wp2_with fail
    refine bodyPost_ret (Mem.results_tmp4 Tryz.results105 _ _ _) rfl ?_
    exact req_bad s w _ (by rw [HO.out, hT]; rfl) hb
  go_wp2_with fail
  refine (unhide c4 _).mono ?_; rintro e w4 ⟨rfl, rfl⟩
  cases hS : seenS t.data.toList
  · go_wp2_with fail
    refine bodyPost_ret (Mem.results_tmp4 Tryz.results105 _ _ _) rfl ?_
    exact req_bad s w _ (by rw [HO.out, hT, hS]; rfl) hb
  have hO : reqOK s.data.toList = true := by rw [HO.out, hT, hS]; rfl
  have HO2 := Lib.hid hO
  clear hT hS hO HO
  go_wp2_with fail
  refine (unhide c5 _).mono ?_; rintro e w5 ⟨rfl, rfl⟩
  by_cases h0 : (ver v.data.toList).2 = 0
  · have H0 := Lib.hid h0
    have h0' : ((ver v.data.toList).2 != 0) = false := by rw [h0]; rfl
    have hq := Lib.hid (req_ok s m t _ w _ HO2.out HV.out h0 E1.out E2.out hb)
    rw [h0] at hq
    clear h0
    go_wp2_with fail
    refine bodyPost_ret (Mem.results_tmp4 Tryz.results105 _ _ _) rfl ?_
    exact hq.out
  · have h0' : ((ver v.data.toList).2 != 0) = true := by rw [bne_iff_ne]; exact h0
    have hq := Lib.hid (req_ver s _ w _ HO2.out HV.out h0 hb)
    rw [ver_zero h0] at hq
    clear h0
    go_wp2_with fail
    refine bodyPost_ret (Mem.results_tmp4 Tryz.results105 _ _ _) rfl ?_
    exact hq.out

set_option maxRecDepth 100000 in
set_option maxHeartbeats 4000000 in
theorem rstatus_any (s : ByteArray) (hs : s.size ≤ 1000000) (w : World) :
    Calls Tryz.prog 104 #[.string s] w (StPost s w) := by
  obtain ⟨v, hv⟩ := of_list (cutS 32 s.data.toList).1
  obtain ⟨r, hr⟩ := of_list (cutS 32 s.data.toList).2.1
  obtain ⟨d, hd⟩ := of_list (cutS 32 r.data.toList).1
  obtain ⟨y, hy⟩ := of_list (cutS 32 r.data.toList).2.1
  have hl := cutS_len 32 s.data.toList
  have hl2 := cutS_len 32 r.data.toList
  have sv := size_list hv
  have sr := size_list hr
  have sd := size_list hd
  have sy := size_list hy
  have zs : s.data.toList.length = s.size := by simp
  have zr : r.data.toList.length = r.size := by simp
  have zd : d.size ≤ 1000000 := by omega
  have zy : y.size ≤ 1000000 := by omega
  have zv : v.size ≤ 1000000 := by omega
  have zrs : r.size ≤ 1000000 := by omega
  obtain ⟨ok, hok⟩ : ∃ b, b = (cutS 32 s.data.toList).2.2 := ⟨_, rfl⟩
  obtain ⟨is, his⟩ : ∃ b, b = (cutS 32 r.data.toList).2.2 := ⟨_, rfl⟩
  obtain ⟨bad, hbad⟩ : ∃ b, b = (ver v.data.toList).2 := ⟨_, rfl⟩
  obtain ⟨mi, hmi⟩ : ∃ b, b = (ver v.data.toList).1 := ⟨_, rfl⟩
  obtain ⟨n, hn⟩ : ∃ b, b = (numS d.data.toList).1 := ⟨_, rfl⟩
  obtain ⟨er, her⟩ : ∃ b, b = (numS d.data.toList).2 := ⟨_, rfl⟩
  obtain ⟨vb, hvb⟩ : ∃ b, b = allS chr y.data.toList := ⟨_, rfl⟩
  have hO : stOK s.data.toList ↔ (ok = true ∧ is = true ∧ bad = 0 ∧ er = 0 ∧ d.size = 3 ∧ 100 ≤ n ∧ n ≤ 599 ∧ vb = true) := by
    have e1 : stRest s.data.toList = r.data.toList := hr.symm
    unfold stOK stDig stWhy stV
    rw [e1, ← hd, ← hy, ← hv, ← hok, ← his, ← hbad, ← her, ← hn, ← hvb, show d.data.toList.length = d.size by simp]
  have c1 := hide (fun w => rcut_any s v r ok hv hr hok (by omega) w)
  have c2 := hide (fun w => rcut_any r d y is hd hy his (by omega) w)
  have c3 := hide (fun w => rver_any v (by omega) w)
  rw [← hbad, ← hmi] at c3
  have c4 := hide (fun h3 w => rnumber_any d h3 w)
  rw [← hn, ← her] at c4
  have c5 := hide (fun w => chars_any y (by omega) w)
  rw [← hvb] at c5
  have HO := hide hO
  have E1 := Lib.hid (show mi = (ver (stV s.data.toList)).1 by rw [hmi, hv]; rfl)
  have E2 := Lib.hid (show n = (numS (stDig s.data.toList)).1 by rw [hn, hd, hr]; rfl)
  have E3 := Lib.hid (show y.data.toList = stWhy s.data.toList by rw [hy, hr]; rfl)
  clear hO hv hr hd hy hl hl2 sv sr sd sy zs zr hok his hbad hmi hn her hvb zrs zy zv
  go_enter Tryz.func104, Tryz.ntmps104
  go_wp2_with fail
  refine (unhide c1 _).mono ?_; rintro e w1 ⟨rfl, hb1⟩
  go_wp2_with fail
  refine (unhide c3 _).mono ?_; rintro e w2 ⟨rfl, rfl⟩
  go_wp2_with fail
  refine (unhide c2 _).mono ?_; rintro e w3 ⟨rfl, hb3⟩
  replace hb3 := hb1.trans (hb3.mono hb1.size)
  clear hb1
  have hno : ∀ P : Prop, (stOK s.data.toList → P) → ¬ P → Hid (¬ stOK s.data.toList) := fun P h k => hide fun g => k (h g)
  cases ok
  · have HN := hno _ (fun g => ((unhide HO).1 g).1) (by decide)
    go_wp2_with fail
    refine bodyPost_ret (Mem.results_tmp4 Tryz.results104 _ _ _) rfl ?_
    exact stp_no s w _ (unhide HN) hb3
  cases is
  · have HN := hno _ (fun g => ((unhide HO).1 g).2.1) (by decide)
    go_wp2_with fail
    refine bodyPost_ret (Mem.results_tmp4 Tryz.results104 _ _ _) rfl ?_
    exact stp_no s w _ (unhide HN) hb3
  by_cases h3 : bad = 0
  rotate_left
  · have HN := hno _ (fun g => ((unhide HO).1 g).2.2.1) h3
    have b3 : (bad != 0) = true := by rw [bne_iff_ne]; exact h3
    clear h3 hno
    go_wp2_with fail
    refine bodyPost_ret (Mem.results_tmp4 Tryz.results104 _ _ _) rfl ?_
    exact stp_no s w _ (unhide HN) hb3
  have b3 : (bad != 0) = false := by rw [h3]; rfl
  by_cases h5 : d.size = 3
  rotate_left
  · have HN := hno _ (fun g => ((unhide HO).1 g).2.2.2.2.1) h5
    have b5 : ((d.size : Int) != 3) = true := by rw [bne_iff_ne]; omega
    clear h3 h5 hno
    go_wp2_with fail
    refine bodyPost_ret (Mem.results_tmp4 Tryz.results104 _ _ _) rfl ?_
    exact stp_no s w _ (unhide HN) hb3
  have b5 : ((d.size : Int) != 3) = false := by rw [h5]; rfl
  have c4' := hide (unhide c4 (by omega))
  have H3 := Lib.hid h3
  have H5 := Lib.hid h5
  clear c4 h3 h5
  cases vb
  · have HN := hno _ (fun g => ((unhide HO).1 g).2.2.2.2.2.2.2) (by decide)
    clear hno
    go_wp2_with fail
    refine (unhide c5 _).mono ?_; rintro e w4 ⟨rfl, rfl⟩
    go_wp2_with fail
    refine bodyPost_ret (Mem.results_tmp4 Tryz.results104 _ _ _) rfl ?_
    exact stp_no s w _ (unhide HN) hb3
  go_wp2_with fail
  refine (unhide c5 _).mono ?_; rintro e w4 ⟨rfl, rfl⟩
  go_wp2_with fail
  refine (unhide c4' _).mono ?_; rintro e w5 ⟨rfl, rfl⟩
  by_cases h4 : er = 0
  rotate_left
  · have HN := hno _ (fun g => ((unhide HO).1 g).2.2.2.1) h4
    have b4 : (er != 0) = true := by rw [bne_iff_ne]; exact h4
    clear h4 hno
    go_wp2_with fail
    refine bodyPost_ret (Mem.results_tmp4 Tryz.results104 _ _ _) rfl ?_
    exact stp_no s w _ (unhide HN) hb3
  have b4 : (er != 0) = false := by rw [h4]; rfl
  by_cases h6 : 100 ≤ n
  rotate_left
  · have HN := hno _ (fun g => ((unhide HO).1 g).2.2.2.2.2.1) h6
    have b6 : decide (n < 100) = true := decide_eq_true (by omega)
    clear h4 h6 hno
    go_wp2_with fail
    refine bodyPost_ret (Mem.results_tmp4 Tryz.results104 _ _ _) rfl ?_
    exact stp_no s w _ (unhide HN) hb3
  have b6 : decide (n < 100) = false := decide_eq_false (by omega)
  by_cases h7 : n ≤ 599
  rotate_left
  · have HN := hno _ (fun g => ((unhide HO).1 g).2.2.2.2.2.2.1) h7
    have b7 : decide (599 < n) = true := decide_eq_true (by omega)
    clear h4 h6 h7 hno
    go_wp2_with fail
    refine bodyPost_ret (Mem.results_tmp4 Tryz.results104 _ _ _) rfl ?_
    exact stp_no s w _ (unhide HN) hb3
  have b7 : decide (599 < n) = false := decide_eq_false (by omega)
  have HY := hide ((unhide HO).2 ⟨by trivial, by trivial, H3.out, h4, H5.out, h6, h7, by trivial⟩)
  clear h4 hno
  go_wp2_with fail
  refine bodyPost_ret (Mem.results_tmp4 Tryz.results104 _ _ _) rfl ?_
  exact stp_ok s y _ _ w _ (unhide HY) E1.out E2.out E3.out hb3
end Go.Proofs.YtbpopmbabckojaaGreatDoor.Sp
end

/- A message's eight cells. -/
section
namespace Go.Proofs.YtbpopmbabckojaaGreatDoor.Sp
open Go.RowKit

/-- a message's eight cells -/
def msgV (me ta : ByteArray) (st : Int) (re : ByteArray) (mi : Int) (fs : Value) (bo : ByteArray) (tr : Value) : Array Value := #[.string me, .string ta, .int .i64 st, .string re, .int .i64 mi, fs, .string bo, tr]
end Go.Proofs.YtbpopmbabckojaaGreatDoor.Sp
end

/- A message in a block: loaded, stored. -/
section
namespace Go.Proofs.YtbpopmbabckojaaGreatDoor.Sp
open Go.RowKit

def zeroM : List Value := [.string ⟨#[]⟩, .string ⟨#[]⟩, .int .i64 0, .string ⟨#[]⟩, .int .i64 0, .slice none 0 0, .string ⟨#[]⟩, .slice none 0 0]
section
variable {ops : Array Oper} {rest : List Oper} {o : Oper} {a : Act} {w : World} {Q : Exit → Act → World → Prop}
theorem infoM : (Tryz.prog.info? 24).map (·.size) = some 8 := by kernel_rfl
theorem wpList_loadM (hgd : o.guard = none) (x : Operand) (ho : o.op = .load 24 x) (b : Nat) (hx : a.eval x = .pointer (some ⟨b, 0, none⟩)) (vs : List Value) (hl : vs.length = 8) (H : Reg.Has w b vs)
    (h : wpList Tryz.prog ops Q rest (a.put o.dst (.agg vs.toArray)) w) : wpList Tryz.prog ops Q (o :: rest) a w :=
  wpList_load_mid hgd 24 x ho b 0 hx vs _ (has_range H) Tryz.underlying24 rfl (by rw [infoM, hl]) h
theorem wpList_storeM (hgd : o.guard = none) (x y : Operand) (ho : o.op = .store 24 x y) (b : Nat) (hx : a.eval x = .pointer (some ⟨b, 0, none⟩)) (cells : Array Value) (hc : cells.size = 8) (hy : a.eval y = .agg cells) (old : List Value) (hl : old.length = 8) (H : Reg.Has w b old) (h1 : cells.all (·.oneCell') = true)
    (h : Reg.Has (w.setCells b 0 cells.toList) b cells.toList → wpList Tryz.prog ops Q rest (a.put o.dst undef) (w.setCells b 0 cells.toList)) : wpList Tryz.prog ops Q (o :: rest) a w := by
  have ht : w.there b 0 cells.size := by have := has_there H; rw [hl] at this; rw [hc]; exact this
  exact wpList_store_mid hgd 24 x y ho b 0 cells hx hy ht (by rw [infoM, hc]) h1 (h (has_setCells (by simp) ht H.lt (fun o w => size_setCells _ _ _ _)))
theorem run_loadM (b : Nat) (cells : Array Value) (hc : cells.size = 8) (H : Reg.Has w b cells.toList) : (loadVar 24 ⟨b, 0, none⟩).run Tryz.prog w = .ok (.agg cells) w :=
  run_loadVar_mid (P := Tryz.prog) w b 0 24 cells.toList _ (has_range H) Tryz.underlying24 rfl (by rw [infoM]; simp [hc])
end
end Go.Proofs.YtbpopmbabckojaaGreatDoor.Sp
end

/- Bytes: one more on a row of the call's own; the text of such a row. -/
section
namespace Go.Proofs.YtbpopmbabckojaaGreatDoor.Sp
open Go.RowKit Sl

section
variable {ops : Array Oper} {rest : List Oper} {o : Oper} {a : Act} {w : World} {Q : Exit → Act → World → Prop}
theorem bytesV_app (x y : List UInt8) : Mem.bytesV (x ++ y) = Mem.bytesV x ++ Mem.bytesV y := by unfold Mem.bytesV; rw [List.map_append]
/-- append(out, c): c was laid in a new block just before. -/
theorem wpList_pushB {wr w0 : World} (hgd : o.guard = none) (s x : Operand) (ho : o.op = .call { callee := .builtin .append, args := #[s, x], argTypes := #[66, 66] })
    (base : Nat) (v : Value) (n : Nat) (L : List UInt8) (hs : a.eval s = v) (hown : Own w0 wr base 5 1 v n (Mem.bytesV L)) (c : UInt8) (hw : w = wr.alloc (.cells #[.int .u8 c.toNat] 5))
    (cp : Nat) (hx : a.eval x = .slice (some ⟨wr.heap.size, 0, none⟩) 1 cp) (hn : n ≤ 1000000)
    (h : ∀ v' w1, Own w0 w1 base 5 1 v' (n + 1) (Mem.bytesV (L ++ [c])) → wpList Tryz.prog ops Q rest (a.put o.dst v') w1) : wpList Tryz.prog ops Q (o :: rest) a w := by
  obtain ⟨i, hi, hz, h1, h2⟩ := info_parts (P := Tryz.prog) (e := 5) (z := .int .u8 0) (size := 1) (bytes := 1) (by kernel_rfl)
  refine wpList_push hgd s x 66 ho base 5 i _ 1 1 Tryz.underlying66 hi hz h1 h2 rfl (by decide) v n _ hs hown [.int .u8 c.toNat] (by rw [hw]) rfl (by intro u hu; simp at hu; subst hu; rfl) cp hx (by omega) (by unfold maxLen; omega) (fun v' w1 h3 => h v' w1 ?_)
  rw [bytesV_app]
  exact h3
/-- append(out, c, d): both were laid in a new block just before. -/
theorem wpList_pushB2 {wr w0 : World} (hgd : o.guard = none) (s x : Operand) (ho : o.op = .call { callee := .builtin .append, args := #[s, x], argTypes := #[66, 66] })
    (base : Nat) (v : Value) (n : Nat) (L : List UInt8) (hs : a.eval s = v) (hown : Own w0 wr base 5 1 v n (Mem.bytesV L)) (c d : UInt8) (hw : w = wr.alloc (.cells #[.int .u8 c.toNat, .int .u8 d.toNat] 5))
    (cp : Nat) (hx : a.eval x = .slice (some ⟨wr.heap.size, 0, none⟩) 2 cp) (hcp : 2 ≤ cp) (hn : n ≤ 1000000)
    (h : ∀ v' w1, Own w0 w1 base 5 1 v' (n + 2) (Mem.bytesV (L ++ [c, d])) → wpList Tryz.prog ops Q rest (a.put o.dst v') w1) : wpList Tryz.prog ops Q (o :: rest) a w := by
  obtain ⟨i, hi, hz, h1, h2⟩ := info_parts (P := Tryz.prog) (e := 5) (z := .int .u8 0) (size := 1) (bytes := 1) (by kernel_rfl)
  subst hw
  have hA := hown.alloc (.cells #[.int .u8 c.toNat, .int .u8 d.toNat] 5)
  refine wpList_pushAll hgd s x 66 ho base 5 i _ 1 1 Tryz.underlying66 hi hz h1 h2 rfl (by decide) v n _ hs hA _ 2 (Mem.bytesV [c, d]) ?_ hx (by intro u hu; simp [Mem.bytesV] at hu; rcases hu with rfl | rfl <;> rfl) (by omega) (by unfold maxLen; omega) (fun v' w1 h3 => h v' w1 ?_)
  · refine ⟨_, _, rfl, hcp, (fun h => by cases h), rfl, fun _ => ⟨wr.heap.size, 0, rfl, by simp, fun i u hu => ?_⟩⟩
    rw [World.cell?_alloc_at _ _ _ _ rfl, Nat.zero_add]
    simpa [Mem.bytesV] using hu
  · rw [bytesV_app]
    exact h3
end

/-- the text of a row of bytes of the call's own -/
theorem run_text_own {w : World} {base : Nat} {v : Value} {n : Nat} {L : List UInt8} (h : w.ownsRow base 5 1 v n (Mem.bytesV L)) : (convert 66 9 v).run Tryz.prog w = .ok (.string ⟨L.toArray⟩) w := by
  have hl : L.length = n := by
    have := (Rd.own h).len
    rw [Mem.bytesV_len] at this
    omega
  have hr := Rd.own h
  rcases h with ⟨_, ⟨rfl, rfl⟩ | ⟨g, cap, cur, rfl, hb, hh, hnc, hcm, hcs, ht⟩⟩
  · obtain rfl : L = [] := List.eq_nil_of_length_eq_zero hl
    have := run_convert_bytes_nil (P := Tryz.prog) (w := w) 66 5 Tryz.underlying66 Tryz.underlying5 0 0 9 Tryz.underlying9
    exact this
  · subst hl
    refine Mem.run_text 66 5 9 Tryz.underlying66 Tryz.underlying5 Tryz.underlying9 g 0 cap L (fun i v hv => ?_)
    rw [Nat.zero_add, cell_of_row w g i cur _ (0, 0) hh]
    rw [← ht, List.getElem?_take] at hv
    split at hv
    · rw [← hv]; simp
    · cases hv
end Go.Proofs.YtbpopmbabckojaaGreatDoor.Sp
end

/- What a call may write: all blocks but some are as they were; a field more in a row of fields, where the new row lies. -/
section
namespace Go.Proofs.YtbpopmbabckojaaGreatDoor.Sp
open Go.RowKit Sl

/-- Blocks that are not in S are as they were. -/
structure But (S : Nat → Prop) (w w' : World) : Prop where
  os : w'.os = w.os
  tape : w'.tape = w.tape
  output : w'.output = w.output
  size : w.heap.size ≤ w'.heap.size
  block : ∀ k, k < w.heap.size → ¬ S k → w'.heap[k]? = w.heap[k]?

section
variable {S S' : Nat → Prop} {w w' w1 w2 : World}
theorem But.refl (S : Nat → Prop) (w : World) : But S w w := ⟨rfl, rfl, rfl, Nat.le_refl _, fun _ _ _ => rfl⟩
theorem But.of_below (h : Below w.heap.size w w') : But S w w' := ⟨h.os, h.tape, h.output, h.size, fun k hk _ => h.block k hk⟩
theorem But.trans (h : But S w w1) (k : But S' w1 w2) (hs : ∀ i, i < w.heap.size → S' i → S i) : But S w w2 :=
  ⟨k.os.trans h.os, k.tape.trans h.tape, k.output.trans h.output, Nat.le_trans h.size k.size, fun i hi hn => (k.block i (Nat.lt_of_lt_of_le hi h.size) (fun e => hn (hs i hi e))).trans (h.block i hi hn)⟩
theorem But.more (h : But S w w1) (k : Below w1.heap.size w1 w2) : But S w w2 := h.trans (S' := fun _ => False) (But.of_below k) (fun _ _ e => e.elim)
theorem But.set (S : Nat → Prop) (w : World) {p : Addr} (hp : S p.block) (u : Value) : But S w (w.setCell p u) :=
  ⟨rfl, rfl, rfl, by simp [World.setCell], fun k _ hn => Below.heap_setCell _ _ _ _ (fun e => hn (e ▸ hp))⟩
theorem But.grown {row : Option Nat} (hg : w.grownBy w' row) (hr : ∀ k, row = some k → S k) : But S w w' :=
  ⟨hg.os, hg.tape, hg.output, hg.size, fun k hk hn => hg.block k hk (fun e => hn (hr k e.symm))⟩
theorem But.below {B : Nat} (h : But S w w') (hB : B ≤ w.heap.size) (hn : ∀ k, S k → B ≤ k) : Below B w w' :=
  ⟨h.os, h.tape, h.output, h.size, fun k hk => h.block k (by omega) (fun e => by have := hn k e; omega)⟩
theorem But.cell (h : But S w w') {p : Addr} {v : Value} (hc : w.cell? p = some v) (hn : ¬ S p.block) : w'.cell? p = some v :=
  (World.cell?_of_block (w := w) (h.block p.block (World.block_lt_of_cell? w p hc) hn)).trans hc
theorem But.has {b : Nat} {vs : List Value} (h : But S w w') (H : Reg.Has w b vs) (hn : ¬ S b) : Reg.Has w' b vs :=
  ⟨fun i v hv => (World.cell?_of_block (w := w) (a := ⟨b, i, none⟩) (h.block b H.lt hn)).trans (H.cell i v hv), fun i hi => (World.frozen?_of_block (w := w) (a := ⟨b, i, none⟩) (h.block b H.lt hn)).trans (H.free i hi), Nat.lt_of_lt_of_le H.lt h.size⟩
theorem But.own {base : Nat} {e : TypeId} {sz : Nat} {v : Value} {n : Nat} {xs : List Value} (h : But S w w') (H : w.ownsRow base e sz v n xs) (hn : ∀ k, v.ownBlock = some k → ¬ S k) : w'.ownsRow base e sz v n xs := by
  refine ⟨H.1, ?_⟩
  rcases H.2 with hh | ⟨g, cap, cur, rfl, hb, hgg, rest⟩
  · exact .inl hh
  · refine .inr ⟨g, cap, cur, rfl, hb, ?_, rest⟩
    rw [h.block g (Array.getElem?_eq_some_iff.1 hgg).1 (hn g rfl)]
    exact hgg
end

section
variable {ops : Array Oper} {rest : List Oper} {o : Oper} {a : Act} {w : World} {Q : Exit → Act → World → Prop}
/-- append(out, f): f lies in block g0; where the new row lies. -/
theorem wpList_pushFW (hgd : o.guard = none) (s x : Operand) (ho : o.op = .call { callee := .builtin .append, args := #[s, x], argTypes := #[22, 22] })
    (base : Nat) (v : Value) (L : List Fld) (hs : a.eval s = v) (hown : w.ownsRow base 55 2 v L.length (fldV L)) (f : Fld) (g0 cp : Nat) (hf : Reg.Has w g0 [.string f.1, .string f.2])
    (hx : a.eval x = .slice (some ⟨g0, 0, none⟩) 1 cp) (hn : L.length ≤ 1000000) (hbase : base ≤ w.heap.size)
    (h : ∀ v' w1, w1.ownsRow base 55 2 v' (L.length + 1) (fldV (L ++ [f])) → w.grownBy w1 v.ownBlock → (v'.ownBlock = v.ownBlock ∨ v'.ownBlock = some w.heap.size) → wpList Tryz.prog ops Q rest (a.put o.dst v') w1) : wpList Tryz.prog ops Q (o :: rest) a w := by
  obtain ⟨i, hi, hz, h1, h2⟩ := info_parts (P := Tryz.prog) (e := 55) (z := .agg #[.string ⟨#[]⟩, .string ⟨#[]⟩]) (size := 2) (bytes := 32) (by kernel_rfl)
  refine wpList_append_own_at w hgd s x 22 ho base 55 i _ 2 32 Tryz.underlying22 hi hz h1 h2 rfl (by decide) v L.length _ hs hown ⟨g0, 0, none⟩ 1 cp [.string f.1, .string f.2] hx rfl (fun j u hu => ?_) (by intro u hu; simp at hu; rcases hu with rfl | rfl <;> rfl) (by unfold maxLen; omega) (by omega) hbase (fun v' w1 g1 g2 _ g4 => h v' w1 ?_ g2 g4)
  · rw [Addr.add_mid, Nat.zero_add]
    exact hf.cell j u hu
  · rw [show fldV (L ++ [f]) = fldV L ++ [.string f.1, .string f.2] by simp [fldV]]
    exact g1
end
end Go.Proofs.YtbpopmbabckojaaGreatDoor.Sp
end
