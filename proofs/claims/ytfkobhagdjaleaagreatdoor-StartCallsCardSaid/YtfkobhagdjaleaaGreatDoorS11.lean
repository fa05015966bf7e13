/- The reference's Number of few digits, Request, Status. -/
import Derived.Test.YtfkobhagdjaleaaGreatDoorS10
import Derived.Test.YtfkobhagdjaleaaGreatDoorS4
import Derived.Test.YtfkobhagdjaleaaGreatDoorCh
namespace Go.Proofs.YtfkobhagdjaleaaGreatDoor.Sp
open Go.RowKit Sl

theorem digitI_B (c : UInt8) : digitI c.toNat = digB c := by
  have := byte_all (fun c => digitI c.toNat == digB c) (by decide +kernel) c
  simpa using this
theorem valN_take (s : ByteArray) (k : Nat) (h : k < s.size) : valN (s.data.toList.take (k + 1)) = valN (s.data.toList.take k) * 10 + (s[k].toNat - 48) := by
  unfold valN
  rw [List.take_succ_eq_append_getElem (by simpa using h), valF_app, valF_cons, valF_nil]
  rfl
theorem valF_lt : ∀ (l : List UInt8) (a : Nat), l.all digB = true → valF a l < (a + 1) * 10 ^ l.length
  | [], a, _ => by rw [valF_nil]; simp
  | c :: r, a, h => by
    rw [List.all_cons, Bool.and_eq_true] at h
    have hc := digB_t h.1
    have ih := valF_lt r (a * 10 + (c.toNat - 48)) h.2
    rw [valF_cons, List.length_cons, Nat.pow_succ, Nat.mul_comm (10 ^ r.length) 10, ← Nat.mul_assoc]
    refine Nat.lt_of_lt_of_le ih (Nat.mul_le_mul_right _ ?_)
    omega

set_option maxRecDepth 100000 in
set_option maxHeartbeats 2000000 in
theorem rnumber_any (s : ByteArray) (hs : s.size ≤ 14) (w : World) :
    Calls Tryz.prog 34 #[.string s] w fun e w' => e = .returned (.tuple #[.int .i64 (numS s.data.toList).1, .int .i64 (numS s.data.toList).2]) ∧ w = w' := by
  have hl : s.data.toList.length = s.size := by simp
  rcases empty_case s with ⟨he, he2⟩ | ⟨he, he2⟩
  · have hn := hide (numS_bad (l := s.data.toList) (by rw [he2]; rfl))
    clear he2 hl
    go_enter Tryz.func34, Tryz.ntmps34
    go_wp2_with fail
    go_ret2
    exact ⟨by rw [unhide hn] <;> rfl, rfl⟩
  · have HL := Lib.hid hl
    have HNE := Lib.hid he2
    clear hl he2
    go_enter Tryz.func34, Tryz.ntmps34
    go_wp2_with fail
    go_loop [4] (fun i => ∃ k : Nat, k ≤ s.size ∧ i = .int .i64 k ∧ (s.data.toList.take k).all digB = true) (fun i => s.size - (intOf i).toNat)
    case atStart => exact ⟨0, Nat.zero_le _, rfl, rfl⟩
    case round =>
      obtain ⟨k, hk, rfl, hall⟩ := hrel
      have HA := Lib.hid hall
      clear hall
      rcases Nat.lt_or_ge k s.size with hlt | hge
      · have hkb : decide ((k : Int) < (s.size : Int)) = true := by rw [decide_eq_true_iff]; omega
        have hN := Lib.hid (all_no (q := digB) s k hlt)
        have hT := Lib.hid (all_take (q := digB) s k hlt)
        have hc := hide (fun w => r1digit_any s[k].toNat w)
        rw [digitI_B] at hc
        cases hq : digB s[k]
        · rw [hq] at hc
          have hn := hide (numS_bad (l := s.data.toList) (by unfold digsS; rw [hN.out hq, Bool.and_false]))
          clear hq
          go_wp2_with (go_at_call 58; refine (unhide hc _).mono ?_; rintro e w1 ⟨rfl, rfl⟩)
          go_ret2
          exact ⟨by rw [unhide hn] <;> rfl, rfl⟩
        · rw [hq] at hc
          have HQ := Lib.hid hq
          clear hq
          go_wp2_with (go_at_call 58; refine (unhide hc _).mono ?_; rintro e w1 ⟨rfl, rfl⟩)
          go_round
          case rel => exact ⟨k + 1, by omega, by go_num, by rw [hT.out, HA.out, HQ.out]; rfl⟩
          case measure => simp [intOf]; omega
      · have hkb : decide ((k : Int) < (s.size : Int)) = false := by rw [decide_eq_false_iff_not]; omega
        have hall : s.data.toList.all digB = true := by
          have := HA.out
          rw [List.take_of_length_le (by rw [HL.out]; exact hge)] at this
          exact this
        have hdig : digsS s.data.toList = true := by
          unfold digsS
          rw [hall, Bool.and_true]
          cases hh : s.data.toList with
          | nil => exact absurd hh HNE.out
          | cons c t => rfl
        have HALL := Lib.hid hall
        have HDIG := Lib.hid hdig
        clear hall hdig HA
        go_wp2_with fail
        go_loop [5, 6] (fun n i => ∃ k : Nat, k ≤ s.size ∧ i = .int .i64 k ∧ n = .int .i64 (valN (s.data.toList.take k) : Nat)) (fun _ i => s.size - (intOf i).toNat)
        case atStart => exact ⟨0, Nat.zero_le _, rfl, by rw [List.take_zero]; unfold valN; rw [valF_nil]; rfl⟩
        case round =>
          obtain ⟨k, hk, rfl, rfl⟩ := hrel
          have hvl : valN (s.data.toList.take k) < 100000000000000 := by
            have h := valF_lt (s.data.toList.take k) 0 (by
              rw [List.all_eq_true]
              intro c hc
              exact List.all_eq_true.1 HALL.out c (List.mem_of_mem_take hc))
            have h2 : (s.data.toList.take k).length ≤ 14 := by rw [List.length_take, HL.out]; omega
            have h3 : 10 ^ (s.data.toList.take k).length ≤ 10 ^ 14 := Nat.pow_le_pow_right (by decide) h2
            unfold valN
            omega
          rcases Nat.lt_or_ge k s.size with hlt | hge
          · have hkb : decide ((k : Int) < (s.size : Int)) = true := by rw [decide_eq_true_iff]; omega
            have hd := digB_t (List.all_eq_true.1 HALL.out s[k] (by rw [show s[k] = s.data.toList[k]'(by simpa using hlt) from rfl]; exact List.getElem_mem _))
            have hstep := valN_take s k hlt
            obtain ⟨D, hD⟩ : ∃ D, s[k].toNat - 48 = D := ⟨_, rfl⟩
            rw [hD] at hstep
            have hD9 : D ≤ 9 := by omega
            have hu : IntKind.u8.wrap ((s[k].toNat : Int) - 48) = (D : Int) := by rw [IntKind.wrap_u8]; omega
            have hu2 : (s[k].toNat : Int) - 48 = (D : Int) := by omega
            obtain ⟨N', hN'⟩ : ∃ N', valN (s.data.toList.take (k + 1)) = N' := ⟨_, rfl⟩
            obtain ⟨N, hN⟩ : ∃ N, valN (s.data.toList.take k) = N := ⟨_, rfl⟩
            rw [hN', hN] at hstep
            rw [hN] at hvl ⊢
            have hsum : 10 * (N : Int) + (D : Int) = (N' : Int) := by omega
            obtain ⟨M, hM⟩ : ∃ M : Nat, (9007199254740991 : Int) - (D : Int) = (M : Int) := ⟨9007199254740991 - D, by omega⟩
            obtain ⟨Q, hQ⟩ : ∃ Q : Nat, M / 10 = Q := ⟨_, rfl⟩
            have hq : Int.tdiv (M : Int) 10 = (Q : Int) := by rw [Int.tdiv_eq_ediv_of_nonneg (by omega)]; omega
            have hQb : Q ≤ 1000000000000000 := by omega
            have hQN : N ≤ Q := by omega
            have hqb : decide ((Q : Int) < (N : Int)) = false := decide_eq_false (by omega)
            have HN' := Lib.hid hN'
            clear hd hstep hD hN hN' hQ
            go_wp2_with fail
            go_round
            case rel => exact ⟨k + 1, by omega, by go_num, by rw [HN'.out]⟩
            case measure => simp [intOf]; omega
          · have hkb : decide ((k : Int) < (s.size : Int)) = false := by rw [decide_eq_false_iff_not]; omega
            have htk : s.data.toList.take k = s.data.toList := List.take_of_length_le (by rw [HL.out]; exact hge)
            rw [htk] at hvl ⊢
            have hn := hide (numS_ok HDIG.out (by omega))
            clear htk
            go_wp2_with fail
            go_ret2
            exact ⟨by rw [unhide hn] <;> rfl, rfl⟩

theorem ver_zero {l : List UInt8} (h : (ver l).2 ≠ 0) : (ver l).1 = 0 := by
  unfold ver at h ⊢
  split
  · rename_i hp
    rw [if_pos hp] at h
    unfold verC at h ⊢
    split
    · rename_i h1
      rw [if_pos h1] at h
      split
      · rfl
      · rename_i h2
        rw [if_neg h2] at h
        exact absurd rfl h
    · rfl
  · rfl

set_option maxRecDepth 100000 in
set_option maxHeartbeats 2000000 in
theorem rrequest_any (s : ByteArray) (hs : s.size ≤ 1000000) (w : World) :
    Calls Tryz.prog 14 #[.string s] w (ReqPost s w) := by
  obtain ⟨m, hm⟩ := of_list (cutS 32 s.data.toList).1
  obtain ⟨r, hr⟩ := of_list (cutS 32 s.data.toList).2.1
  obtain ⟨t, ht⟩ := of_list (cutS 32 r.data.toList).1
  obtain ⟨v, hv⟩ := of_list (cutS 32 r.data.toList).2.1
  have hl := cutS_len 32 s.data.toList
  have hl2 := cutS_len 32 r.data.toList
  have sm := size_list hm
  have sr := size_list hr
  have st := size_list ht
  have sv := size_list hv
  have zs : s.data.toList.length = s.size := by simp
  have zr : r.data.toList.length = r.size := by simp
  have hrs : r.size ≤ 1000000 := by omega
  have hms : m.size ≤ 1000000 := by omega
  have hts : t.size ≤ 1000000 := by omega
  have hvs : v.size ≤ 1000000 := by omega
  clear sm sr st sv zs zr hl hl2
  obtain ⟨ok, hok⟩ : ∃ b, b = (cutS 32 s.data.toList).2.2 := ⟨_, rfl⟩
  obtain ⟨is, his⟩ : ∃ b, b = (cutS 32 r.data.toList).2.2 := ⟨_, rfl⟩
  have hO : reqOK s.data.toList = (ok && is && tokenS m.data.toList && seenS t.data.toList) := by
    unfold reqOK; rw [← hr, ← hm, ← ht, ← hok, ← his]
  have hV : reqV s.data.toList = ver v.data.toList := by unfold reqV; rw [← hr, ← hv]
  have c1 := hide (fun w => rcut_any s m r ok hm hr hok (by omega) w)
  have c2 := hide (fun w => rcut_any r t v is ht hv his (by omega) w)
  have c3 := hide (fun w => rtoken_any m (by omega) w)
  have c4 := hide (fun w => rseen_any t (by omega) w)
  have c5 := hide (fun w => rver_any v (by omega) w)
  have HO := Lib.hid hO
  have HV := Lib.hid hV
  have E1 := Lib.hid hm
  have E2 : Hid (t.data.toList = (cutS 32 (cutS 32 s.data.toList).2.1).1) := Lib.hid (by rw [ht, hr])
  clear hO hV hm hr ht hv hok his
  go_enter Tryz.func14, Tryz.ntmps14
  go_wp2_with fail
  refine (unhide c1 _).mono ?_; rintro e w1 ⟨rfl, hb1⟩
  go_wp2_with fail
  refine (unhide c2 _).mono ?_; rintro e w2 ⟨rfl, hb2⟩
  have hb := hb1.trans (hb2.mono hb1.size)
  clear hb1 hb2 c1 c2
  cases ok
  · go_wp2_with fail
    refine bodyPost_ret (Mem.results_tmp4 Tryz.results14 _ _ _) rfl ?_
    exact req_bad s w _ (by rw [HO.out]; rfl) hb
  cases is
  · go_wp2_with fail
    refine bodyPost_ret (Mem.results_tmp4 Tryz.results14 _ _ _) rfl ?_
    exact req_bad s w _ (by rw [HO.out]; rfl) hb
  go_wp2_with fail
  refine (unhide c3 _).mono ?_; rintro e w3 ⟨rfl, rfl⟩
  cases hT : tokenS m.data.toList
  · go_wp2_with fail
    refine bodyPost_ret (Mem.results_tmp4 Tryz.results14 _ _ _) rfl ?_
    exact req_bad s w _ (by rw [HO.out, hT]; rfl) hb
  go_wp2_with fail
  refine (unhide c4 _).mono ?_; rintro e w4 ⟨rfl, rfl⟩
  cases hS : seenS t.data.toList
  · go_wp2_with fail
    refine bodyPost_ret (Mem.results_tmp4 Tryz.results14 _ _ _) rfl ?_
    exact req_bad s w _ (by rw [HO.out, hT, hS]; rfl) hb
  have hO : reqOK s.data.toList = true := by rw [HO.out, hT, hS]; rfl
  have HO2 := Lib.hid hO
  clear hT hS hO HO
  go_wp2_with fail
  refine (unhide c5 _).mono ?_; rintro e w5 ⟨rfl, rfl⟩
  by_cases h0 : (ver v.data.toList).2 = 0
  · have H0 := Lib.hid h0
    have h0' : ((ver v.data.toList).2 != 0) = false := by rw [h0]; rfl
    have hq := Lib.hid (req_ok s m t _ w _ HO2.out HV.out h0 E1.out E2.out hb)
    rw [h0] at hq
    clear h0
    go_wp2_with fail
    refine bodyPost_ret (Mem.results_tmp4 Tryz.results14 _ _ _) rfl ?_
    exact hq.out
  · have h0' : ((ver v.data.toList).2 != 0) = true := by rw [bne_iff_ne]; exact h0
    have hq := Lib.hid (req_ver s _ w _ HO2.out HV.out h0 hb)
    rw [ver_zero h0] at hq
    clear h0
    go_wp2_with fail
    refine bodyPost_ret (Mem.results_tmp4 Tryz.results14 _ _ _) rfl ?_
    exact hq.out

set_option maxRecDepth 100000 in
set_option maxHeartbeats 4000000 in
theorem rstatus_any (s : ByteArray) (hs : s.size ≤ 1000000) (w : World) :
    Calls Tryz.prog 15 #[.string s] w (StPost s w) := by
  obtain ⟨v, hv⟩ := of_list (cutS 32 s.data.toList).1
  obtain ⟨r, hr⟩ := of_list (cutS 32 s.data.toList).2.1
  obtain ⟨d, hd⟩ := of_list (cutS 32 r.data.toList).1
  obtain ⟨y, hy⟩ := of_list (cutS 32 r.data.toList).2.1
  have hl := cutS_len 32 s.data.toList
  have hl2 := cutS_len 32 r.data.toList
  have sv := size_list hv
  have sr := size_list hr
  have sd := size_list hd
  have sy := size_list hy
  have zs : s.data.toList.length = s.size := by simp
  have zr : r.data.toList.length = r.size := by simp
  have zd : d.size ≤ 1000000 := by omega
  have zy : y.size ≤ 1000000 := by omega
  have zv : v.size ≤ 1000000 := by omega
  have zrs : r.size ≤ 1000000 := by omega
  obtain ⟨ok, hok⟩ : ∃ b, b = (cutS 32 s.data.toList).2.2 := ⟨_, rfl⟩
  obtain ⟨is, his⟩ : ∃ b, b = (cutS 32 r.data.toList).2.2 := ⟨_, rfl⟩
  obtain ⟨bad, hbad⟩ : ∃ b, b = (ver v.data.toList).2 := ⟨_, rfl⟩
  obtain ⟨mi, hmi⟩ : ∃ b, b = (ver v.data.toList).1 := ⟨_, rfl⟩
  obtain ⟨n, hn⟩ : ∃ b, b = (numS d.data.toList).1 := ⟨_, rfl⟩
  obtain ⟨er, her⟩ : ∃ b, b = (numS d.data.toList).2 := ⟨_, rfl⟩
  obtain ⟨vb, hvb⟩ : ∃ b, b = allS chr y.data.toList := ⟨_, rfl⟩
  have hO : stOK s.data.toList ↔ (ok = true ∧ is = true ∧ bad = 0 ∧ er = 0 ∧ d.size = 3 ∧ 100 ≤ n ∧ n ≤ 599 ∧ vb = true) := by
    have e1 : stRest s.data.toList = r.data.toList := hr.symm
    unfold stOK stDig stWhy stV
    rw [e1, ← hd, ← hy, ← hv, ← hok, ← his, ← hbad, ← her, ← hn, ← hvb, show d.data.toList.length = d.size by simp]
  have c1 := hide (fun w => rcut_any s v r ok hv hr hok (by omega) w)
  have c2 := hide (fun w => rcut_any r d y is hd hy his (by omega) w)
  have c3 := hide (fun w => rver_any v (by omega) w)
  rw [← hbad, ← hmi] at c3
  have c4 := hide (fun h3 w => rnumber_any d h3 w)
  rw [← hn, ← her] at c4
  have c5 := hide (fun w => chars_any y (by omega) w)
  rw [← hvb] at c5
  have HO := hide hO
  have E1 := Lib.hid (show mi = (ver (stV s.data.toList)).1 by rw [hmi, hv]; rfl)
  have E2 := Lib.hid (show n = (numS (stDig s.data.toList)).1 by rw [hn, hd, hr]; rfl)
  have E3 := Lib.hid (show y.data.toList = stWhy s.data.toList by rw [hy, hr]; rfl)
  clear hO hv hr hd hy hl hl2 sv sr sd sy zs zr hok his hbad hmi hn her hvb zrs zy zv
  go_enter Tryz.func15, Tryz.ntmps15
  go_wp2_with fail
  refine (unhide c1 _).mono ?_; rintro e w1 ⟨rfl, hb1⟩
  go_wp2_with fail
  refine (unhide c3 _).mono ?_; rintro e w2 ⟨rfl, rfl⟩
  go_wp2_with fail
  refine (unhide c2 _).mono ?_; rintro e w3 ⟨rfl, hb3⟩
  replace hb3 := hb1.trans (hb3.mono hb1.size)
  clear hb1
  have hno : ∀ P : Prop, (stOK s.data.toList → P) → ¬ P → Hid (¬ stOK s.data.toList) := fun P h k => hide fun g => k (h g)
  cases ok
  · have HN := hno _ (fun g => ((unhide HO).1 g).1) (by decide)
    go_wp2_with fail
    refine bodyPost_ret (Mem.results_tmp4 Tryz.results15 _ _ _) rfl ?_
    exact stp_no s w _ (unhide HN) hb3
  cases is
  · have HN := hno _ (fun g => ((unhide HO).1 g).2.1) (by decide)
    go_wp2_with fail
    refine bodyPost_ret (Mem.results_tmp4 Tryz.results15 _ _ _) rfl ?_
    exact stp_no s w _ (unhide HN) hb3
  by_cases h3 : bad = 0
  rotate_left
  · have HN := hno _ (fun g => ((unhide HO).1 g).2.2.1) h3
    have b3 : (bad != 0) = true := by rw [bne_iff_ne]; exact h3
    clear h3 hno
    go_wp2_with fail
    refine bodyPost_ret (Mem.results_tmp4 Tryz.results15 _ _ _) rfl ?_
    exact stp_no s w _ (unhide HN) hb3
  have b3 : (bad != 0) = false := by rw [h3]; rfl
  by_cases h5 : d.size = 3
  rotate_left
  · have HN := hno _ (fun g => ((unhide HO).1 g).2.2.2.2.1) h5
    have b5 : ((d.size : Int) != 3) = true := by rw [bne_iff_ne]; omega
    clear h3 h5 hno
    go_wp2_with fail
    refine bodyPost_ret (Mem.results_tmp4 Tryz.results15 _ _ _) rfl ?_
    exact stp_no s w _ (unhide HN) hb3
  have b5 : ((d.size : Int) != 3) = false := by rw [h5]; rfl
  have c4' := hide (unhide c4 (by omega))
  have H3 := Lib.hid h3
  have H5 := Lib.hid h5
  clear c4 h3 h5
  cases vb
  · have HN := hno _ (fun g => ((unhide HO).1 g).2.2.2.2.2.2.2) (by decide)
    clear hno
    go_wp2_with fail
    refine (unhide c5 _).mono ?_; rintro e w4 ⟨rfl, rfl⟩
    go_wp2_with fail
    refine bodyPost_ret (Mem.results_tmp4 Tryz.results15 _ _ _) rfl ?_
    exact stp_no s w _ (unhide HN) hb3
  go_wp2_with fail
  refine (unhide c5 _).mono ?_; rintro e w4 ⟨rfl, rfl⟩
  go_wp2_with fail
  refine (unhide c4' _).mono ?_; rintro e w5 ⟨rfl, rfl⟩
  by_cases h4 : er = 0
  rotate_left
  · have HN := hno _ (fun g => ((unhide HO).1 g).2.2.2.1) h4
    have b4 : (er != 0) = true := by rw [bne_iff_ne]; exact h4
    clear h4 hno
    go_wp2_with fail
    refine bodyPost_ret (Mem.results_tmp4 Tryz.results15 _ _ _) rfl ?_
    exact stp_no s w _ (unhide HN) hb3
  have b4 : (er != 0) = false := by rw [h4]; rfl
  by_cases h6 : 100 ≤ n
  rotate_left
  · have HN := hno _ (fun g => ((unhide HO).1 g).2.2.2.2.2.1) h6
    have b6 : decide (n < 100) = true := decide_eq_true (by omega)
    clear h4 h6 hno
    go_wp2_with fail
    refine bodyPost_ret (Mem.results_tmp4 Tryz.results15 _ _ _) rfl ?_
    exact stp_no s w _ (unhide HN) hb3
  have b6 : decide (n < 100) = false := decide_eq_false (by omega)
  by_cases h7 : n ≤ 599
  rotate_left
  · have HN := hno _ (fun g => ((unhide HO).1 g).2.2.2.2.2.2.1) h7
    have b7 : decide (599 < n) = true := decide_eq_true (by omega)
    clear h4 h6 h7 hno
    go_wp2_with fail
    refine bodyPost_ret (Mem.results_tmp4 Tryz.results15 _ _ _) rfl ?_
    exact stp_no s w _ (unhide HN) hb3
  have b7 : decide (599 < n) = false := decide_eq_false (by omega)
  have HY := hide ((unhide HO).2 ⟨by trivial, by trivial, H3.out, h4, H5.out, h6, h7, by trivial⟩)
  clear h4 hno
  go_wp2_with fail
  refine bodyPost_ret (Mem.results_tmp4 Tryz.results15 _ _ _) rfl ?_
  exact stp_ok s y _ _ w _ (unhide HY) E1.out E2.out E3.out hb3
end Go.Proofs.YtfkobhagdjaleaaGreatDoor.Sp
