/- The reference's Target is walked. -/
import Derived.Test.YtfkobhagdjaleaaGreatDoorS15
namespace Go.Proofs.YtfkobhagdjaleaaGreatDoor.Sp
open Go.RowKit Sl

set_option maxRecDepth 100000 in
set_option maxHeartbeats 8000000 in
theorem rtarget_any (m s : ByteArray) (hs : s.size ≤ 1000000) (w : World) :
    Calls Tryz.prog 17 #[.string m, .string s] w (TgtPost m s w) := by
  have zs : s.data.toList.length = s.size := by simp
  have hs1 : s.size ≤ 9223372036854775807 := by omega
  have cS := hide (fun w => rseen_any s (by omega) w)
  have cP := hide (fun w => rport_any s hs w)
  have hpos := rp_pos s.data.toList
  have hhash := hash_has s.data.toList
  have hfull : hashTo s s.size = s.data.toList.any fun c => c == 35 := by unfold hashTo; rw [List.take_of_length_le (by rw [zs]; exact Nat.le_refl _)]
  rw [← hfull] at hhash
  obtain ⟨sn, hsn⟩ : ∃ b, seenS s.data.toList = b := ⟨_, rfl⟩
  obtain ⟨pv, hpv⟩ : ∃ p, rp s.data.toList = p := ⟨_, rfl⟩
  rw [hsn] at cS
  rw [hpv] at cP hpos
  have ZS := Lib.hid zs
  have HSN := Lib.hid hsn
  have HPOS := Lib.hid hpos
  have HHASH := Lib.hid hhash
  clear zs hsn hpv hfull hpos hhash
  go_enter Tryz.func17, Tryz.ntmps17
  go_wp2_with fail
  refine (unhide cS _).mono ?_; rintro e w' ⟨rfl, rfl⟩
  clear cS
  have H := Reg.Has.at w w.heap.size [.int .i64 0, .string ⟨#[]⟩, .string ⟨#[]⟩] 32 rfl
  have bel : Below w.heap.size w (w.alloc (.cells #[.int .i64 0, .string ⟨#[]⟩, .string ⟨#[]⟩] 32)) := (Below.refl _ _).alloc (Nat.le_refl _) _
  generalize hw0 : w.alloc (.cells #[.int .i64 0, .string ⟨#[]⟩, .string ⟨#[]⟩] 32) = w0 at *
  clear hw0
  have H := hide H
  have bel := hide bel
  go_wp2_with fail
  go_loop [6, 7] (fun p q => ∃ k : Nat, k ≤ s.size ∧ p = .bool (!sn || hashTo s k) ∧ q = .int .i64 k) (fun _ q => s.size - (intOf q).toNat)
  case atStart => exact ⟨0, by omega, by simp [hashTo], rfl⟩
  case round =>
    obtain ⟨k, hk, rfl, rfl⟩ := hrel
    have hk1000 : k ≤ 1000000 := by omega
    rcases Nat.lt_or_ge k s.size with hlt | hge
    · have hkb : decide ((k : Int) < (s.size : Int)) = true := by rw [decide_eq_true_iff]; omega
      have HT := Lib.hid (hashTo_step s k hlt)
      obtain ⟨b, hb⟩ : ∃ b, hashTo s k = b := ⟨_, rfl⟩
      rw [hb] at HT ⊢
      clear hb
      by_cases hor : (!sn || b) = true
      · rw [hor]
        have HOR := Lib.hid hor
        clear hor
        go_wp2_with fail
        go_round
        case rel => exact ⟨k + 1, by omega, by rw [HT.out, ← Bool.or_assoc, HOR.out]; rfl, by go_num⟩
        case measure => simp [intOf]; omega
      · rw [Bool.eq_false_iff.2 hor]
        have HOR := Lib.hid (Bool.eq_false_iff.2 hor)
        clear hor
        by_cases hc : s[k] = 35
        · have h35 : ((s[k].toNat : Int) == 35) = true := by rw [hc]; rfl
          have hq : (s[k] == 35) = true := by rw [hc]; rfl
          rw [hq] at HT
          clear hq hc
          go_wp2_with fail
          go_round
          case rel => exact ⟨k + 1, by omega, by rw [HT.out, ← Bool.or_assoc, HOR.out]; rfl, by go_num⟩
          case measure => simp [intOf]; omega
        · have h35 : ((s[k].toNat : Int) == 35) = false := by
            rw [Bool.eq_false_iff]
            intro h
            exact hc (u8_eq (by simpa using h))
          have hq : (s[k] == 35) = false := by rw [Bool.eq_false_iff]; intro h; exact hc (eq_of_beq h)
          rw [hq] at HT
          clear hq hc
          go_wp2_with fail
          go_round
          case rel => exact ⟨k + 1, by omega, by rw [HT.out, ← Bool.or_assoc, HOR.out]; rfl, by go_num⟩
          case measure => simp [intOf]; omega
    · have hkb : decide ((k : Int) < (s.size : Int)) = false := decide_eq_false (by omega)
      have hnl : ¬ k < s.size := by omega
      obtain rfl : k = s.size := by omega
      clear hk hge
      have H := unhide H
      have bel := unhide bel
      have hlen0 : ¬ s.size < s.size := hnl
      by_cases hbad : (!sn || hashTo s s.size) = true
      · rw [hbad]
        have ht : tgt m.data.toList s.data.toList = tbad := by
          unfold tgt
          rw [HSN.out]
          cases hs2 : sn
          · rw [if_pos rfl]
          · rw [hs2] at hbad
            have h2 : 0 ≤ hashN s.data.toList := of_decide_eq_true (by rw [HHASH.out]; simpa using hbad)
            rw [if_neg (by decide), if_pos h2]
        have HT := Lib.hid ht
        clear ht hbad
        have pa := H.cell 0 _ rfl; have qa := H.cell 1 _ rfl; have ra := H.cell 2 _ rfl; have ua := H.free 0 (by simp); have va := H.free 1 (by simp); have xa := H.free 2 (by simp); have za := H.lt
        go_wp2_with fail
        refine bodyPost_ret (Mem.results_cell2 Tryz.results17 (ad := ⟨w.heap.size, 0, none⟩) rfl (tgt_load H _ _ _)) rfl ?_
        exact tp_of HT.out (below3 bel (Nat.le_refl _) _ _ _)
      · rw [Bool.eq_false_iff.2 hbad]
        have hsn2 : sn = true := by
          cases hs2 : sn
          · rw [hs2] at hbad; exact absurd rfl hbad
          · rfl
        have hh : ¬ 0 ≤ hashN s.data.toList := by
          apply of_decide_eq_false
          rw [HHASH.out]
          cases hx : hashTo s s.size
          · rfl
          · rw [hx] at hbad; simp at hbad
        have hS : seenS s.data.toList = true := by rw [HSN.out, hsn2]
        have ht0 : tgt m.data.toList s.data.toList = if (m.data.toList == connectL) = true then (if (portS s.data.toList).2 = true ∧ 0 < (portS s.data.toList).1 then ((3, lower s.data.toList, []), 0) else tbad)
            else if (m.data.toList == optionsL) = true ∧ (s.data.toList == [42]) = true then ((4, [], []), 0)
            else if s.data.toList.getD 0 0 = 47 then ((1, [], s.data.toList), 0)
            else if restT s.data.toList = [] then tbad
            else absT (restT s.data.toList) := by
          unfold tgt; rw [if_neg (by rw [hS]; decide), if_neg hh]
        have HT0 := Lib.hid ht0
        have HS := Lib.hid hS
        clear ht0 hS hh hsn2 hbad HHASH HSN
        cases hc : (m.toList == [67, 79, 78, 78, 69, 67, 84])
        case true =>
          have hc2 : (m.data.toList == connectL) = true := by rw [← Lib.toList_data]; exact hc
          have ht1 := HT0.out
          rw [hc2, if_pos rfl] at ht1
          clear HT0
          by_cases hp1 : pv < 1
          · rw [if_neg (fun h => by have := HPOS.out.1 h; omega)] at ht1
            have HT := Lib.hid ht1
            have hpb : decide (pv < 1) = true := decide_eq_true hp1
            clear ht1 hc2 hp1
            have pa := H.cell 0 _ rfl; have qa := H.cell 1 _ rfl; have ra := H.cell 2 _ rfl; have ua := H.free 0 (by simp); have va := H.free 1 (by simp); have xa := H.free 2 (by simp); have za := H.lt
            go_wp2_with fail
            refine (unhide cP _).mono ?_; rintro e w' ⟨rfl, rfl⟩
            go_wp2_with fail
            refine bodyPost_ret (Mem.results_cell2 Tryz.results17 (ad := ⟨w.heap.size, 0, none⟩) rfl (tgt_load H _ _ _)) rfl ?_
            exact tp_of HT.out (below3 bel (Nat.le_refl _) _ _ _)
          · rw [if_pos (HPOS.out.2 (by omega))] at ht1
            have HT := Lib.hid ht1
            have hpb : decide (pv < 1) = false := decide_eq_false hp1
            clear ht1 hc2 hp1
            go_wp2_with fail
            refine (unhide cP _).mono ?_; rintro e w' ⟨rfl, rfl⟩
            go_wp2_with fail
            refine (rlower_any s hs1 _).mono ?_; rintro e w3 ⟨rfl, hb3⟩
            replace H := H.call hb3
            replace bel := bel.trans (hb3.mono bel.size)
            clear hb3
            have pb := H.cell 0 _ rfl; have qb := H.cell 1 _ rfl; have rb := H.cell 2 _ rfl; have ub := H.free 0 (by simp); have vb := H.free 1 (by simp); have xb := H.free 2 (by simp); have zb := H.lt
            go_wp2_with fail
            refine bodyPost_ret (Mem.results_cell2 Tryz.results17 (ad := ⟨w.heap.size, 0, none⟩) rfl (tgt_load H _ _ _)) rfl ?_
            exact tp_of HT.out (below3 bel (Nat.le_refl _) _ _ _)
        case false =>
          have hc2 : (m.data.toList == connectL) = false := by rw [← Lib.toList_data]; exact hc
          have ht1 := HT0.out
          rw [hc2, if_neg (by decide)] at ht1
          have HT1 := Lib.hid ht1
          clear HT0 hc2 ht1 cP HPOS
          go_upto_region 12 with fail
          go_cut [38] (fun v wc => v = .bool (m.toList == [79, 80, 84, 73, 79, 78, 83] && s.toList == [42]) ∧ w0 = wc)
          case first =>
            cases ho1 : (m.toList == [79, 80, 84, 73, 79, 78, 83])
            all_goals
              cases ho2 : (s.toList == [42])
              all_goals
                go_wp2_with fail
                go_meet
                exact ⟨by rw [ho1, ho2]; rfl, rfl⟩
          case rest =>
          obtain ⟨rfl, rfl⟩ := hcut
          cases ho : (m.toList == [79, 80, 84, 73, 79, 78, 83] && s.toList == [42])
          case true =>
            have ht1 := HT1.out
            rw [Bool.and_eq_true] at ho
            obtain ⟨ho1, ho2⟩ := ho
            rw [if_pos ⟨by rw [← Lib.toList_data]; exact ho1, by rw [← Lib.toList_data]; exact ho2⟩] at ht1
            have HT := Lib.hid ht1
            clear ht1 ho1 ho2
            have pa := H.cell 0 _ rfl; have qa := H.cell 1 _ rfl; have ra := H.cell 2 _ rfl; have ua := H.free 0 (by simp); have va := H.free 1 (by simp); have xa := H.free 2 (by simp); have za := H.lt
            go_wp2_with fail
            refine bodyPost_ret (Mem.results_cell2 Tryz.results17 (ad := ⟨w.heap.size, 0, none⟩) rfl (tgt_load H _ _ _)) rfl ?_
            exact tp_of HT.out (below3 bel (Nat.le_refl _) _ _ _)
          case false =>
          have ht1 := HT1.out
          rw [if_neg (by rw [← Lib.toList_data, ← Lib.toList_data]; rintro ⟨a, b⟩; rw [show (m.toList == optionsL) = (m.toList == [79, 80, 84, 73, 79, 78, 83]) from rfl] at a; rw [a, b] at ho; cases ho)] at ht1
          have HT1 := Lib.hid ht1
          clear ht1 ho hc
          have h0 : 0 < s.size := by
            rw [← ZS.out]
            have := HS.out
            cases hl : s.data.toList with
            | nil => rw [hl] at this; cases this
            | cons c t => simp
          have hg : s.data.toList.getD 0 0 = s[0] := by
            have : 0 < s.data.toList.length := by rw [ZS.out]; exact h0
            rw [List.getD_eq_getElem?_getD, List.getElem?_eq_getElem this]
            rfl
          have HG := Lib.hid hg
          clear hg
          by_cases h47 : s[0].toNat = 47
          · have ht1 := HT1.out
            rw [if_pos (by rw [HG.out]; exact UInt8.toNat_inj.1 h47)] at ht1
            have HT := Lib.hid ht1
            have h47' : ((s[0].toNat : Int) == 47) = true := by rw [h47]; rfl
            clear ht1 h47
            have pa := H.cell 0 _ rfl; have qa := H.cell 1 _ rfl; have ra := H.cell 2 _ rfl; have ua := H.free 0 (by simp); have va := H.free 1 (by simp); have xa := H.free 2 (by simp); have za := H.lt
            go_wp2_with fail
            refine bodyPost_ret (Mem.results_cell2 Tryz.results17 (ad := ⟨w.heap.size, 0, none⟩) rfl (tgt_load H _ _ _)) rfl ?_
            exact tp_of HT.out (below3 bel (Nat.le_refl _) _ _ _)
          have ht1 := HT1.out
          rw [if_neg (by rw [HG.out]; intro h; exact h47 (by rw [h]; rfl))] at ht1
          have HT2 := Lib.hid ht1
          have h47' : ((s[0].toNat : Int) == 47) = false := by rw [Bool.eq_false_iff]; intro h; rw [beq_iff_eq] at h; omega
          clear ht1 h47 HT1 HG
          go_upto_region 16 with fail
          go_cut [52] (fun v wc => v = .bool (isAbs s.data.toList) ∧ Reg.Has wc w.heap.size [.int .i64 0, .string ⟨#[]⟩, .string ⟨#[]⟩] ∧ Below w.heap.size w wc)
          case first =>
            by_cases h7 : 7 < s.size
            · have h7i : decide ((7 : Int) < s.size) = true := decide_eq_true (by omega)
              have hx : (s.extract 0 7).data.toList = s.data.toList.take 7 := by rw [Lib.extract_data]; rfl
              have hxs : (s.extract 0 7).size ≤ 9223372036854775807 := by rw [size_list hx, List.length_take]; omega
              have cS := hide (fun w => rsame_any (s.extract 0 7) ⟨#[104, 116, 116, 112, 58, 47, 47]⟩ hxs (by decide) w)
              rw [hx] at cS
              have hA : isAbs s.data.toList = same (s.data.toList.take 7) httpL := by unfold isAbs; rw [ZS.out, decide_eq_true h7]; rfl
              have HA := Lib.hid hA
              clear hx hxs hA
              go_wp2_with fail
              refine (unhide cS _).mono ?_; rintro e w1 ⟨rfl, hb1⟩
              replace H := H.call hb1
              replace bel := bel.trans (hb1.mono bel.size)
              clear hb1
              go_wp2_with fail
              go_meet
              exact ⟨by rw [HA.out]; rfl, H, bel⟩
            · have h7i : decide ((7 : Int) < s.size) = false := decide_eq_false (by omega)
              have hA : isAbs s.data.toList = false := by unfold isAbs; rw [ZS.out, decide_eq_false h7]; rfl
              have HA := Lib.hid hA
              clear hA
              go_wp2_with fail
              go_meet
              exact ⟨by rw [HA.out], H, bel⟩
          case rest =>
          obtain ⟨rfl, H, bel⟩ := hcut
          cases hA : isAbs s.data.toList
          · have ht1 := HT2.out
            rw [show restT s.data.toList = [] by unfold restT; rw [hA]; rfl, if_pos rfl] at ht1
            have HT := Lib.hid ht1
            clear ht1 hA
            have pa := H.cell 0 _ rfl; have qa := H.cell 1 _ rfl; have ra := H.cell 2 _ rfl; have ua := H.free 0 (by simp); have va := H.free 1 (by simp); have xa := H.free 2 (by simp); have za := H.lt
            go_wp2_with fail
            refine bodyPost_ret (Mem.results_cell2 Tryz.results17 (ad := ⟨w.heap.size, 0, none⟩) rfl (tgt_load H _ _ _)) rfl ?_
            exact tp_of HT.out (below3 bel (Nat.le_refl _) _ _ _)
          have h7 : 7 < s.size := by
            have h := hA
            unfold isAbs at h
            rw [Bool.and_eq_true, decide_eq_true_iff, ZS.out] at h
            exact h.1
          obtain ⟨r, hr⟩ : ∃ r, s.extract 7 s.size = r := ⟨_, rfl⟩
          have hrl : r.data.toList = restT s.data.toList := by rw [← hr, Lib.extract_to_end]; unfold restT; rw [hA, if_pos rfl]
          have rl : r.data.toList.length = r.size := by simp
          have rs : r.size + 7 = s.size := by rw [← rl, ← hr, Lib.extract_to_end, List.length_drop, ZS.out]; omega
          have ht1 := HT2.out
          rw [← hrl, if_neg (by intro h; rw [h] at rl; simp at rl; omega)] at ht1
          have HT3 := Lib.hid ht1
          have RL := Lib.hid rl
          have rs2 : r.size ≤ 1000000 := by omega
          clear ht1 hrl rl HT2 hA
          have H := hide H
          have bel := hide bel
          go_wp2_with fail
          go_loop [9] (fun n => ∃ k : Nat, k ≤ r.size ∧ n = .int .i64 k ∧ runN endI r.data.toList = k + runN endI (r.data.toList.drop k)) (fun n => r.size - (intOf n).toNat)
          case atStart => exact ⟨0, by omega, rfl, by rw [List.drop_zero]; omega⟩
          case round =>
            obtain ⟨k, hk, rfl, hrun⟩ := hrel
            have HR := Lib.hid hrun
            clear hrun
            have hk1000 : k ≤ 1000000 := by omega
            go_upto_region 19 with fail
            go_cut [78] (fun v wx => ((v = .bool true ∧ k < r.size ∧ runN endI (r.data.toList.drop k) = 1 + runN endI (r.data.toList.drop (k + 1))) ∨ (v = .bool false ∧ runN endI (r.data.toList.drop k) = 0)) ∧ wc = wx)
            case first =>
              rcases Nat.lt_or_ge k r.size with hlt | hge
              · have hkb : decide ((k : Int) < (r.size : Int)) = true := by rw [decide_eq_true_iff]; omega
                have HY := hide (run_step (p := endI) r k hlt)
                have HN := hide (run_stop (p := endI) r k hlt)
                by_cases h47 : r[k].toNat = 47
                · have b47 : ((r[k].toNat : Int) != 47) = false := by rw [h47]; rfl
                  have hE : endI (r[k].toNat : Int) = false := by rw [h47]; rfl
                  have h0 := Lib.hid (unhide HN hE)
                  clear hE h47 HY HN
                  go_wp2_with fail
                  go_meet
                  exact ⟨.inr ⟨rfl, h0.out⟩, rfl⟩
                have b47 : ((r[k].toNat : Int) != 47) = true := by rw [bne_iff_ne]; omega
                by_cases h63 : r[k].toNat = 63
                · have b63 : ((r[k].toNat : Int) != 63) = false := by rw [h63]; rfl
                  have hE : endI (r[k].toNat : Int) = false := by rw [h63]; rfl
                  have h0 := Lib.hid (unhide HN hE)
                  clear hE h63 h47 HY HN
                  go_wp2_with fail
                  go_meet
                  exact ⟨.inr ⟨rfl, h0.out⟩, rfl⟩
                have b63 : ((r[k].toNat : Int) != 63) = true := by rw [bne_iff_ne]; omega
                have hE : endI (r[k].toNat : Int) = true := by unfold endI; rw [b47, b63]; rfl
                have h0 := Lib.hid (unhide HY hE)
                clear hE h63 h47 HY HN
                go_wp2_with fail
                go_meet
                exact ⟨.inl ⟨rfl, hlt, h0.out⟩, rfl⟩
              · have hkb : decide ((k : Int) < (r.size : Int)) = false := decide_eq_false (by omega)
                have hnl2 : ¬ k < r.size := by omega
                have h0 : runN endI (r.data.toList.drop k) = 0 := by
                  rw [List.drop_of_length_le (by rw [RL.out]; omega)]; rfl
                have h0 := Lib.hid h0
                go_wp2_with fail
                go_meet
                exact ⟨.inr ⟨rfl, h0.out⟩, rfl⟩
            case rest =>
            obtain ⟨hcut, rfl⟩ := hcut
            rcases hcut with ⟨rfl, hlt, hst⟩ | ⟨rfl, hst⟩
            · have hr2 := HR.out
              rw [hst] at hr2
              have HR1 := Lib.hid hr2
              clear hr2 hst HR
              go_wp2_with fail
              go_round
              case rel => exact ⟨k + 1, by omega, by go_num, by rw [HR1.out]; omega⟩
              case measure => simp [intOf]; omega
            have hr2 := HR.out
            rw [hst] at hr2
            replace hr2 : runN endI r.data.toList = k := hr2
            have H := unhide H
            have bel := unhide bel
            have e1 : (r.extract k r.size).data.toList = restOf r.data.toList := by rw [Lib.extract_to_end, rest_drop, hr2]
            have e2 : (r.extract 0 k).data.toList = hostOf r.data.toList := by rw [Lib.extract_data, host_take, hr2]; rfl
            have xs : (r.extract 0 k).size ≤ 1000000 := by
              rw [size_list e2, host_take, List.length_take]; omega
            obtain ⟨p, hp⟩ : ∃ p, r.extract k r.size = p := ⟨_, rfl⟩
            obtain ⟨h, hh⟩ : ∃ h, r.extract 0 k = h := ⟨_, rfl⟩
            have cO := hide (fun w => rhost_any h (by rw [← hh]; exact xs) w)
            have cL := hide (fun w => rlower_any h (by rw [← hh]; omega) w)
            rw [hp] at e1
            rw [hh] at e2 xs
            rw [e2] at cO cL
            have hpc : (p.toList.isEmpty = true ∧ Lib.hasPrefix (restOf r.data.toList) [47] = false) ∨ (p.toList.isEmpty = false ∧ ∃ h : 0 < p.size, ((((p[0].toNat : Int) == 63) = true ∧ Lib.hasPrefix (restOf r.data.toList) [47] = false) ∨ (((p[0].toNat : Int) == 63) = false ∧ Lib.hasPrefix (restOf r.data.toList) [47] = true))) := by
              rw [← e1]
              rcases ne_case p with ⟨a1, a2⟩ | ⟨a1, a2⟩
              · refine .inl ⟨isEmpty_of a1, ?_⟩
                rw [← Lib.toList_data, a1]; rfl
              · refine .inr ⟨a1, a2, ?_⟩
                have hd := drop_cons p 0 a2
                rw [List.drop_zero] at hd
                have hd2 := hd
                rw [e1, rest_drop] at hd2
                rcases end_next hd2 with h1 | h1
                · right
                  refine ⟨by rw [h1]; rfl, ?_⟩
                  rw [hd, show p[0] = 47 from UInt8.toNat_inj.1 (by rw [h1]; rfl)]
                  simp [Lib.hasPrefix, List.isPrefixOf]
                · left
                  refine ⟨by rw [h1]; rfl, ?_⟩
                  rw [hd, show p[0] = 63 from UInt8.toNat_inj.1 (by rw [h1]; rfl)]
                  simp [Lib.hasPrefix, List.isPrefixOf]
            have zp : p.size ≤ 1000000 := by
              rw [size_list e1, rest_drop, List.length_drop, RL.out]; omega
            have E1 := Lib.hid e1
            clear e1 e2 xs hr2 hst HR
            go_upto_region 22 with fail
            go_cut [90] (fun v wx => v = .bool (!Lib.hasPrefix (restOf r.data.toList) [47]) ∧ wc = wx)
            case first =>
              rcases hpc with ⟨a1, a2⟩ | ⟨a1, a3, (⟨a4, a2⟩ | ⟨a4, a2⟩)⟩
              all_goals
                have A2 := Lib.hid a2
                clear a2
                go_wp2_with fail
                go_meet
                exact ⟨by rw [A2.out]; rfl, rfl⟩
            case rest =>
            obtain ⟨rfl, rfl⟩ := hcut
            clear hpc
            go_upto_if 90 with fail
            go_cut [10] (fun v wx => ∃ q : ByteArray, v = .string q ∧ q.data.toList = pathOf (restOf r.data.toList) ∧ wc = wx)
            case first =>
              cases hb : Lib.hasPrefix (restOf r.data.toList) [47]
              · go_wp2_with fail
                go_meet
                refine ⟨_, rfl, ?_, rfl⟩
                unfold pathOf
                rw [hb, if_neg (by decide), ← E1.out, app_data]
                rfl
              · go_wp2_with fail
                go_meet
                exact ⟨_, rfl, by unfold pathOf; rw [hb, if_pos rfl]; exact E1.out, rfl⟩
            case rest =>
            obtain ⟨q, rfl, hq, rfl⟩ := hcut
            have HQ := Lib.hid hq
            clear hq E1
            cases hP : (portS (hostOf r.data.toList)).2
            · have ht1 := HT3.out
              unfold absT at ht1
              rw [hP, if_neg (by decide)] at ht1
              have HT := Lib.hid ht1
              clear ht1
              have pb := H.cell 0 _ rfl; have qb := H.cell 1 _ rfl; have rb := H.cell 2 _ rfl; have ub := H.free 0 (by simp); have vb := H.free 1 (by simp); have xb := H.free 2 (by simp); have zb := H.lt
              go_wp2_with fail
              refine (unhide cO _).mono ?_; rintro e w' ⟨rfl, rfl⟩
              go_wp2_with fail
              refine bodyPost_ret (Mem.results_cell2 Tryz.results17 (ad := ⟨w.heap.size, 0, none⟩) rfl (tgt_load H _ _ _)) rfl ?_
              exact tp_of HT.out (below3 bel (Nat.le_refl _) _ _ _)
            · have ht1 := HT3.out
              unfold absT at ht1
              rw [hP, if_pos rfl, ← HQ.out] at ht1
              have HT := Lib.hid ht1
              clear ht1
              go_wp2_with fail
              refine (unhide cO _).mono ?_; rintro e w' ⟨rfl, rfl⟩
              go_wp2_with fail
              refine (unhide cL _).mono ?_; rintro e w4 ⟨rfl, hb4⟩
              replace H := H.call hb4
              replace bel := bel.trans (hb4.mono bel.size)
              clear hb4
              have pc := H.cell 0 _ rfl; have qc := H.cell 1 _ rfl; have rc := H.cell 2 _ rfl; have uc := H.free 0 (by simp); have vc := H.free 1 (by simp); have xc := H.free 2 (by simp); have zc := H.lt
              go_wp2_with fail
              refine bodyPost_ret (Mem.results_cell2 Tryz.results17 (ad := ⟨w.heap.size, 0, none⟩) rfl (tgt_load H _ _ _)) rfl ?_
              exact tp_of HT.out (below3 bel (Nat.le_refl _) _ _ _)
end Go.Proofs.YtfkobhagdjaleaaGreatDoor.Sp
