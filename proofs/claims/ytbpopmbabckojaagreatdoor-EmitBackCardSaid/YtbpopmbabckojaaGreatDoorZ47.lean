/- Lemmas for the statement's proof, several texts in one: U3, U4. -/
import Derived.Test.YtbpopmbabckojaaGreatDoorZ45
import Derived.Test.YtbpopmbabckojaaGreatDoorZ46
import Derived.Test.YtbpopmbabckojaaGreatDoorZ06
set_option linter.unusedVariables false
set_option linter.unusedSimpArgs false
/- The reference's decoder: look, of bytes without a flaw. -/
section
namespace Go.Proofs.YtbpopmbabckojaaGreatDoor.Sp
open Go.RowKit Sl

theorem tkG_fuel {L H C : Nat} : ∀ (f g : Nat) (l : List UInt8) (used : Nat) (T : List Fld), l.length < f → l.length < g → tkG L H C f l used T = tkG L H C g l used T
  | 0, _, _, _, _, h, _ => absurd h (by simp)
  | _, 0, _, _, _, _, h => absurd h (by simp)
  | f + 1, g + 1, l, used, T, hf, hg => by
    obtain ⟨⟨n, st⟩, hn⟩ : ∃ r, lnS L 400 l = r := ⟨_, rfl⟩
    have hle := (lnS_le L 400 l).1
    have h2 := lnS_two L 400 l
    rw [hn] at hle h2
    simp only at hle h2
    by_cases hs : st = 0
    · subst hs
      by_cases h0 : n = 0
      · subst h0
        rw [tkG_zero hn, tkG_zero hn]
      · rw [tkG_more hn h0, tkG_more hn h0, tkG_fuel f g (l.drop n) (used + n) _ (by rw [List.length_drop]; omega) (by rw [List.length_drop]; omega)]
    · simp only [tkG, hn]
      rw [if_pos hs, if_pos hs]
theorem dkG_bad {L H C B f : Nat} {l body : List UInt8} {n st : Nat} (h : lnS L 400 l = (n, st)) (hs : st ≠ 0) : (dkG L H C B (f + 1) l body).1 ≠ 0 := by
  simp only [dkG, h]
  rw [if_pos hs]
  exact hs
theorem dkG_zero {L H C B f : Nat} {l body : List UInt8} (h : lnS L 400 l = (0, 0)) : dkG L H C B (f + 1) l body = (0, false, body, []) := by
  simp only [dkG, h]
  simp
theorem dkG_more {L H C B f : Nat} {l body : List UInt8} {n : Nat} (h : lnS L 400 l = (n, 0)) (hn : n ≠ 0) :
    dkG L H C B (f + 1) l body =
      if (sizeF (lnT L 400 l).data.toList).2 ≠ 0 then ((sizeF (lnT L 400 l).data.toList).2, false, body, [])
      else if B - body.length < (sizeF (lnT L 400 l).data.toList).1 then (413, false, body, [])
      else if (sizeF (lnT L 400 l).data.toList).1 = 0 then ((tkG L H C ((l.drop n).length + 1) (l.drop n) 0 []).1, (tkG L H C ((l.drop n).length + 1) (l.drop n) 0 []).2.1, body, (tkG L H C ((l.drop n).length + 1) (l.drop n) 0 []).2.2)
      else if (l.drop n).length ≤ (sizeF (lnT L 400 l).data.toList).1 ∨ (l.drop n).drop (sizeF (lnT L 400 l).data.toList).1 = [13] then (0, false, body ++ (l.drop n).take (sizeF (lnT L 400 l).data.toList).1, [])
      else if ((l.drop n).drop (sizeF (lnT L 400 l).data.toList).1).take 2 ≠ [13, 10] then (400, false, body ++ (l.drop n).take (sizeF (lnT L 400 l).data.toList).1, [])
      else dkG L H C B f ((l.drop n).drop ((sizeF (lnT L 400 l).data.toList).1 + 2)) (body ++ (l.drop n).take (sizeF (lnT L 400 l).data.toList).1) := by
  simp only [dkG, h]
  rw [if_neg (by simp), if_neg hn]
theorem ext_mid (s : ByteArray) (a b : Nat) : (s.extract a b).data.toList = (s.data.toList.drop a).take (b - a) := Lib.extract_data s a b
theorem ofL_app (x y : List UInt8) : ofL (x ++ y) = ofL x ++ ofL y := ba_eq (by show x ++ y = (ofL x ++ ofL y).data.toList; rw [app_data]; rfl)
theorem ofL_ext (s : ByteArray) (a b z : Nat) (h : b - a = min z (s.size - a)) : ofL ((s.data.toList.drop a).take z) = s.extract a b := by
  refine ba_eq ?_
  show (s.data.toList.drop a).take z = (s.extract a b).data.toList
  rw [ext_mid, h]
  have hl : (s.data.toList.drop a).length = s.size - a := by rw [List.length_drop]; simp
  rw [← hl, ← List.take_eq_take_min]

set_option maxRecDepth 100000 in
set_option maxHeartbeats 8000000 in
theorem dlook_any (s out0 : ByteArray) (L H C B d : Nat) (bh0 : Value) (hs : s.size ≤ 100000) (hL : L ≤ 2000) (hH : H ≤ 1000000) (hC : C ≤ 99) (hB : B ≤ 1000000) (w : World) (hd0 : Reg.Has w d (dcV L H C B s 0 false out0 bh0)) (hbad : (dkS L H C B s.data.toList).1 = 0) :
    Calls Tryz.prog 88 #[.pointer (some ⟨d, 0, none⟩)] w fun e w' => e = .returned (.tuple #[]) ∧ ∃ bh, Reg.Has w' d (dcV L H C B s 0 (dkS L H C B s.data.toList).2.1 (ofL (dkS L H C B s.data.toList).2.2.1) bh) ∧ ((dkS L H C B s.data.toList).2.1 = true → RdG w' d bh (dkS L H C B s.data.toList).2.2.2) ∧ But (fun k => k = d) w w' := by
  have hlt0 := hd0.lt
  have HH0 := hide hd0
  have HBAD := Lib.hid hbad
  clear hd0 hbad
  go_enter Tryz.func88, Tryz.ntmps88
  go_wp2_with fail
  go_loopw [2, 3] (fun at_ bd wr => ∃ (k f : Nat) (bo : ByteArray), at_ = .int .i64 k ∧ bd = .string bo ∧ k ≤ s.size ∧ bo.size ≤ B ∧ (s.data.toList.drop k).length < f ∧ dkS L H C B s.data.toList = dkG L H C B f (s.data.toList.drop k) bo.data.toList ∧ Below w.heap.size w wr) (fun at_ _ _ => s.size - (intOf at_).toNat)
  case atStart => exact ⟨0, s.data.toList.length + 1, ⟨#[]⟩, rfl, rfl, Nat.zero_le _, Nat.zero_le _, by simp, rfl, Below.refl _ _⟩
  case round =>
    obtain ⟨k, f0, bo, rfl, rfl, hk, hbo, hf0, hd, hbw⟩ := hrel
    obtain ⟨f, rfl⟩ : ∃ f, f0 = f + 1 := ⟨f0 - 1, by omega⟩
    obtain ⟨l, hl⟩ : ∃ l, s.data.toList.drop k = l := ⟨_, rfl⟩
    have hll : l.length = s.size - k := by rw [← hl, List.length_drop]; simp
    obtain ⟨⟨n, st⟩, hn⟩ : ∃ r, lnS L 400 l = r := ⟨_, rfl⟩
    obtain ⟨t, ht⟩ : ∃ t, lnT L 400 l = t := ⟨_, rfl⟩
    have hts : t.size ≤ 2000 := by rw [← ht]; exact Nat.le_trans (lnT_size L 400 l) hL
    have hnl : n ≤ s.size - k := by have := (lnS_le L 400 l).1; rw [hn] at this; omega
    have hn2 : n = 0 ∨ 2 ≤ n := by have := lnS_two L 400 l; rwa [hn] at this
    have hdr : ∀ n, l.drop n = s.data.toList.drop (k + n) := fun n => by rw [← hl, List.drop_drop]
    have hbl : bo.data.toList.length = bo.size := by simp
    rw [hl] at hd hf0
    have hx : (s.extract k s.size).data.toList = l := by rw [Lib.extract_to_end, hl]
    have hxs : (s.extract k s.size).size = s.size - k := by rw [size_list hx, hll]
    have hln := line5_any (s.extract k s.size) L 400 (by omega)
    unfold lnE at hln
    rw [hx, ht, hn] at hln
    simp only at hln
    have hst0 : st = 0 := by
      rcases Nat.eq_zero_or_pos st with h | h
      · exact h
      · exact absurd (hd ▸ HBAD.out) (dkG_bad hn (by omega))
    subst hst0
    have HLN := hide hln
    have HN := Lib.hid hn
    have HT := Lib.hid ht
    have HD := Lib.hid hd
    have HDR := hide hdr
    have HBW := hide hbw
    have HHR := hide ((unhide HH0).call hbw)
    have HBL := Lib.hid hbl
    clear hd hln hx ht hn hdr hl hbw hbl
    have p0 := (unhide HHR).cell 0 _ rfl
    have p4 := (unhide HHR).cell 4 _ rfl
    have zb := (unhide HHR).lt
    go_upto_region 2 with fail
    refine Reg.region_more (by kernel_rfl) (by kernel_rfl) ?_
    repeat (go_big_quiet_step ((go_at_call 81; exact Reg.Calls.more_same (unhide HLN _))))
    refine wpQuiet_nil ?_
    intro w4 hb4; obtain ⟨hc4, hf4, hz4⟩ := bcell hb4; (try simp at hz4)
    have HH4 := hide ((unhide HHR).call hb4)
    have HB4 := hide ((unhide HBW).trans (hb4.mono (unhide HBW).size))
    clear p0 p4 zb hb4 hc4 hf4 hz4 HHR HLN HBW
    have p3 := (unhide HH4).cell 3 _ rfl
    have p4 := (unhide HH4).cell 4 _ rfl
    have p5 := (unhide HH4).cell 5 _ rfl
    have fz5 := (unhide HH4).free 5 (by simp [dcV])
    have zb := (unhide HH4).lt
    by_cases n0 : n = 0
    · subst n0
      have HE := Lib.hid (HD.out.trans (dkG_zero HN.out))
      clear HD HN HT HBAD
      have q7 := (unhide HH4).cell 7 _ rfl
      have fz7 := (unhide HH4).free 7 (by simp [dcV])
      go_wp2_with fail
      first | go_end0 | refine bodyPost_ret (results_none rfl _ _ _) rfl ?_
      refine ⟨rfl, bh0, ?_, fun e => (by rw [HE.out] at e; cases e), ((But.of_below (S := fun k => k = d) (unhide HB4)).trans (But.set (fun k => k = d) _ (p := ⟨d, 5, none⟩) rfl _) (fun _ _ e => e)).trans (But.set (fun k => k = d) _ (p := ⟨d, 7, none⟩) rfl _) (fun _ _ e => e)⟩
      rw [HE.out]
      exact ((unhide HH4).put 5 (.int .i64 0)).put 7 (.string bo)
    · have he := HD.out.trans (dkG_more HN.out n0)
      rw [HT.out] at he
      have hn2' : 2 ≤ n := by omega
      obtain ⟨⟨z, sz⟩, hz⟩ : ∃ r, sizeF t.data.toList = r := ⟨_, rfl⟩
      have hz53 : z ≤ 9007199254740991 := by have := sizeF_le t.data.toList; rw [hz] at this; exact this
      have hsize := rsize_any t (by omega)
      unfold sizeE at hsize
      rw [hz] at hsize he
      simp only at hsize he
      have hsz0 : sz = 0 := by
        rcases Nat.eq_zero_or_pos sz with h | h
        · exact h
        · rw [if_pos (by omega)] at he
          have := HBAD.out
          rw [he] at this
          exact this
      subst hsz0
      rw [if_neg (by simp)] at he
      have hzB : ¬ B - bo.data.toList.length < z := by
        intro hh
        rw [if_pos hh] at he
        have := HBAD.out
        rw [he] at this
        cases this
      rw [if_neg hzB] at he
      rw [HBL.out] at hzB
      have HSZ := hide hsize
      have hzc : decide (((B : Int) - (bo.size : Int)) < (z : Int)) = false := decide_eq_false (by omega)
      clear hsize hz HD HN HT n0 hn2
      go_upto_region 5 with fail
      go_wp2_with fail
      refine (unhide HSZ _).mono ?_; rintro e w5 ⟨rfl, rfl⟩
      clear HSZ
      by_cases hz0 : z = 0
      · subst hz0
        rw [if_pos rfl] at he
        rw [(unhide HDR) n, tkG_fuel _ (s.size + 1) _ 0 [] (Nat.lt_succ_self _) (by rw [List.length_drop]; simp; omega)] at he
        have HE := Lib.hid he
        have hbt : (tkG L H C (s.size + 1) (s.data.toList.drop (k + n)) 0 []).1 = 0 := by have := HBAD.out; rw [he] at this; exact this
        have q7 := (unhide HH4).cell 7 _ rfl
        have fz7 := (unhide HH4).free 7 (by simp [dcV])
        have HQT := hide (fun w1 (h1 : Reg.Has w1 d (dcV L H C B s 0 false bo bh0)) => trailers_any s bo (k + n) L H C B d bh0 hs (by omega) hL hH hC w1 h1 hbt)
        clear he hbt HBAD
        go_upto_region 13 with fail
        have HH6 := hide ((unhide HH4).put 7 (.string bo))
        have HU6 := hide ((But.of_below (S := fun k => k = d) (unhide HB4)).trans (But.set (fun k => k = d) _ (p := ⟨d, 7, none⟩) rfl (.string bo)) (fun _ _ e => e))
        generalize World.setCell _ ⟨d, 7, none⟩ _ = w6 at HH6 HU6 ⊢
        clear p3 p4 p5 fz5 zb q7 fz7 HH4 HB4
        have q := hide ((unhide HQT) w6 (unhide HH6))
        clear HQT
        go_wp2_with fail
        refine (unhide q).mono ?_; rintro e w7 ⟨rfl, bh, hh7, hr7, hu7⟩
        have H7 := hide hh7
        have R7 := hide hr7
        have U7 := hide hu7
        clear hh7 hr7 hu7 q
        go_wp2_with fail
        first | go_end0 | refine bodyPost_ret (results_none rfl _ _ _) rfl ?_
        refine ⟨rfl, bh, ?_, fun _ => ?_, (unhide HU6).trans (unhide U7) (fun _ _ e => e)⟩
        · rw [HE.out]; exact unhide H7
        · rw [HE.out]; exact unhide R7
      · rw [if_neg hz0] at he
        have hbl1 : (l.drop n).length = s.size - (k + n) := by rw [List.length_drop, hll]; omega
        have hdn := (unhide HDR) n
        obtain ⟨m1, hm1⟩ : ∃ m1, s.size - (k + n) = m1 := ⟨_, rfl⟩
        have e1 : (s.size : Int) - ((k : Int) + (n : Int)) = (m1 : Int) := by omega
        have hz1 : ((z : Int) == 0) = false := by rw [beq_eq_false_iff_ne]; omega
        have hz2 : ¬ (z : Int) = 0 := by omega
        rw [hbl1, hm1, hdn] at he
        clear hbl1 hdn
        rcases Nat.lt_or_ge z m1 with hlt | hge
        · have hmin : min (z : Int) (m1 : Int) = (z : Int) := by omega
          have hzz : (s.extract (k + n) (k + n + z)).size = z := by rw [ByteArray.size_extract]; omega
          have hrest : (s.extract (k + n + z) s.size).data.toList = (s.data.toList.drop (k + n)).drop z := by rw [Lib.extract_to_end, List.drop_drop]
          have hrs : (s.extract (k + n + z) s.size).size = m1 - z := by rw [ByteArray.size_extract]; omega
          have hcap := ofL_ext s (k + n) (k + n + z) z (by omega)
          obtain ⟨R, hR⟩ : ∃ R, s.extract (k + n + z) s.size = R := ⟨_, rfl⟩
          rw [hR] at hrest hrs
          rw [← hrest] at he
          have hRne : R.toList.isEmpty = false := by rw [Lib.toList_data]; cases hh : R.data.toList with
            | nil => have : R.size = 0 := by rw [size_list hh]; rfl
                     omega
            | cons a b => rfl
          cases h13 : (R.toList == [13])
          · have hno : R.data.toList ≠ [13] := fun e => by rw [Lib.toList_data, e] at h13; simp at h13
            rw [if_neg (by rintro (h | h); omega; exact hno h)] at he
            have h1310 : R.data.toList.take 2 = [13, 10] := by
              by_cases hh : R.data.toList.take 2 = [13, 10]
              · exact hh
              · rw [if_pos hh] at he
                have := HBAD.out
                rw [he] at this
                cases this
            rw [if_neg (by rw [h1310]; simp)] at he
            obtain ⟨rt, hrt⟩ : ∃ rt, R.data.toList = 13 :: 10 :: rt := by
              cases hh : R.data.toList with
              | nil => rw [hh] at h1310; simp at h1310
              | cons a b =>
                rw [hh] at h1310
                cases b with
                | nil => simp at h1310
                | cons c b => simp at h1310; exact ⟨b, by rw [h1310.1, h1310.2]⟩
            have hR2 : 2 ≤ R.size := by rw [size_list hrt]; simp
            have hr0 : R[0] = 13 := by show R.data[0]'(show 0 < R.size by omega) = 13; have := List.getElem_of_eq hrt (i := 0) (by simpa using (by omega : 0 < R.size)); simpa using this
            have hr1 : R[1] = 10 := by show R.data[1]'(show 1 < R.size by omega) = 10; have := List.getElem_of_eq hrt (i := 1) (by simpa using (by omega : 1 < R.size)); simpa using this
            rw [List.drop_drop, show k + n + (z + 2) = k + n + z + 2 by omega] at he
            have he2 : dkS L H C B s.data.toList = dkG L H C B f (s.data.toList.drop (k + n + z + 2)) (bo ++ s.extract (k + n) (k + n + z)).data.toList := by
              rw [he, app_data]
              congr 2
              simp [ofL_data]
            have HE2 := Lib.hid he2
            have hfl : (s.data.toList.drop (k + n + z + 2)).length < f := by rw [List.length_drop]; simp; omega
            have hbs : (bo ++ s.extract (k + n) (k + n + z)).size = bo.size + z := by
              have hd := app_data bo (s.extract (k + n) (k + n + z))
              rw [size_list hd, List.length_append]
              have e1 : bo.data.toList.length = bo.size := by simp
              have e2 : (s.extract (k + n) (k + n + z)).data.toList.length = (s.extract (k + n) (k + n + z)).size := (size_list rfl).symm
              omega
            clear he he2 hcap hrest h1310 hrt HBAD HDR
            go_wp2_with fail
            go_roundw
            case rel => exact ⟨k + n + z + 2, f, _, by go_num, rfl, by omega, by omega, hfl, HE2.out, unhide HB4⟩
            case measure => simp [intOf]; omega
          · have hyes : R.data.toList = [13] := by rw [← Lib.toList_data]; simpa using h13
            rw [if_pos (.inr hyes)] at he
            have HE := Lib.hid he
            have HCAP := Lib.hid hcap
            clear he hcap hrest hyes HBAD HDR
            have q7 := (unhide HH4).cell 7 _ rfl
            have fz7 := (unhide HH4).free 7 (by simp [dcV])
            go_wp2_with fail
            first | go_end0 | refine bodyPost_ret (results_none rfl _ _ _) rfl ?_
            refine ⟨rfl, bh0, ?_, fun e => (by rw [HE.out] at e; cases e), (But.of_below (S := fun k => k = d) (unhide HB4)).trans (But.set (fun k => k = d) _ (p := ⟨d, 7, none⟩) rfl _) (fun _ _ e => e)⟩
            rw [HE.out]
            show Reg.Has _ d (dcV L H C B s 0 false (ofL (bo.data.toList ++ (s.data.toList.drop (k + n)).take z)) bh0)
            rw [ofL_app, ofL_of, HCAP.out]
            exact (unhide HH4).put 7 (.string (bo ++ s.extract (k + n) (k + n + z)))
        · have hmin : min (z : Int) (m1 : Int) = (m1 : Int) := by omega
          rw [if_pos (.inl hge)] at he
          have hcap := ofL_ext s (k + n) (k + n + m1) z (by omega)
          have hzz : (s.extract (k + n) (k + n + m1)).size = m1 := by rw [ByteArray.size_extract]; omega
          have HE := Lib.hid he
          have HCAP := Lib.hid hcap
          have hrs : (s.extract (k + n + m1) s.size).size = 0 := by rw [ByteArray.size_extract]; omega
          obtain ⟨R, hR⟩ : ∃ R, s.extract (k + n + m1) s.size = R := ⟨_, rfl⟩
          rw [hR] at hrs
          have hRe : R.toList.isEmpty = true := by
            rw [Lib.toList_data, List.isEmpty_iff]
            exact List.eq_nil_of_length_eq_zero (by simpa using hrs)
          clear he hcap HBAD HDR
          rcases Nat.lt_or_ge m1 z with h2 | h2
          · have hc2 : decide ((m1 : Int) < (z : Int)) = true := decide_eq_true (by omega)
            have q7 := (unhide HH4).cell 7 _ rfl
            have fz7 := (unhide HH4).free 7 (by simp [dcV])
            go_wp2_with fail
            first | go_end0 | refine bodyPost_ret (results_none rfl _ _ _) rfl ?_
            refine ⟨rfl, bh0, ?_, fun e => (by rw [HE.out] at e; cases e), (But.of_below (S := fun k => k = d) (unhide HB4)).trans (But.set (fun k => k = d) _ (p := ⟨d, 7, none⟩) rfl _) (fun _ _ e => e)⟩
            rw [HE.out]
            show Reg.Has _ d (dcV L H C B s 0 false (ofL (bo.data.toList ++ (s.data.toList.drop (k + n)).take z)) bh0)
            rw [ofL_app, ofL_of, HCAP.out]
            exact (unhide HH4).put 7 (.string (bo ++ s.extract (k + n) (k + n + m1)))
          · have hc2 : decide ((m1 : Int) < (z : Int)) = false := decide_eq_false (by omega)
            have q7 := (unhide HH4).cell 7 _ rfl
            have fz7 := (unhide HH4).free 7 (by simp [dcV])
            go_wp2_with fail
            first | go_end0 | refine bodyPost_ret (results_none rfl _ _ _) rfl ?_
            refine ⟨rfl, bh0, ?_, fun e => (by rw [HE.out] at e; cases e), (But.of_below (S := fun k => k = d) (unhide HB4)).trans (But.set (fun k => k = d) _ (p := ⟨d, 7, none⟩) rfl _) (fun _ _ e => e)⟩
            rw [HE.out]
            show Reg.Has _ d (dcV L H C B s 0 false (ofL (bo.data.toList ++ (s.data.toList.drop (k + n)).take z)) bh0)
            rw [ofL_app, ofL_of, HCAP.out]
            exact (unhide HH4).put 7 (.string (bo ++ s.extract (k + n) (k + n + m1)))
end Go.Proofs.YtbpopmbabckojaaGreatDoor.Sp
end

/- The reference's decoder: Feed, of bytes without a flaw. -/
section
namespace Go.Proofs.YtbpopmbabckojaaGreatDoor.Sp
open Go.RowKit Sl

theorem ext_take (s : ByteArray) (k : Nat) : (s.extract 0 k).data.toList = s.data.toList.take k := by rw [Lib.extract_data]; simp
theorem dkS_nil {L H C B : Nat} (hL : 0 < L) : dkS L H C B [] = (0, false, [], []) := by
  unfold dkS
  exact dkG_zero (by unfold lnS lnG; rw [if_neg (by omega)])
/-- a decoder that was fed s -/
def DcAt (w : World) (d L H C B : Nat) (s : ByteArray) (bh : Value) : Prop :=
  Reg.Has w d (dcV L H C B s 0 (dkS L H C B s.data.toList).2.1 (ofL (dkS L H C B s.data.toList).2.2.1) bh) ∧ ((dkS L H C B s.data.toList).2.1 = true → RdG w d bh (dkS L H C B s.data.toList).2.2.2)
theorem DcAt.call {w w' : World} {d L H C B : Nat} {s : ByteArray} {bh : Value} (h : DcAt w d L H C B s bh) (hb : Below w.heap.size w w') : DcAt w' d L H C B s bh := ⟨h.1.call hb, fun e => (h.2 e).call hb⟩

set_option maxRecDepth 100000 in
set_option maxHeartbeats 4000000 in
theorem dfeed_any (s : ByteArray) (L H C B d : Nat) (bh0 : Value) (hs : s.size ≤ 100000) (hL0 : 0 < L) (hL : L ≤ 2000) (hH : H ≤ 1000000) (hC : C ≤ 99) (hB : B ≤ 1000000) (w : World) (hd0 : Reg.Has w d (dcV L H C B ⟨#[]⟩ 0 false ⟨#[]⟩ bh0))
    (hstay : ∀ k, k < s.size → (dkS L H C B (s.data.toList.take k)).1 = 0 ∧ (dkS L H C B (s.data.toList.take k)).2.1 = false) (hlast : (dkS L H C B s.data.toList).1 = 0) :
    Calls Tryz.prog 67 #[.pointer (some ⟨d, 0, none⟩), .string s] w fun e w' => e = .returned (.tuple #[.int .i64 (s.size : Int), .int .i64 0]) ∧ ∃ bh, DcAt w' d L H C B s bh ∧ But (fun k => k = d) w w' := by
  have hlt0 := hd0.lt
  have hex0 : s.extract 0 0 = ⟨#[]⟩ := by apply ba_eq; rw [Lib.extract_data]; simp
  have hst0 : DcAt w d L H C B (s.extract 0 0) bh0 := by
    have e : (s.extract 0 0).data.toList = [] := by rw [ext_take]; rfl
    unfold DcAt
    rw [e, dkS_nil hL0, hex0]
    exact ⟨hd0, fun h => by cases h⟩
  have HS0 := hide hst0
  have HSTAY := hide hstay
  have HLAST := Lib.hid hlast
  have hall : s.extract 0 s.size = s := by apply ba_eq; rw [ext_take, List.take_of_length_le (by simp)]
  have HALL := Lib.hid hall
  clear hd0 hst0 hstay hlast hall hex0
  go_enter Tryz.func67, Tryz.ntmps67
  go_wp2_with fail
  go_loopw [6] (fun i wr => ∃ (k : Nat) (bh : Value), i = .int .i64 k ∧ k ≤ s.size ∧ But (fun k => k = d) w wr ∧ DcAt wr d L H C B (s.extract 0 k) bh) (fun i _ => s.size - (intOf i).toNat)
  case atStart => exact ⟨0, bh0, rfl, Nat.zero_le _, But.refl _ _, unhide HS0⟩
  case round =>
    obtain ⟨k, bh, rfl, hk, hu, hst⟩ := hrel
    rcases Nat.lt_or_ge k s.size with hlt | hge
    · have hen : (dkS L H C B (s.extract 0 k).data.toList).2.1 = false := by rw [ext_take]; exact ((unhide HSTAY) k hlt).2
      have hh := hst.1
      rw [hen] at hh
      obtain ⟨ou, hou⟩ : ∃ ou, ofL (dkS L H C B (s.extract 0 k).data.toList).2.2.1 = ou := ⟨_, rfl⟩
      rw [hou] at hh
      have HP1 := hide hh
      have HU := hide hu
      have p4 := hh.cell 4 _ rfl
      have fz4 := hh.free 4 (by simp [dcV])
      have p5 := hh.cell 5 _ rfl
      have p6 := hh.cell 6 _ rfl
      have zb := hh.lt
      clear hst hu hh hen hou
      have z1 : (s.extract 0 k).size = k := by rw [ByteArray.size_extract]; omega
      have z2 : (s.extract k (k + 1)).size = 1 := by rw [ByteArray.size_extract]; omega
      go_upto_region 6 with fail
      refine Reg.region_more_barT 13 (by kernel_rfl) (by kernel_rfl) (by intro c a d v w h; cases d <;> exact h) ?_
      simp only [List.take_succ_cons, List.take_zero, List.drop_succ_cons, List.drop_zero]
      repeat (go_big_quiet_step (fail))
      refine wpQuiet_nil ?_
      intro w3 hb3; obtain ⟨hc3, hf3, hz3⟩ := bcell hb3; (try simp at hz3)
      have HP3 := hide ((unhide HP1).call hb3)
      have HU3 := hide ((unhide HU).trans (But.of_below (S := fun k => k = d) hb3) (fun _ _ e => e))
      clear p4 fz4 p5 p6 zb hb3 hc3 hf3 hz3 HP1 HU
      have p4 := (unhide HP3).cell 4 _ rfl
      have fz4 := (unhide HP3).free 4 (by simp [dcV])
      have zb := (unhide HP3).lt
      go_upto_region 7 with fail
      have HU4 := hide ((unhide HU3).trans (But.set (fun k => k = d) w3 (p := ⟨d, 4, none⟩) rfl (.string (s.extract 0 (k + 1)))) (fun _ _ e => e))
      have HP4 : Hid (Reg.Has (w3.setCell ⟨d, 4, none⟩ (.string (s.extract 0 (k + 1)))) d (dcV L H C B (s.extract 0 (k + 1)) 0 false ou bh)) := hide ((unhide HP3).put 4 _)
      generalize World.setCell _ ⟨d, 4, none⟩ _ = w4 at HU4 HP4 ⊢
      clear p4 fz4 zb HP3 HU3 z1 z2
      have hb1 : (dkS L H C B (s.extract 0 (k + 1)).data.toList).1 = 0 := by
        rcases Nat.lt_or_ge (k + 1) s.size with h | h
        · rw [ext_take]; exact ((unhide HSTAY) (k + 1) h).1
        · rw [show k + 1 = s.size by omega, HALL.out]; exact HLAST.out
      have hz : (s.extract 0 (k + 1)).size ≤ 100000 := by rw [ByteArray.size_extract]; omega
      have q := hide (dlook_any (s.extract 0 (k + 1)) ou L H C B d bh hz hL hH hC hB w4 (unhide HP4) hb1)
      clear hb1 hz
      go_wp2_with fail
      refine (unhide q).mono ?_; rintro e w5 ⟨rfl, bh', hp5, hr5, hu5⟩
      have p5 := hp5.cell 5 _ rfl
      have zb := hp5.lt
      have HP5 := hide hp5
      have HR5 := hide hr5
      have HU5 := hide ((unhide HU4).trans hu5 (fun _ _ e => e))
      clear hp5 hr5 hu5 q HP4 HU4
      go_wp2_with fail
      go_roundw
      case rel => exact ⟨k + 1, bh', by go_num, by omega, unhide HU5, unhide HP5, unhide HR5⟩
      case measure => simp [intOf]; omega
    · obtain rfl : k = s.size := by omega
      rw [HALL.out] at hst
      have HD := hide hst
      have HU := hide hu
      have p5 := hst.1.cell 5 _ rfl
      have zb := hst.1.lt
      clear hst hu
      have gk : decide ((s.size : Int) < s.size) = false := decide_eq_false (by omega)
      go_upto_region 10 with fail
      refine Reg.region_more (by kernel_rfl) (by kernel_rfl) ?_
      repeat (go_big_quiet_step (fail))
      refine wpQuiet_nil ?_
      intro w3 hb3; obtain ⟨hc3, hf3, hz3⟩ := bcell hb3; (try simp at hz3)
      have HD3 := hide ((unhide HD).call hb3)
      have HU3 := hide ((unhide HU).trans (But.of_below (S := fun k => k = d) hb3) (fun _ _ e => e))
      clear hb3 hc3 hf3 hz3
      go_wp2_with fail
      go_ret2
      exact ⟨rfl, bh, unhide HD3, unhide HU3⟩
end Go.Proofs.YtbpopmbabckojaaGreatDoor.Sp
end
