/- HopCalls where the name is no token. -/
import Derived.Test.YtmmldoleillelaaDoorE19
namespace Go.Proofs.YtmmldoleillelaaDoor.Sp
open Go.RowKit Sl

set_option maxRecDepth 100000 in
set_option maxHeartbeats 4000000 in
theorem calls_bad (me ta re bo : ByteArray) (st mi minor : Int) (fs tr : Value) (F T : List Fld) (h1 : me.size ≤ 9223372036854775807) (h2 : ta.size ≤ 9223372036854775807) (h3 : re.size ≤ 9223372036854775807) (h4 : bo.size ≤ 9223372036854775807)
    (hF : F.length ≤ 9223372036854775807) (hT : T.length ≤ 9223372036854775807) (hf : ∀ f ∈ F, f.1.size ≤ 1000000000000000 ∧ f.2.size ≤ 1000000000000000) (ht : ∀ f ∈ T, f.1.size ≤ 1000000000000000 ∧ f.2.size ≤ 1000000000000000)
    (m0 : -9223372036854775808 ≤ mi) (m1 : mi ≤ 9223372036854775807) (k0 : -9223372036854775808 ≤ minor) (k1 : minor ≤ 9223372036854775807)
    (name : ByteArray) (hn : name.size ≤ 9223372036854775807) (hok : tokenS name.data.toList = false) (w : World) (hv : Rd w fs F.length 2 (fldV F)) (hu : Rd w tr T.length 2 (fldV T)) (htab : Pow10 w) :
    Calls Tryd.prog 7 #[.agg (msgV me ta st re mi fs bo tr), .string name, .int .i64 minor] w fun e w' => e = .returned (.bool true) ∧ Below w.heap.size w w' := by
  obtain ⟨ao, cap, rfl⟩ := hv.form
  obtain ⟨bo', caq, rfl⟩ := hu.form
  have HV := hide hv
  have HU := hide hu
  have HTAB := hide htab
  have HOK := Lib.hid hok
  have hlight := hide (fun w' (h : Below w.heap.size w w') => light2_any me ta re bo st mi _ _ F T h1 h2 h3 h4 hF hT hf ht w' (hv.below h) (hu.below h))
  have HB := hide ((Below.refl w.heap.size w).alloc (Nat.le_refl _) (.cells #[.string me, .string ta, .int .i64 st, .string re, .int .i64 mi, .slice ao F.length cap, .string bo, .slice bo' T.length caq] 24))
  have HM := hide (Reg.Has.new w [.string me, .string ta, .int .i64 st, .string re, .int .i64 mi, .slice ao F.length cap, .string bo, .slice bo' T.length caq] 24)
  clear hv hu hf ht htab hok
  unfold msgV at hlight ⊢
  go_enter Tryd.func7, Tryd.ntmps7
  go_upto_region 3 with (go_at_call 8; refine (lives_any _).mono ?_; rintro e w1 ⟨rfl, hb1⟩; have HM := hide ((unhide HM).call hb1); have HB := hide ((unhide HB).trans (hb1.mono (unhide HB).size)); clear hb1)
  go_wp2_with (first
    | (refine wpList_loadM rfl _ rfl w.heap.size rfl _ rfl (unhide HM) ?_)
    | (go_at_call 9; refine (unhide hlight _ (unhide HB)).mono ?_; rintro e w2 ⟨r, rfl, hr, hb2⟩; have HR := hide hr; have HM := hide ((unhide HM).call hb2); have HB := hide ((unhide HB).trans (hb2.mono (unhide HB).size)); clear hr hb2))
  · go_ret
    exact ⟨rfl, unhide HB⟩
  · go_ret
    exact ⟨rfl, unhide HB⟩
  · have hlf := unhide HR (by first | rfl | assumption)
    have hn100 : name.size ≤ 100 := by omega
    have HF1 := hide (light_few1 hlf.1 hlf.2)
    have hfl := hlf.1
    have HSS := hide (sameLF_self (stripF F))
    have HSV := hide (sameLF_self (viaF F (itoaB minor) name))
    have hsl := strip_len F
    have hvl : (viaF F (itoaB minor) name).length ≤ F.length + 1 := set_len F viaN (viaV F (itoaB minor) name)
    clear hlight hlf HR
    go_upto_region 6 with (first
      | (refine wpList_loadM rfl _ rfl w.heap.size rfl _ rfl (unhide HM) ?_)
      | (go_at_call 24; refine (fwd_bad me ta re bo st mi _ _ name (by omega) HOK.out _).mono ?_; rintro e w3 ⟨rfl, hb⟩; unfold noMsg msgV; have HM := hide ((unhide HM).call hb); have HB := hide ((unhide HB).trans (hb.mono (unhide HB).size)); have zw3 := (unhide HM).lt; clear hb))
    have HM := hide ((unhide HM).alloc (.cells #[.string ⟨#[]⟩, .string ⟨#[]⟩, .int .i64 0, .string ⟨#[]⟩, .int .i64 0, .slice none 0 0, .string ⟨#[]⟩, .slice none 0 0] 24))
    have HA := hide (Reg.Has.new w3 [.string ⟨#[]⟩, .string ⟨#[]⟩, .int .i64 0, .string ⟨#[]⟩, .int .i64 0, .slice none 0 0, .string ⟨#[]⟩, .slice none 0 0] 24)
    have HB := hide ((unhide HB).alloc (unhide HB).size (.cells #[.string ⟨#[]⟩, .string ⟨#[]⟩, .int .i64 0, .string ⟨#[]⟩, .int .i64 0, .slice none 0 0, .string ⟨#[]⟩, .slice none 0 0] 24))
    go_upto_region 7 with (first
      | (refine wpList_loadM rfl _ rfl w.heap.size rfl _ rfl (unhide HM) ?_)
      | (go_at_call 27; refine (rfwd_bad me ta re bo st mi _ _ name (by omega) HOK.out _).mono ?_; rintro e w4 ⟨rfl, hb⟩; unfold noMsg msgV; have HM := hide ((unhide HM).call hb); have HB := hide ((unhide HB).trans (hb.mono (unhide HB).size)); have zw4 := (unhide HM).lt; have HA := hide ((unhide HA).call hb); clear hb))
    have HM := (unhide HM).alloc (.cells #[.string ⟨#[]⟩, .string ⟨#[]⟩, .int .i64 0, .string ⟨#[]⟩, .int .i64 0, .slice none 0 0, .string ⟨#[]⟩, .slice none 0 0] 24)
    have HA := (unhide HA).alloc (.cells #[.string ⟨#[]⟩, .string ⟨#[]⟩, .int .i64 0, .string ⟨#[]⟩, .int .i64 0, .slice none 0 0, .string ⟨#[]⟩, .slice none 0 0] 24)
    have HX := Reg.Has.at w4 w4.heap.size [.string ⟨#[]⟩, .string ⟨#[]⟩, .int .i64 0, .string ⟨#[]⟩, .int .i64 0, .slice none 0 0, .string ⟨#[]⟩, .slice none 0 0] 24 rfl
    have HB := (unhide HB).alloc (unhide HB).size (.cells #[.string ⟨#[]⟩, .string ⟨#[]⟩, .int .i64 0, .string ⟨#[]⟩, .int .i64 0, .slice none 0 0, .string ⟨#[]⟩, .slice none 0 0] 24)
    generalize w3.heap.size = ga at *
    generalize hgb : w4.heap.size = gb at HX ⊢
    generalize w4.alloc (.cells #[.string ⟨#[]⟩, .string ⟨#[]⟩, .int .i64 0, .string ⟨#[]⟩, .int .i64 0, .slice none 0 0, .string ⟨#[]⟩, .slice none 0 0] 24) = W at HM HA HX HB ⊢
    have HVW := hide ((unhide HV).below HB)
    have HUW := hide ((unhide HU).below HB)
    have HTW := hide ((unhide HTAB).below HB)
    have HBW := hide HB
    have p10 := HM.cell 0 _ rfl; have p11 := HM.cell 1 _ rfl; have p12 := HM.cell 2 _ rfl; have p13 := HM.cell 3 _ rfl; have p14 := HM.cell 4 _ rfl; have p15 := HM.cell 5 _ rfl; have p16 := HM.cell 6 _ rfl; have p17 := HM.cell 7 _ rfl; have z1 := HM.lt
    have p20 := HA.cell 0 _ rfl; have p21 := HA.cell 1 _ rfl; have p22 := HA.cell 2 _ rfl; have p23 := HA.cell 3 _ rfl; have p24 := HA.cell 4 _ rfl; have p25 := HA.cell 5 _ rfl; have p26 := HA.cell 6 _ rfl; have p27 := HA.cell 7 _ rfl; have z2 := HA.lt
    have p30 := HX.cell 0 _ rfl; have p31 := HX.cell 1 _ rfl; have p32 := HX.cell 2 _ rfl; have p33 := HX.cell 3 _ rfl; have p34 := HX.cell 4 _ rfl; have p35 := HX.cell 5 _ rfl; have p36 := HX.cell 6 _ rfl; have p37 := HX.cell 7 _ rfl; have z3 := HX.lt
    have BW := hide (Below.drew (Below.refl W.heap.size W))
    obtain ⟨hp, hhp⟩ : ∃ hp, hopS name = hp := ⟨_, rfl⟩
    have hh1 := fun w => hop_any name (by omega) w
    have hh2 := fun w => rhop_any name (by omega) w
    rw [hhp] at hh1 hh2
    have HH1 := hide hh1
    have HH2 := hide hh2
    obtain ⟨cl, hcl⟩ : ∃ cl, closesS F mi = cl := ⟨_, rfl⟩
    have hc1 := fun w' (h : Below W.heap.size W w') => closes_any me ta re bo st mi _ _ F T (unhide HF1).few w' ((unhide HVW).below h) ((unhide HUW).below h)
    have hc2 := fun w' (h : Below W.heap.size W w') => rcloses_any me ta re bo st mi _ _ F T (unhide HF1).few w' ((unhide HVW).below h) ((unhide HUW).below h)
    rw [hcl] at hc1 hc2
    unfold msgV at hc1 hc2
    have HC1 := hide hc1
    have HC2 := hide hc2
    clear hh1 hh2 hhp hc1 hc2 hcl HM HA HX HB HV HU HTAB HOK hgb
    simp only [List.append_eq, List.cons_append, List.nil_append]
    refine Reg.region_mix2 opsC (piC0 ++ (piC1 ++ (piC2 ++ (piC3 ++ (piC4 ++ (piC5 ++ piC6)))))) (by kernel_rfl) (by kernel_rfl) selC planC' (of_decide_eq_true (by kernel_rfl)) (by intro c a d v w h; cases d <;> exact h) ?_
    simp only [piC0, piC1, piC2, piC3, piC4, piC5, piC6, List.cons_append, List.nil_append, Reg.pickL, List.getElem?_cons_zero, List.getElem?_cons_succ]
    refine Reg.mix_take 50 (by kernel_rfl) ?_
    simp only [List.take_succ_cons, List.take_zero, List.drop_succ_cons, List.drop_zero]
    repeat (go_big_quiet_step (fail))
    refine wpQuiet_nil ?_
    refine Reg.mix_one (by kernel_rfl) ?_
    go_wp2_with ((go_at_call 16; refine (ksameF_any _ _ [] [] (by simp) (by simp) _ (Rd.nil _ 2) (Rd.nil _ 2)).mono ?_; rintro e w6 ⟨he, hb⟩; rw [sameLF_self] at he; subst he; have BW := hide ((unhide BW).trans (hb.mono (unhide BW).size)); clear hb))
    refine ⟨rfl, ⟨⟨_, unhide BW⟩, rfl⟩, ?_⟩
    refine Reg.mix_take 13 (by kernel_rfl) ?_
    simp only [List.take_succ_cons, List.take_zero, List.drop_succ_cons, List.drop_zero]
    repeat (go_big_quiet_step (fail))
    refine wpQuiet_nil ?_
    refine Reg.mix_one (by kernel_rfl) ?_
    go_wp2_with ((go_at_call 12; refine (unhide HH1 _).mono ?_; rintro e w7 ⟨rfl, hb⟩; have BW := hide ((unhide BW).trans (hb.mono (unhide BW).size)); clear hb))
    refine ⟨rfl, ⟨⟨_, unhide BW⟩, rfl⟩, ?_⟩
    refine Reg.mix_one (by kernel_rfl) ?_
    go_wp2_with ((go_at_call 28; refine (unhide HH2 _).mono ?_; rintro e w8 ⟨rfl, hb⟩; have BW := hide ((unhide BW).trans (hb.mono (unhide BW).size)); clear hb))
    refine ⟨rfl, ⟨⟨_, unhide BW⟩, rfl⟩, ?_⟩
    refine Reg.mix_take 7 (by kernel_rfl) ?_
    simp only [List.take_succ_cons, List.take_zero, List.drop_succ_cons, List.drop_zero]
    repeat (go_big_quiet_step (fail))
    refine wpQuiet_nil ?_
    refine Reg.mix_one (by kernel_rfl) ?_
    go_wp2_with ((go_at_call 10; refine (strip_any _ F (unhide HF1).few _ ((unhide HVW).below (unhide BW))).mono ?_; rintro e w9 ⟨v9, rfl, ho, hb⟩; obtain ⟨ao9, cp9, rfl⟩ := (Rd.own ho).form; have R9 := hide (Rd.own ho); clear ho; have BW := hide ((unhide BW).trans (hb.mono (unhide BW).size)); clear hb))
    refine ⟨rfl, ⟨⟨_, unhide BW⟩, rfl⟩, ?_⟩
    refine Reg.mix_one (by kernel_rfl) ?_
    go_wp2_with ((go_at_call 29; refine (rstrip_any _ F (unhide HF1).few _ ((unhide HVW).below (unhide BW))).mono ?_; rintro e w10 ⟨v10, rfl, ho, hb⟩; obtain ⟨ao10, cp10, rfl⟩ := (Rd.own ho).form; have R10 := hide (Rd.own ho); have R9 := hide ((unhide R9).below hb); clear ho; have BW := hide ((unhide BW).trans (hb.mono (unhide BW).size)); clear hb))
    refine ⟨rfl, ⟨⟨_, unhide BW⟩, rfl⟩, ?_⟩
    refine Reg.mix_one (by kernel_rfl) ?_
    go_wp2_with ((go_at_call 16; refine (ksameF_any _ _ (stripF F) (stripF F) (by omega) (by omega) _ (unhide R9) (unhide R10)).mono ?_; rintro e w11 ⟨he, hb⟩; rw [unhide HSS] at he; subst he; have BW := hide ((unhide BW).trans (hb.mono (unhide BW).size)); clear hb))
    refine ⟨rfl, ⟨⟨_, unhide BW⟩, rfl⟩, ?_⟩
    refine Reg.mix_take 10 (by kernel_rfl) ?_
    simp only [List.take_succ_cons, List.take_zero, List.drop_succ_cons, List.drop_zero]
    repeat (go_big_quiet_step (fail))
    refine wpQuiet_nil ?_
    refine Reg.mix_one (by kernel_rfl) ?_
    go_wp2_with ((go_at_call 22; refine (via2_any _ F minor name (unhide HF1).few k0 k1 (by omega) _ ((unhide HVW).below (unhide BW)) ((unhide HTW).below (unhide BW))).mono ?_; rintro e w12 ⟨v12, rfl, ho, hb⟩; obtain ⟨ao12, cp12, rfl⟩ := (Rd.own ho).form; have R12 := hide (Rd.own ho); clear ho; have BW := hide ((unhide BW).trans (hb.mono (unhide BW).size)); clear hb))
    refine ⟨rfl, ⟨⟨_, unhide BW⟩, rfl⟩, ?_⟩
    refine Reg.mix_one (by kernel_rfl) ?_
    go_wp2_with ((go_at_call 30; refine (rvia_any _ F minor name (unhide HF1).few k0 k1 (by omega) _ ((unhide HVW).below (unhide BW))).mono ?_; rintro e w13 ⟨v13, rfl, ho, hb⟩; obtain ⟨ao13, cp13, rfl⟩ := (Rd.own ho).form; have R13 := hide (Rd.own ho); have R12 := hide ((unhide R12).below hb); clear ho; have BW := hide ((unhide BW).trans (hb.mono (unhide BW).size)); clear hb))
    refine ⟨rfl, ⟨⟨_, unhide BW⟩, rfl⟩, ?_⟩
    refine Reg.mix_one (by kernel_rfl) ?_
    go_wp2_with ((go_at_call 16; refine (ksameF_any _ _ (viaF F (itoaB minor) name) (viaF F (itoaB minor) name) (by omega) (by omega) _ (unhide R12) (unhide R13)).mono ?_; rintro e w14 ⟨he, hb⟩; rw [unhide HSV] at he; subst he; have BW := hide ((unhide BW).trans (hb.mono (unhide BW).size)); clear hb))
    refine ⟨rfl, ⟨⟨_, unhide BW⟩, rfl⟩, ?_⟩
    refine Reg.mix_take 4 (by kernel_rfl) ?_
    simp only [List.take_succ_cons, List.take_zero, List.drop_succ_cons, List.drop_zero]
    repeat (go_big_quiet_step (fail))
    refine wpQuiet_nil ?_
    refine Reg.mix_one (by kernel_rfl) ?_
    go_wp2_with ((go_at_call 26; refine (unhide HC1 _ (unhide BW)).mono ?_; rintro e w15 ⟨rfl, hb⟩; have BW := hide ((unhide BW).trans (hb.mono (unhide BW).size)); clear hb))
    refine ⟨rfl, ⟨⟨_, unhide BW⟩, rfl⟩, ?_⟩
    refine Reg.mix_one (by kernel_rfl) ?_
    go_wp2_with ((go_at_call 31; refine (unhide HC2 _ (unhide BW)).mono ?_; rintro e w16 ⟨rfl, hb⟩; have BW := hide ((unhide BW).trans (hb.mono (unhide BW).size)); clear hb))
    refine ⟨rfl, ⟨⟨_, unhide BW⟩, rfl⟩, ?_⟩
    refine Reg.mix_take 3 (by kernel_rfl) ?_
    simp only [List.take_succ_cons, List.take_zero, List.drop_succ_cons, List.drop_zero]
    repeat (go_big_quiet_step (fail))
    refine wpQuiet_nil ?_
    refine Reg.mix_nil ?_
    go_wp2_with fail
    go_ret
    exact ⟨rfl, (unhide HBW).trans ((unhide BW).mono (unhide HBW).size)⟩

theorem calls_any (me ta re bo : ByteArray) (st mi minor : Int) (fs tr : Value) (F T : List Fld) (h1 : me.size ≤ 9223372036854775807) (h2 : ta.size ≤ 9223372036854775807) (h3 : re.size ≤ 9223372036854775807) (h4 : bo.size ≤ 9223372036854775807)
    (hF : F.length ≤ 9223372036854775807) (hT : T.length ≤ 9223372036854775807) (hf : ∀ f ∈ F, f.1.size ≤ 1000000000000000 ∧ f.2.size ≤ 1000000000000000) (ht : ∀ f ∈ T, f.1.size ≤ 1000000000000000 ∧ f.2.size ≤ 1000000000000000)
    (m0 : -9223372036854775808 ≤ mi) (m1 : mi ≤ 9223372036854775807) (k0 : -9223372036854775808 ≤ minor) (k1 : minor ≤ 9223372036854775807)
    (name : ByteArray) (hn : name.size ≤ 9223372036854775807) (w : World) (hv : Rd w fs F.length 2 (fldV F)) (hu : Rd w tr T.length 2 (fldV T)) (htab : Pow10 w) :
    Calls Tryd.prog 7 #[.agg (msgV me ta st re mi fs bo tr), .string name, .int .i64 minor] w fun e w' => e = .returned (.bool true) ∧ Below w.heap.size w w' := by
  cases h : tokenS name.data.toList
  · exact calls_bad me ta re bo st mi minor fs tr F T h1 h2 h3 h4 hF hT hf ht m0 m1 k0 k1 name hn h w hv hu htab
  · exact calls_good me ta re bo st mi minor fs tr F T h1 h2 h3 h4 hF hT hf ht m0 m1 k0 k1 name hn h w hv hu htab
end Go.Proofs.YtmmldoleillelaaDoor.Sp
