/- HopOnce, the walk. -/
import Derived.Test.YtmmldoleillelaaDoorE12
import Derived.Test.YtmmldoleillelaaDoorE13
import Derived.Test.YtmmldoleillelaaDoorE17
import Derived.Test.YtmmldoleillelaaDoorE3
import Derived.Test.YtmmldoleillelaaDoorReg3
namespace Go.Proofs.YtmmldoleillelaaDoor.Sp
open Go.RowKit Sl

theorem fwdO_good (me ta re bo : ByteArray) (st mi : Int) (fs tr : Value) (F : List Fld) (hF : Few1 F) (h0 : -9223372036854775808 ≤ mi) (h1 : mi ≤ 9223372036854775807) (name : ByteArray) (hn : name.size ≤ 2000) (hok : tokenS name.data.toList = true) (w : World) (hv : Rd w fs F.length 2 (fldV F)) (hu : ∃ ao n c, tr = .slice ao n c) (ht : Pow10 w) :
    Calls Tryd.prog 24 #[.agg (msgV me ta st re mi fs bo tr), .string name] w (FwdOut w me ta re bo st F mi name) := by
  rcases ne_case me with ⟨e, _⟩ | ⟨e, _⟩
  · exact fwd_a me ta re bo st mi fs tr F hF h0 h1 name hn hok w hv hu ht e
  · cases h : (allB (delF (delF (stripF F) clB) exB) hoB).isEmpty
    · exact fwd_b me ta re bo st mi fs tr F hF h0 h1 name hn hok w hv hu ht e h
    · exact fwd_c me ta re bo st mi fs tr F hF h0 h1 name hn hok w hv hu ht e h

set_option maxRecDepth 100000 in
set_option maxHeartbeats 4000000 in
theorem once_good (me ta re bo : ByteArray) (st mi : Int) (fs tr : Value) (F T : List Fld) (h1 : me.size ≤ 9223372036854775807) (h2 : ta.size ≤ 9223372036854775807) (h3 : re.size ≤ 9223372036854775807) (h4 : bo.size ≤ 9223372036854775807)
    (hF : F.length ≤ 9223372036854775807) (hT : T.length ≤ 9223372036854775807) (hf : ∀ f ∈ F, f.1.size ≤ 1000000000000000 ∧ f.2.size ≤ 1000000000000000) (ht : ∀ f ∈ T, f.1.size ≤ 1000000000000000 ∧ f.2.size ≤ 1000000000000000)
    (m0 : -9223372036854775808 ≤ mi) (m1 : mi ≤ 9223372036854775807)
    (p q : ByteArray) (hp : p.size ≤ 9223372036854775807) (hq : q.size ≤ 9223372036854775807) (hokp : tokenS p.data.toList = true) (w : World) (hv : Rd w fs F.length 2 (fldV F)) (hu : Rd w tr T.length 2 (fldV T)) (htab : Pow10 w) :
    Calls Tryd.prog 5 #[.agg (msgV me ta st re mi fs bo tr), .string p, .string q] w fun e w' => e = .returned (.bool true) ∧ Below w.heap.size w w' := by
  obtain ⟨ao, cap, rfl⟩ := hv.form
  obtain ⟨bo', caq, rfl⟩ := hu.form
  have HV := hide hv
  have HTAB := hide htab
  have HOKP := Lib.hid hokp
  have hlight := hide (fun w' (h : Below w.heap.size w w') => light2_any me ta re bo st mi _ _ F T h1 h2 h3 h4 hF hT hf ht w' (hv.below h) (hu.below h))
  have HB := hide ((Below.refl w.heap.size w).alloc (Nat.le_refl _) (.cells #[.string me, .string ta, .int .i64 st, .string re, .int .i64 mi, .slice ao F.length cap, .string bo, .slice bo' T.length caq] 24))
  have HM := hide (Reg.Has.new w [.string me, .string ta, .int .i64 st, .string re, .int .i64 mi, .slice ao F.length cap, .string bo, .slice bo' T.length caq] 24)
  clear hv hu hf ht htab hokp
  unfold msgV at hlight ⊢
  go_enter Tryd.func5, Tryd.ntmps5
  go_upto_region 3 with (go_at_call 8; refine (lives_any _).mono ?_; rintro e w1 ⟨rfl, hb1⟩; have HM := hide ((unhide HM).call hb1); have HB := hide ((unhide HB).trans (hb1.mono (unhide HB).size)); clear hb1)
  go_wp2_with (first
    | (refine wpList_loadM rfl _ rfl w.heap.size rfl _ rfl (unhide HM) ?_)
    | (go_at_call 9; refine (unhide hlight _ (unhide HB)).mono ?_; rintro e w2 ⟨r, rfl, hr, hb2⟩; have HR := hide hr; have HM := hide ((unhide HM).call hb2); have HB := hide ((unhide HB).trans (hb2.mono (unhide HB).size)); clear hr hb2))
  · go_ret
    exact ⟨rfl, unhide HB⟩
  · go_ret
    exact ⟨rfl, unhide HB⟩
  · go_ret
    exact ⟨rfl, unhide HB⟩
  · have hlf := unhide HR (by first | rfl | assumption)
    have hp100 : p.size ≤ 100 := by omega
    have hq100 : q.size ≤ 100 := by omega
    have HF1 := hide (light_few1 hlf.1 hlf.2)
    have hfl := hlf.1
    have hX1 := fwd_few hlf.1 hlf.2 me mi m0 m1 p hp100
    have hX2 := fwd2_few hlf.1 hlf.2 me mi m0 m1 p q hp100 hq100
    have HX1 := hide hX1.1
    have hgx := hX1.2
    have HX2 := hide hX2
    have hxl := hX1.1.1
    have hhop := hide (fun f (hf : f ∈ fwdF me F mi p) => fwd_hop hf)
    have hown := hide (fun x (hx : x ∈ listB F connB) => @fwd_own me F mi p x hx)
    have HDEL := hide (fwd_del me F mi 1 p q)
    have HVIA := hide (fwd_via me F mi p q)
    have hyl := hX2.1
    clear hlight hlf HR hX1 hX2
    go_upto_region 6 with (first
      | (refine wpList_loadM rfl _ rfl w.heap.size rfl _ rfl (unhide HM) ?_)
      | (go_at_call 24; refine (fwdO_good me ta re bo st mi _ _ F (unhide HF1) m0 m1 p (by omega) HOKP.out _ ((unhide HV).below (unhide HB)) ⟨_, _, _, rfl⟩ ((unhide HTAB).below (unhide HB))).mono ?_; rintro e w3 ⟨v3, rfl, ho, hb⟩; unfold msgV; obtain ⟨ao3, cp3, rfl⟩ := (Rd.own ho).form; have RA := hide (Rd.own ho); have HM := hide ((unhide HM).call hb); have HB := hide ((unhide HB).trans (hb.mono (unhide HB).size)); have z3 := (unhide HM).lt; clear ho hb))
    have p5 := (unhide HM).cell 5 _ rfl
    obtain ⟨X, hX⟩ : ∃ X, fwdF me F mi p = X := ⟨_, rfl⟩
    rw [hX] at RA HX1 HX2 hgx hxl hyl hhop hown HDEL HVIA ⊢
    obtain ⟨Y, hY⟩ : ∃ Y, fwdF me X 1 q = Y := ⟨_, rfl⟩
    rw [hY] at HX2 hyl HDEL HVIA
    have HY := Lib.hid hY
    clear hX hY
    have HM := hide ((unhide HM).alloc (.cells #[.string me, .string ta, .int .i64 st, .string re, .int .i64 1, .slice ao3 X.length cp3, .string bo, .slice none 0 0] 24))
    have HA := hide (Reg.Has.new w3 [.string me, .string ta, .int .i64 st, .string re, .int .i64 1, .slice ao3 X.length cp3, .string bo, .slice none 0 0] 24)
    have HB := hide ((unhide HB).alloc (unhide HB).size (.cells #[.string me, .string ta, .int .i64 st, .string re, .int .i64 1, .slice ao3 X.length cp3, .string bo, .slice none 0 0] 24))
    have RA := hide ((unhide RA).alloc (.cells #[.string me, .string ta, .int .i64 st, .string re, .int .i64 1, .slice ao3 X.length cp3, .string bo, .slice none 0 0] 24))
    have hlist := hide (fun w' (h : Below w.heap.size w w') => rlist_any _ F connB (unhide HF1).few (by decide) w' ((unhide HV).below h))
    have hfew := listB_few (unhide HF1).few connB
    have hsm : ∀ x ∈ listB F connB, x.size ≤ 2000 := fun x hx => by
      unfold listB flatB at hx
      obtain ⟨s, hs, hx⟩ := List.mem_flatMap.1 hx
      have e1 := splitB_size s x hx
      have e2 := (allB_small (unhide HF1).few connB).2 s hs
      omega
    obtain ⟨M, hM⟩ : ∃ M, listB F connB = M := ⟨_, rfl⟩
    rw [hM] at hlist hfew hsm hown
    have HSM := hide hsm
    have hml := hfew.1
    clear hM hfew hsm
    go_wp2_with (go_at_call 11; refine (unhide hlist _ (unhide HB)).mono ?_; rintro e w4 ⟨v4, rfl, ho, hb⟩; obtain ⟨ao4, cp4, rfl⟩ := (Rd.own ho).form; have R4 := hide (Rd.own ho); have HM := hide ((unhide HM).call hb); have HA := hide ((unhide HA).call hb); have HB := hide ((unhide HB).trans (hb.mono (unhide HB).size)); have RA := hide ((unhide RA).below hb); clear ho hb)
    have p25 := (unhide HA).cell 5 _ rfl
    clear hlist p5 z3
    go_loopw [10] (fun i wr => ∃ k : Nat, i = .int .i64 k ∧ k ≤ X.length ∧ Below w4.heap.size w4 wr) (fun i _ => X.length - (intOf i).toNat)
    case atStart => exact ⟨0, rfl, Nat.zero_le _, Below.refl _ _⟩
    case round =>
      obtain ⟨k, rfl, hk, hbel⟩ := hrel
      have HBEL := hide hbel
      have q25 := cell_call hbel p25
      rcases Nat.lt_or_ge k X.length with hlt | hge
      · have hhp := unhide hhop X[k] (List.getElem_mem _)
        have hsz := ((unhide HX1).2 X[k] (List.getElem_mem _)).1
        obtain ⟨b, off, rfl, hbk, c1, c2⟩ := fld_cells ((unhide RA).below hbel) rfl k hlt
        have hc := hop_any X[k].1 (by omega) wr
        rw [hhp] at hc
        have HC := hide hc
        clear hc hbel hhp c2 p25
        go_wp2_with (go_at_call 12; refine (unhide HC).mono ?_; rintro e w6 ⟨rfl, hb6⟩; have HB6 := hide ((unhide HBEL).trans (hb6.mono (unhide HBEL).size)); clear hb6)
        go_roundw
        case rel => exact ⟨k + 1, by go_num, by omega, unhide HB6⟩
        case measure => simp [intOf]; omega
      · have HM := hide ((unhide HM).call hbel)
        have HA := hide ((unhide HA).call hbel)
        have HB := hide ((unhide HB).trans (hbel.mono (unhide HB).size))
        have RA := hide ((unhide RA).below hbel)
        have R4 := hide ((unhide R4).below hbel)
        clear p25 hbel HBEL
        have hke : k = X.length := by omega
        subst hke
        go_wp2_with fail
        clear q25
        generalize wr = w5 at *
        have p10 := (unhide HM).cell 0 _ rfl
        have p25 := (unhide HA).cell 5 _ rfl
        go_loopw [11] (fun i wr => ∃ k : Nat, i = .int .i64 k ∧ k ≤ M.length ∧ Below w5.heap.size w5 wr) (fun i _ => M.length - (intOf i).toNat)
        case atStart => exact ⟨0, rfl, Nat.zero_le _, Below.refl _ _⟩
        case round =>
          obtain ⟨k, rfl, hk, hbel⟩ := hrel
          have HBEL := hide hbel
          rcases Nat.lt_or_ge k M.length with hlt | hge
          · obtain ⟨b, off, rfl, hbk, c1⟩ := str_cell ((unhide R4).below hbel) k hlt
            have q10 := cell_call hbel p10
            have q25 := cell_call hbel p25
            have z10 := World.block_lt_of_cell? wr _ q10
            have z25 := World.block_lt_of_cell? wr _ q25
            have hsz := (unhide HSM) M[k] (List.getElem_mem _)
            have hw := unhide hown M[k] (List.getElem_mem _)
            obtain ⟨y, hy⟩ : ∃ y, M[k] = y := ⟨_, rfl⟩
            rw [hy] at c1 hsz hw
            obtain ⟨th, hth⟩ : ∃ th, (!(allB X y).isEmpty) = th := ⟨_, rfl⟩
            obtain ⟨sv, hsv⟩ : ∃ sv, same y.data.toList viaN.data.toList = sv := ⟨_, rfl⟩
            obtain ⟨sh, hsh⟩ : ∃ sh, same y.data.toList hoB.data.toList = sh := ⟨_, rfl⟩
            rw [hsv, hsh] at hw
            have hw2 : th = true → (sv || (!me.toList.isEmpty && sh)) = true := fun h => hw (by rw [← hth] at h; simpa using h)
            have HW := Lib.hid hw2
            have hget := fun w' (h : Below wr.heap.size wr w') => rget_any _ X y (unhide HX1).few hsz w' (((unhide RA).below hbel).below h)
            rw [hth] at hget
            have HGET := hide hget
            have hc1 := fun w => rsame_any y viaN (by omega) (by decide) w
            have hc2 := fun w => rsame_any y hoB (by omega) (by decide) w
            rw [hsv] at hc1
            rw [hsh] at hc2
            have HC1 := hide hc1
            have HC2 := hide hc2
            obtain ⟨gx, hgx2⟩ : ∃ gx, getB X y = gx := ⟨_, rfl⟩
            rw [hgx2] at HGET
            have BW := hide (Below.drew (Below.refl wr.heap.size wr))
            clear hy hth hsv hsh hw hw2 hget hc1 hc2 hgx2 hbel p10 p25
            go_upto_region 17 with fail
            refine Reg.region_mix [0, 1, 2, 3, 4, 5, 6, 7, 8, 9, 10, 11] (by kernel_rfl) (by kernel_rfl) (by kernel_rfl) (by decide) (by intro c a d v w h; cases d <;> exact h) ?_
            simp only [Reg.pickL, List.getElem?_cons_zero, List.getElem?_cons_succ]
            refine Reg.mix_take 6 (by kernel_rfl) ?_
            simp only [List.take_succ_cons, List.take_zero, List.drop_succ_cons, List.drop_zero]
            repeat (go_big_quiet_step (fail))
            refine wpQuiet_nil ?_
            refine Reg.mix_one (by kernel_rfl) ?_
            go_wp2_with ((go_at_call 23; refine (unhide HGET _ (unhide BW)).mono ?_; rintro e w7 ⟨rfl, hb⟩; have r10 := cell_call hb (a := ⟨w.heap.size, 0, none⟩) (v := .string me) (by go_cell); have rc1 := cell_call hb (a := ⟨b, off + k, none⟩) (v := .string y) (by go_cell); have BW := hide ((unhide BW).trans (hb.mono (unhide BW).size)); clear hb))
            refine ⟨rfl, ⟨⟨_, unhide BW⟩, rfl⟩, ?_⟩
            refine Reg.mix_take 5 (by kernel_rfl) ?_
            simp only [List.take_succ_cons, List.take_zero, List.drop_succ_cons, List.drop_zero]
            repeat (go_big_quiet_step (fail))
            refine wpQuiet_nil ?_
            refine Reg.mix_nil ?_
            have zz := World.block_lt_of_cell? w7 _ r10
            have zc := World.block_lt_of_cell? w7 _ rc1
            clear q10 q25 c1
            rcases ne_case me with ⟨em, _⟩ | ⟨em, _⟩
            all_goals rw [em] at HW
            all_goals cases th <;> cases sv <;> cases sh
            all_goals first
              | exact absurd (HW.out rfl) (by decide)
              | skip
            all_goals
              go_wp2_with (first
                | (have h7 := firstDone; go_at_call 13; refine (unhide HC2 _).mono ?_; rintro e w9 ⟨rfl, hb9⟩; have BW := hide ((unhide BW).trans (hb9.mono (unhide BW).size)); clear hb9)
                | (go_at_call 13; refine (unhide HC1 _).mono ?_; rintro e w8 ⟨rfl, hb8⟩; have firstDone := True.intro; have s10 := cell_call hb8 r10; have sc1 := cell_call hb8 rc1; have BW := hide ((unhide BW).trans (hb8.mono (unhide BW).size)); clear hb8))
              go_roundw
              case rel => exact ⟨k + 1, by go_num, by omega, (unhide HBEL).trans ((unhide BW).mono (unhide HBEL).size)⟩
              case measure => simp [intOf]; omega
          · have HM := hide ((unhide HM).call hbel)
            have HA := hide ((unhide HA).call hbel)
            have HB := hide ((unhide HB).trans (hbel.mono (unhide HB).size))
            have RA := hide ((unhide RA).below hbel)
            clear p10 p25 hbel HBEL hown hhop HSM R4
            generalize wr = w6 at *
            cases hokq : tokenS q.data.toList
            rotate_left
            have HOKQ := Lib.hid hokq
            go_upto_region 22 with (first
              | (refine wpList_loadM rfl _ rfl w3.heap.size rfl _ rfl (unhide HA) ?_)
              | (go_at_call 24; refine (fwdO_good me ta re bo st 1 _ _ X (unhide HX1) (by omega) (by omega) q (by omega) HOKQ.out _ (unhide RA) ⟨_, _, _, rfl⟩ ((unhide HTAB).below (unhide HB))).mono ?_; rintro e w9 ⟨v9, rfl, ho, hb⟩; rw [HY.out] at ho; unfold msgV; obtain ⟨ao9, cp9, rfl⟩ := (Rd.own ho).form; have RB := hide (Rd.own ho); have HM := hide ((unhide HM).call hb); have HA := hide ((unhide HA).call hb); have HB := hide ((unhide HB).trans (hb.mono (unhide HB).size)); have RA := hide ((unhide RA).below hb); have z3 := (unhide HA).lt; clear ho hb))
            have p25 := (unhide HA).cell 5 _ rfl
            have HM := hide ((unhide HM).alloc (.cells #[.string me, .string ta, .int .i64 st, .string re, .int .i64 1, .slice ao9 Y.length cp9, .string bo, .slice none 0 0] 24))
            have HA := hide ((unhide HA).alloc (.cells #[.string me, .string ta, .int .i64 st, .string re, .int .i64 1, .slice ao9 Y.length cp9, .string bo, .slice none 0 0] 24))
            have HX := hide (Reg.Has.new w9 [.string me, .string ta, .int .i64 st, .string re, .int .i64 1, .slice ao9 Y.length cp9, .string bo, .slice none 0 0] 24)
            have HB := hide ((unhide HB).alloc (unhide HB).size (.cells #[.string me, .string ta, .int .i64 st, .string re, .int .i64 1, .slice ao9 Y.length cp9, .string bo, .slice none 0 0] 24))
            have RA := hide ((unhide RA).alloc (.cells #[.string me, .string ta, .int .i64 st, .string re, .int .i64 1, .slice ao9 Y.length cp9, .string bo, .slice none 0 0] 24))
            have RB := hide ((unhide RB).alloc (.cells #[.string me, .string ta, .int .i64 st, .string re, .int .i64 1, .slice ao9 Y.length cp9, .string bo, .slice none 0 0] 24))
            have hv2 := unhide HVIA
            unfold oneSp at hv2
            have hg1 := fun w (h : Rd w (.slice ao3 X.length cp3) X.length 2 (fldV X)) => rget_any _ X viaN (unhide HX1).few (by decide) w h
            have hg2 := fun w (h : Rd w (.slice ao9 Y.length cp9) Y.length 2 (fldV Y)) => rget_any _ Y viaN (unhide HX2) (by decide) w h
            rw [hv2] at hg2
            obtain ⟨gx, hgxx⟩ : ∃ gx, getB X viaN = gx := ⟨_, rfl⟩
            rw [hgxx] at hg1 hg2 hgx
            have HG1 := hide hg1
            have HG2 := hide hg2
            clear hv2 hg1 hg2 hgxx
            go_upto_region 26 with (first
              | (have h7 := firstDone; go_at_call 23; refine (unhide HG2 _ (unhide RB)).mono ?_; rintro e w12 ⟨rfl, hb⟩; have HM := hide ((unhide HM).call hb); have HA := hide ((unhide HA).call hb); have HX := hide ((unhide HX).call hb); have HB := hide ((unhide HB).trans (hb.mono (unhide HB).size)); have RA := hide ((unhide RA).below hb); have RB := hide ((unhide RB).below hb); clear hb)
              | (go_at_call 23; refine (unhide HG1 _ (unhide RA)).mono ?_; rintro e w11 ⟨rfl, hb⟩; have firstDone := True.intro; have HM := hide ((unhide HM).call hb); have HA := hide ((unhide HA).call hb); have HX := hide ((unhide HX).call hb); have HB := hide ((unhide HB).trans (hb.mono (unhide HB).size)); have RA := hide ((unhide RA).below hb); have RB := hide ((unhide RB).below hb); have r25 := (unhide HX).cell 5 _ rfl; clear hb))
            clear p25 r25 z3
            have hm8 := unhide HM
            have ha8 := unhide HA
            have hx8 := unhide HX
            have p10 := hm8.cell 0 _ rfl; have p11 := hm8.cell 1 _ rfl; have p12 := hm8.cell 2 _ rfl; have p13 := hm8.cell 3 _ rfl; have p14 := hm8.cell 4 _ rfl; have p15 := hm8.cell 5 _ rfl; have p16 := hm8.cell 6 _ rfl; have p17 := hm8.cell 7 _ rfl; have z1 := hm8.lt
            have p20 := ha8.cell 0 _ rfl; have p21 := ha8.cell 1 _ rfl; have p22 := ha8.cell 2 _ rfl; have p23 := ha8.cell 3 _ rfl; have p24 := ha8.cell 4 _ rfl; have p25 := ha8.cell 5 _ rfl; have p26 := ha8.cell 6 _ rfl; have p27 := ha8.cell 7 _ rfl; have z2 := ha8.lt
            have p30 := hx8.cell 0 _ rfl; have p31 := hx8.cell 1 _ rfl; have p32 := hx8.cell 2 _ rfl; have p33 := hx8.cell 3 _ rfl; have p34 := hx8.cell 4 _ rfl; have p35 := hx8.cell 5 _ rfl; have p36 := hx8.cell 6 _ rfl; have p37 := hx8.cell 7 _ rfl; have z3 := hx8.lt
            have BW := hide (Below.drew (Below.refl w12.heap.size w12))
            have hdl := delF_len X viaN
            clear hm8 ha8 hx8 HM HA HX HG1 HG2 HVIA HY
            generalize w3.heap.size = ga at *
            generalize w9.heap.size = gb at *
            refine Reg.region_mix [0, 1, 2, 3, 4, 5, 6, 7, 8, 10, 11, 9, 12, 13, 14, 15, 16, 17, 18, 19, 20, 21, 22, 23, 24, 25, 26, 27, 28, 29, 30, 31, 32, 33, 34, 35, 36, 37, 38, 39, 40, 41, 42, 43, 44, 45, 46, 47, 48] (by kernel_rfl) (by kernel_rfl) (by kernel_rfl) (by decide) (by intro c a d v w h; cases d <;> exact h) ?_
            simp only [Reg.pickL, List.getElem?_cons_zero, List.getElem?_cons_succ]
            refine Reg.mix_take 11 (by kernel_rfl) ?_
            simp only [List.take_succ_cons, List.take_zero, List.drop_succ_cons, List.drop_zero]
            repeat (go_big_quiet_step (fail))
            refine wpQuiet_nil ?_
            refine Reg.mix_one (by kernel_rfl) ?_
            go_wp2_with ((go_at_call 21; refine (rdel_any _ X viaN (unhide HX1).few (by decide) _ ((unhide RA).below (unhide BW))).mono ?_; rintro e w13 ⟨v13, rfl, ho, hb⟩; obtain ⟨ao13, cp13, rfl⟩ := (Rd.own ho).form; have R13 := hide (Rd.own ho); have BW := hide ((unhide BW).trans (hb.mono (unhide BW).size)); clear ho hb))
            refine ⟨rfl, ⟨⟨_, unhide BW⟩, rfl⟩, ?_⟩
            refine Reg.mix_one (by kernel_rfl) ?_
            go_wp2_with ((go_at_call 21; refine (rdel_any _ Y viaN (unhide HX2) (by decide) _ ((unhide RB).below (unhide BW))).mono ?_; rintro e w14 ⟨v14, rfl, ho, hb⟩; rw [← unhide HDEL] at ho; obtain ⟨ao14, cp14, rfl⟩ := (Rd.own ho).form; have R14 := hide (Rd.own ho); have R13 := hide ((unhide R13).below hb); have BW := hide ((unhide BW).trans (hb.mono (unhide BW).size)); clear ho hb))
            refine ⟨rfl, ⟨⟨_, unhide BW⟩, rfl⟩, ?_⟩
            refine Reg.mix_one (by kernel_rfl) ?_
            go_wp2_with ((go_at_call 16; refine (ksameF_any _ _ (delF X viaN) (delF X viaN) (by omega) (by omega) _ (unhide R13) (unhide R14)).mono ?_; rintro e w15 ⟨he, hb⟩; rw [sameLF_self] at he; subst he; have BW := hide ((unhide BW).trans (hb.mono (unhide BW).size)); clear hb))
            refine ⟨rfl, ⟨⟨_, unhide BW⟩, rfl⟩, ?_⟩
            refine Reg.mix_take 35 (by kernel_rfl) ?_
            simp only [List.take_succ_cons, List.take_zero, List.drop_succ_cons, List.drop_zero]
            repeat (go_big_quiet_step (fail))
            refine wpQuiet_nil ?_
            refine Reg.mix_nil ?_
            go_wp2_with fail
            go_ret
            exact ⟨rfl, (unhide HB).trans ((unhide BW).mono (unhide HB).size)⟩
            have HOKQ := Lib.hid hokq
            have hrt := fun w => rtoken_any q hq w
            rw [hokq] at hrt
            have HRT := hide hrt
            clear hokq hrt
            go_wp2_with (first
              | (refine wpList_loadM rfl _ rfl w3.heap.size rfl _ rfl (unhide HA) ?_)
              | (go_at_call 24; refine (fwd_bad me ta re bo st 1 _ _ q (by omega) HOKQ.out _).mono ?_; rintro e w9 ⟨rfl, hb⟩; unfold noMsg msgV; have HB := hide ((unhide HB).trans (hb.mono (unhide HB).size)); clear hb)
              | (go_at_call 17; refine (unhide HRT _).mono ?_; rintro e w10 ⟨rfl, rfl⟩))
            go_ret
            exact ⟨rfl, (unhide HB).alloc (unhide HB).size _⟩

set_option maxRecDepth 100000 in
set_option maxHeartbeats 4000000 in
theorem once_bad (me ta re bo : ByteArray) (st mi : Int) (fs tr : Value) (F T : List Fld) (h1 : me.size ≤ 9223372036854775807) (h2 : ta.size ≤ 9223372036854775807) (h3 : re.size ≤ 9223372036854775807) (h4 : bo.size ≤ 9223372036854775807)
    (hF : F.length ≤ 9223372036854775807) (hT : T.length ≤ 9223372036854775807) (hf : ∀ f ∈ F, f.1.size ≤ 1000000000000000 ∧ f.2.size ≤ 1000000000000000) (ht : ∀ f ∈ T, f.1.size ≤ 1000000000000000 ∧ f.2.size ≤ 1000000000000000)
    (m0 : -9223372036854775808 ≤ mi) (m1 : mi ≤ 9223372036854775807)
    (p q : ByteArray) (hp : p.size ≤ 9223372036854775807) (hq : q.size ≤ 9223372036854775807) (hokp : tokenS p.data.toList = false) (w : World) (hv : Rd w fs F.length 2 (fldV F)) (hu : Rd w tr T.length 2 (fldV T)) (htab : Pow10 w) :
    Calls Tryd.prog 5 #[.agg (msgV me ta st re mi fs bo tr), .string p, .string q] w fun e w' => e = .returned (.bool true) ∧ Below w.heap.size w w' := by
  obtain ⟨ao, cap, rfl⟩ := hv.form
  obtain ⟨bo', caq, rfl⟩ := hu.form
  have HV := hide hv
  have HTAB := hide htab
  have HOKP := Lib.hid hokp
  have hlight := hide (fun w' (h : Below w.heap.size w w') => light2_any me ta re bo st mi _ _ F T h1 h2 h3 h4 hF hT hf ht w' (hv.below h) (hu.below h))
  have HB := hide ((Below.refl w.heap.size w).alloc (Nat.le_refl _) (.cells #[.string me, .string ta, .int .i64 st, .string re, .int .i64 mi, .slice ao F.length cap, .string bo, .slice bo' T.length caq] 24))
  have HM := hide (Reg.Has.new w [.string me, .string ta, .int .i64 st, .string re, .int .i64 mi, .slice ao F.length cap, .string bo, .slice bo' T.length caq] 24)
  clear hv hu hf ht htab hokp
  unfold msgV at hlight ⊢
  go_enter Tryd.func5, Tryd.ntmps5
  go_upto_region 3 with (go_at_call 8; refine (lives_any _).mono ?_; rintro e w1 ⟨rfl, hb1⟩; have HM := hide ((unhide HM).call hb1); have HB := hide ((unhide HB).trans (hb1.mono (unhide HB).size)); clear hb1)
  go_wp2_with (first
    | (refine wpList_loadM rfl _ rfl w.heap.size rfl _ rfl (unhide HM) ?_)
    | (go_at_call 9; refine (unhide hlight _ (unhide HB)).mono ?_; rintro e w2 ⟨r, rfl, hr, hb2⟩; have HR := hide hr; have HM := hide ((unhide HM).call hb2); have HB := hide ((unhide HB).trans (hb2.mono (unhide HB).size)); clear hr hb2))
  · go_ret
    exact ⟨rfl, unhide HB⟩
  · go_ret
    exact ⟨rfl, unhide HB⟩
  · go_ret
    exact ⟨rfl, unhide HB⟩
  · have hlf := unhide HR (by first | rfl | assumption)
    have hp100 : p.size ≤ 100 := by omega
    have hrt := fun w => rtoken_any p hp w
    rw [HOKP.out] at hrt
    have HRT := hide hrt
    clear hlight hlf HR hrt
    go_wp2_with (first
      | (refine wpList_loadM rfl _ rfl w.heap.size rfl _ rfl (unhide HM) ?_)
      | (go_at_call 24; refine (fwd_bad me ta re bo st mi _ _ p (by omega) HOKP.out _).mono ?_; rintro e w9 ⟨rfl, hb⟩; unfold noMsg msgV; have HB := hide ((unhide HB).trans (hb.mono (unhide HB).size)); clear hb)
      | (go_at_call 17; refine (unhide HRT _).mono ?_; rintro e w10 ⟨rfl, rfl⟩))
    go_ret
    exact ⟨rfl, (unhide HB).alloc (unhide HB).size _⟩

theorem once_any (me ta re bo : ByteArray) (st mi : Int) (fs tr : Value) (F T : List Fld) (h1 : me.size ≤ 9223372036854775807) (h2 : ta.size ≤ 9223372036854775807) (h3 : re.size ≤ 9223372036854775807) (h4 : bo.size ≤ 9223372036854775807)
    (hF : F.length ≤ 9223372036854775807) (hT : T.length ≤ 9223372036854775807) (hf : ∀ f ∈ F, f.1.size ≤ 1000000000000000 ∧ f.2.size ≤ 1000000000000000) (ht : ∀ f ∈ T, f.1.size ≤ 1000000000000000 ∧ f.2.size ≤ 1000000000000000)
    (m0 : -9223372036854775808 ≤ mi) (m1 : mi ≤ 9223372036854775807)
    (p q : ByteArray) (hp : p.size ≤ 9223372036854775807) (hq : q.size ≤ 9223372036854775807) (w : World) (hv : Rd w fs F.length 2 (fldV F)) (hu : Rd w tr T.length 2 (fldV T)) (htab : Pow10 w) :
    Calls Tryd.prog 5 #[.agg (msgV me ta st re mi fs bo tr), .string p, .string q] w fun e w' => e = .returned (.bool true) ∧ Below w.heap.size w w' := by
  cases h : tokenS p.data.toList
  · exact once_bad me ta re bo st mi fs tr F T h1 h2 h3 h4 hF hT hf ht m0 m1 p q hp hq h w hv hu htab
  · exact once_good me ta re bo st mi fs tr F T h1 h2 h3 h4 hF hT hf ht m0 m1 p q hp hq h w hv hu htab
end Go.Proofs.YtmmldoleillelaaDoor.Sp
