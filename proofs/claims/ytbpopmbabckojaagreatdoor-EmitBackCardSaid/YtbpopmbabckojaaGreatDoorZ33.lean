/- Lemmas for the statement's proof, several texts in one: M11. -/
import Derived.Test.YtbpopmbabckojaaGreatDoorZ32
set_option linter.unusedVariables false
set_option linter.unusedSimpArgs false
/- emit.Response. -/
section
namespace Go.Proofs.YtbpopmbabckojaaGreatDoor.Sp
open Go.RowKit Sl

set_option maxRecDepth 100000 in
set_option maxHeartbeats 4000000 in
theorem eres_any (me ta re bo m : ByteArray) (st mi : Int) (fs tr : Value) (F T : List Fld) (h1 : me.size ≤ 1000000) (h2 : ta.size ≤ 1000000) (h3 : re.size ≤ 1000000) (h4 : bo.size ≤ 1000000) (zl : (ofL (lineS me ta re st mi).1).size ≤ 100000000) (hF : Few F) (hTr : Few T) (w : World) (hT : Pow10 w)
    (hv : Rd w fs F.length 2 (fldV F)) (hu : Rd w tr T.length 2 (fldV T)) :
    Calls Tryz.prog 11 #[.agg (msgV me ta st re mi fs bo tr), .string m] w (OutS (resS me ta re bo st mi F T m) w) := by
  obtain ⟨ao, c1, rfl⟩ := hv.form
  obtain ⟨bo', c2, rfl⟩ := hu.form
  have q0 := hide (fun w1 (hb : Below w.heap.size w w1) => echeck_any me ta re bo st mi _ _ F T h1 h2 h3 hF hTr w1 (hT.below hb) (hv.below hb) (hu.below hb))
  have qi := hide (fun w1 (hb : Below w.heap.size w w1) => itoa_any bo.size (by omega) (by omega) w1 (hT.below hb))
  have qt := hide (fun hok name value body zn zv zb B bb w1 hb1 hB hI => put_of me ta re bo st mi (.slice ao F.length c1) (.slice bo' T.length c2) F T h1 h2 h3 hF ao bo' c1 T.length c2 w hT hv hok name value body zn zv zb zl B bb w1 hb1 hB hI)
  have hi20 := itoa_size bo.size (by omega) (by omega)
  clear hv hu hT
  have HB := hide ((Below.refl w.heap.size w).alloc (Nat.le_refl _) (.cells #[.string me, .string ta, .int .i64 st, .string re, .int .i64 mi, .slice ao F.length c1, .string bo, .slice bo' T.length c2] 24))
  have H := hide (Reg.Has.at w w.heap.size [.string me, .string ta, .int .i64 st, .string re, .int .i64 mi, .slice ao F.length c1, .string bo, .slice bo' T.length c2] 24 rfl)
  unfold msgV at q0 qt ⊢
  by_cases hem : emC me ta re st mi F T = 0
  rotate_left
  · have hE := Lib.hid (show resS me ta re bo st mi F T m = (⟨#[]⟩, emC me ta re st mi F T) by unfold resS; rw [if_neg hem])
    have hne : (emC me ta re st mi F T != 0) = true := by rw [bne_iff_ne]; exact hem
    generalize emC me ta re st mi F T = em at *
    clear hem
    go_enter Tryz.func11, Tryz.ntmps11
    go_wp2_with fail
    refine (unhide q0 _ (unhide HB)).mono ?_; rintro e w1 ⟨rfl, hb1⟩
    have HB1 := hide ((unhide HB).trans (hb1.mono (unhide HB).size))
    clear hb1
    go_wp2_with fail
    go_ret2
    exact out_at hE.out (unhide HB1)
  have hok := hide (emC_line hem)
  have hE := Lib.hid (show resS me ta re bo st mi F T m = if me.toList.isEmpty = true then (headM me ta re st mi F (if noneI st = true ∨ (headB m = true ∧ bo.toList.isEmpty = true) then ⟨#[]⟩ else clN bo) (if noneI st = true ∨ headB m = true then ⟨#[]⟩ else bo), 0) else (⟨#[]⟩, 4) by unfold resS; rw [if_pos hem])
  rw [hem] at q0
  clear hem
  cases em : me.toList.isEmpty
  · have hE2 := Lib.hid (show resS me ta re bo st mi F T m = (⟨#[]⟩, 4) by rw [hE.out, if_neg (by rw [em]; decide)])
    go_enter Tryz.func11, Tryz.ntmps11
    go_wp2_with fail
    refine (unhide q0 _ (unhide HB)).mono ?_; rintro e w1 ⟨rfl, hb1⟩
    have HB1 := hide ((unhide HB).trans (hb1.mono (unhide HB).size))
    have p0 := ((unhide H).call hb1).cell 0 _ rfl
    clear hb1
    go_wp2_with fail
    go_ret2
    exact out_at hE2.out (unhide HB1)
  obtain ⟨s0, s1⟩ := lineS_status em (unhide hok).1
  have qn := hide (fun w => none_any st s0 s1 w)
  have hE2 := Lib.hid (show resS me ta re bo st mi F T m = (headM me ta re st mi F (if noneI st = true ∨ (headB m = true ∧ bo.toList.isEmpty = true) then ⟨#[]⟩ else clN bo) (if noneI st = true ∨ headB m = true then ⟨#[]⟩ else bo), 0) by rw [hE.out, if_pos em])
  clear hE
  have q2a := hide (unhide qt (unhide hok))
  clear qt hok s0 s1
  unfold headB at hE2
  have hz0 : (⟨#[]⟩ : ByteArray).size ≤ 1000000 := by decide
  obtain ⟨ni, hni⟩ : ∃ b, noneI st = b := ⟨_, rfl⟩
  rw [hni] at qn hE2
  clear hni
  cases ni <;> cases hd : (m.toList == [72, 69, 65, 68]) <;> cases eb : bo.toList.isEmpty
  · have hE3 := Lib.hid (show resS me ta re bo st mi F T m = (headM me ta re st mi F (moreB clB (itoaB bo.size)) bo, 0) by
      rw [hE2.out, moreB_cl, hd, eb]; simp [clN])
    clear hE2
    go_enter Tryz.func11, Tryz.ntmps11
    go_wp2_with fail
    refine (unhide q0 _ (unhide HB)).mono ?_; rintro e w1 ⟨rfl, hb1⟩
    have HB1 := hide ((unhide HB).trans (hb1.mono (unhide HB).size))
    have H1 := (unhide H).call hb1
    clear hb1
    have pq0 := H1.cell 0 _ rfl; have pq1 := H1.cell 1 _ rfl; have pq2 := H1.cell 2 _ rfl; have pq3 := H1.cell 3 _ rfl; have pq4 := H1.cell 4 _ rfl; have pq5 := H1.cell 5 _ rfl; have pq6 := H1.cell 6 _ rfl; have pq7 := H1.cell 7 _ rfl; have zq := H1.lt
    go_upto_region 6 with fail
    refine Reg.region_more (by kernel_rfl) (by kernel_rfl) ?_
    repeat (go_big_quiet_step (fail))
    refine wpQuiet_nil ?_
    intro w6 hb6; obtain ⟨hc6, hf6, hz6⟩ := bcell hb6; (try simp at hz6)
    have H6 := H1.call hb6
    have HB6 := hide ((unhide HB1).trans (hb6.mono (unhide HB1).size))
    clear hb6 hc6 hf6 H1 pq0 pq1 pq2 pq3 pq4 pq5 pq6 pq7 zq
    have pq0 := H6.cell 0 _ rfl; have pq1 := H6.cell 1 _ rfl; have pq2 := H6.cell 2 _ rfl; have pq3 := H6.cell 3 _ rfl; have pq4 := H6.cell 4 _ rfl; have pq5 := H6.cell 5 _ rfl; have pq6 := H6.cell 6 _ rfl; have pq7 := H6.cell 7 _ rfl; have zq := H6.lt
    go_upto_region 12 with (go_at_call 38; refine (unhide qn _).mono ?_; rintro e w' ⟨rfl, rfl⟩)
    have HI := hide (Lib.fresh_isBuilder 68 5 w6)
    have HB2 := hide ((unhide HB6).alloc (unhide HB6).size (.cells #[.pointer none, .slice none 0 0] 68))
    have H2 := H6.alloc (.cells #[.pointer none, .slice none 0 0] 68)
    have hlt : w6.heap.size ≤ (w6.alloc (.cells #[.pointer none, .slice none 0 0] 68)).heap.size := by simp
    have hB1 := (unhide HB6).size
    generalize w6.alloc (.cells #[.pointer none, .slice none 0 0] 68) = w2 at *
    generalize w6.heap.size = b at *
    clear pq0 pq1 pq2 pq3 pq4 pq5 pq6 pq7 zq H6 HB6
    have pq0 := H2.cell 0 _ rfl; have pq1 := H2.cell 1 _ rfl; have pq2 := H2.cell 2 _ rfl; have pq3 := H2.cell 3 _ rfl; have pq4 := H2.cell 4 _ rfl; have pq5 := H2.cell 5 _ rfl; have pq6 := H2.cell 6 _ rfl; have pq7 := H2.cell 7 _ rfl; have zq := H2.lt
    refine Reg.region_more_barT 7 (by kernel_rfl) (by kernel_rfl) (by intro c a d v w h; cases d <;> exact h) ?_
    simp only [List.take_succ_cons, List.take_zero, List.drop_succ_cons, List.drop_zero]
    repeat (go_big_quiet_step ((go_at_call 40; exact Reg.Calls.more (unhide qi _ ((unhide HB2).trans ((Reg.More.hb _).mono (unhide HB2).size))))))
    refine wpQuiet_nil ?_
    intro w3 hb3; obtain ⟨hc3, hf3, hz3⟩ := bcell hb3; (try simp at hz3)
    have HI3 := hide (isB_call (unhide HI) hb3)
    have HB3 := hide ((unhide HB2).trans (hb3.mono (unhide HB2).size))
    have hbb3 : b ≤ w3.heap.size := Nat.le_trans hlt hb3.size
    clear hb3 hc3 hf3 H2
    go_wp2_with fail
    refine (unhide q2a _ _ _ (by decide) (by omega) h4 b b w3 (unhide HB3) hbb3 (unhide HI3)).mono ?_; rintro e w4 ⟨rfl, hi4, hb4⟩
    have HI4 := hide hi4
    have HB4 := hide ((unhide HB3).trans (hb4.mono hB1))
    have hbb4 : b ≤ w4.heap.size := Nat.le_trans hbb3 hb4.size
    clear hi4 hb4
    go_wp2_with fail
    refine (Tryz.Builder_String_any b b _ _ (unhide HI4) hbb4).mono ?_; rintro e w5 ⟨rfl, hb5⟩
    have HB5 := hide ((unhide HB4).trans (hb5.mono hB1))
    clear hb5
    go_wp2_with fail
    go_ret2
    exact out_at hE3.out (unhide HB5)
  · have hE3 := Lib.hid (show resS me ta re bo st mi F T m = (headM me ta re st mi F (moreB clB (itoaB bo.size)) bo, 0) by
      rw [hE2.out, moreB_cl, hd, eb]; simp [clN])
    clear hE2
    go_enter Tryz.func11, Tryz.ntmps11
    go_wp2_with fail
    refine (unhide q0 _ (unhide HB)).mono ?_; rintro e w1 ⟨rfl, hb1⟩
    have HB1 := hide ((unhide HB).trans (hb1.mono (unhide HB).size))
    have H1 := (unhide H).call hb1
    clear hb1
    have pq0 := H1.cell 0 _ rfl; have pq1 := H1.cell 1 _ rfl; have pq2 := H1.cell 2 _ rfl; have pq3 := H1.cell 3 _ rfl; have pq4 := H1.cell 4 _ rfl; have pq5 := H1.cell 5 _ rfl; have pq6 := H1.cell 6 _ rfl; have pq7 := H1.cell 7 _ rfl; have zq := H1.lt
    go_upto_region 6 with fail
    refine Reg.region_more (by kernel_rfl) (by kernel_rfl) ?_
    repeat (go_big_quiet_step (fail))
    refine wpQuiet_nil ?_
    intro w6 hb6; obtain ⟨hc6, hf6, hz6⟩ := bcell hb6; (try simp at hz6)
    have H6 := H1.call hb6
    have HB6 := hide ((unhide HB1).trans (hb6.mono (unhide HB1).size))
    clear hb6 hc6 hf6 H1 pq0 pq1 pq2 pq3 pq4 pq5 pq6 pq7 zq
    have pq0 := H6.cell 0 _ rfl; have pq1 := H6.cell 1 _ rfl; have pq2 := H6.cell 2 _ rfl; have pq3 := H6.cell 3 _ rfl; have pq4 := H6.cell 4 _ rfl; have pq5 := H6.cell 5 _ rfl; have pq6 := H6.cell 6 _ rfl; have pq7 := H6.cell 7 _ rfl; have zq := H6.lt
    go_upto_region 12 with (go_at_call 38; refine (unhide qn _).mono ?_; rintro e w' ⟨rfl, rfl⟩)
    have HI := hide (Lib.fresh_isBuilder 68 5 w6)
    have HB2 := hide ((unhide HB6).alloc (unhide HB6).size (.cells #[.pointer none, .slice none 0 0] 68))
    have H2 := H6.alloc (.cells #[.pointer none, .slice none 0 0] 68)
    have hlt : w6.heap.size ≤ (w6.alloc (.cells #[.pointer none, .slice none 0 0] 68)).heap.size := by simp
    have hB1 := (unhide HB6).size
    generalize w6.alloc (.cells #[.pointer none, .slice none 0 0] 68) = w2 at *
    generalize w6.heap.size = b at *
    clear pq0 pq1 pq2 pq3 pq4 pq5 pq6 pq7 zq H6 HB6
    have pq0 := H2.cell 0 _ rfl; have pq1 := H2.cell 1 _ rfl; have pq2 := H2.cell 2 _ rfl; have pq3 := H2.cell 3 _ rfl; have pq4 := H2.cell 4 _ rfl; have pq5 := H2.cell 5 _ rfl; have pq6 := H2.cell 6 _ rfl; have pq7 := H2.cell 7 _ rfl; have zq := H2.lt
    refine Reg.region_more_barT 7 (by kernel_rfl) (by kernel_rfl) (by intro c a d v w h; cases d <;> exact h) ?_
    simp only [List.take_succ_cons, List.take_zero, List.drop_succ_cons, List.drop_zero]
    repeat (go_big_quiet_step ((go_at_call 40; exact Reg.Calls.more (unhide qi _ ((unhide HB2).trans ((Reg.More.hb _).mono (unhide HB2).size))))))
    refine wpQuiet_nil ?_
    intro w3 hb3; obtain ⟨hc3, hf3, hz3⟩ := bcell hb3; (try simp at hz3)
    have HI3 := hide (isB_call (unhide HI) hb3)
    have HB3 := hide ((unhide HB2).trans (hb3.mono (unhide HB2).size))
    have hbb3 : b ≤ w3.heap.size := Nat.le_trans hlt hb3.size
    clear hb3 hc3 hf3 H2
    go_wp2_with fail
    refine (unhide q2a _ _ _ (by decide) (by omega) h4 b b w3 (unhide HB3) hbb3 (unhide HI3)).mono ?_; rintro e w4 ⟨rfl, hi4, hb4⟩
    have HI4 := hide hi4
    have HB4 := hide ((unhide HB3).trans (hb4.mono hB1))
    have hbb4 : b ≤ w4.heap.size := Nat.le_trans hbb3 hb4.size
    clear hi4 hb4
    go_wp2_with fail
    refine (Tryz.Builder_String_any b b _ _ (unhide HI4) hbb4).mono ?_; rintro e w5 ⟨rfl, hb5⟩
    have HB5 := hide ((unhide HB4).trans (hb5.mono hB1))
    clear hb5
    go_wp2_with fail
    go_ret2
    exact out_at hE3.out (unhide HB5)
  · have hE3 := Lib.hid (show resS me ta re bo st mi F T m = (headM me ta re st mi F (moreB clB (itoaB bo.size)) ⟨#[]⟩, 0) by
      rw [hE2.out, moreB_cl, hd, eb]; simp [clN])
    clear hE2
    go_enter Tryz.func11, Tryz.ntmps11
    go_wp2_with fail
    refine (unhide q0 _ (unhide HB)).mono ?_; rintro e w1 ⟨rfl, hb1⟩
    have HB1 := hide ((unhide HB).trans (hb1.mono (unhide HB).size))
    have H1 := (unhide H).call hb1
    clear hb1
    have pq0 := H1.cell 0 _ rfl; have pq1 := H1.cell 1 _ rfl; have pq2 := H1.cell 2 _ rfl; have pq3 := H1.cell 3 _ rfl; have pq4 := H1.cell 4 _ rfl; have pq5 := H1.cell 5 _ rfl; have pq6 := H1.cell 6 _ rfl; have pq7 := H1.cell 7 _ rfl; have zq := H1.lt
    go_upto_region 6 with fail
    refine Reg.region_more (by kernel_rfl) (by kernel_rfl) ?_
    repeat (go_big_quiet_step (fail))
    refine wpQuiet_nil ?_
    intro w6 hb6; obtain ⟨hc6, hf6, hz6⟩ := bcell hb6; (try simp at hz6)
    have H6 := H1.call hb6
    have HB6 := hide ((unhide HB1).trans (hb6.mono (unhide HB1).size))
    clear hb6 hc6 hf6 H1 pq0 pq1 pq2 pq3 pq4 pq5 pq6 pq7 zq
    have pq0 := H6.cell 0 _ rfl; have pq1 := H6.cell 1 _ rfl; have pq2 := H6.cell 2 _ rfl; have pq3 := H6.cell 3 _ rfl; have pq4 := H6.cell 4 _ rfl; have pq5 := H6.cell 5 _ rfl; have pq6 := H6.cell 6 _ rfl; have pq7 := H6.cell 7 _ rfl; have zq := H6.lt
    go_upto_region 12 with (go_at_call 38; refine (unhide qn _).mono ?_; rintro e w' ⟨rfl, rfl⟩)
    have HI := hide (Lib.fresh_isBuilder 68 5 w6)
    have HB2 := hide ((unhide HB6).alloc (unhide HB6).size (.cells #[.pointer none, .slice none 0 0] 68))
    have H2 := H6.alloc (.cells #[.pointer none, .slice none 0 0] 68)
    have hlt : w6.heap.size ≤ (w6.alloc (.cells #[.pointer none, .slice none 0 0] 68)).heap.size := by simp
    have hB1 := (unhide HB6).size
    generalize w6.alloc (.cells #[.pointer none, .slice none 0 0] 68) = w2 at *
    generalize w6.heap.size = b at *
    clear pq0 pq1 pq2 pq3 pq4 pq5 pq6 pq7 zq H6 HB6
    have pq0 := H2.cell 0 _ rfl; have pq1 := H2.cell 1 _ rfl; have pq2 := H2.cell 2 _ rfl; have pq3 := H2.cell 3 _ rfl; have pq4 := H2.cell 4 _ rfl; have pq5 := H2.cell 5 _ rfl; have pq6 := H2.cell 6 _ rfl; have pq7 := H2.cell 7 _ rfl; have zq := H2.lt
    refine Reg.region_more_barT 7 (by kernel_rfl) (by kernel_rfl) (by intro c a d v w h; cases d <;> exact h) ?_
    simp only [List.take_succ_cons, List.take_zero, List.drop_succ_cons, List.drop_zero]
    repeat (go_big_quiet_step ((go_at_call 40; exact Reg.Calls.more (unhide qi _ ((unhide HB2).trans ((Reg.More.hb _).mono (unhide HB2).size))))))
    refine wpQuiet_nil ?_
    intro w3 hb3; obtain ⟨hc3, hf3, hz3⟩ := bcell hb3; (try simp at hz3)
    have HI3 := hide (isB_call (unhide HI) hb3)
    have HB3 := hide ((unhide HB2).trans (hb3.mono (unhide HB2).size))
    have hbb3 : b ≤ w3.heap.size := Nat.le_trans hlt hb3.size
    clear hb3 hc3 hf3 H2
    go_wp2_with fail
    refine (unhide q2a _ _ _ (by decide) (by omega) hz0 b b w3 (unhide HB3) hbb3 (unhide HI3)).mono ?_; rintro e w4 ⟨rfl, hi4, hb4⟩
    have HI4 := hide hi4
    have HB4 := hide ((unhide HB3).trans (hb4.mono hB1))
    have hbb4 : b ≤ w4.heap.size := Nat.le_trans hbb3 hb4.size
    clear hi4 hb4
    go_wp2_with fail
    refine (Tryz.Builder_String_any b b _ _ (unhide HI4) hbb4).mono ?_; rintro e w5 ⟨rfl, hb5⟩
    have HB5 := hide ((unhide HB4).trans (hb5.mono hB1))
    clear hb5
    go_wp2_with fail
    go_ret2
    exact out_at hE3.out (unhide HB5)
  · have hE3 := Lib.hid (show resS me ta re bo st mi F T m = (headM me ta re st mi F (moreB ⟨#[]⟩ (itoaB bo.size)) ⟨#[]⟩, 0) by
      rw [hE2.out, moreB_no, hd, eb]; simp [clN])
    clear hE2
    go_enter Tryz.func11, Tryz.ntmps11
    go_wp2_with fail
    refine (unhide q0 _ (unhide HB)).mono ?_; rintro e w1 ⟨rfl, hb1⟩
    have HB1 := hide ((unhide HB).trans (hb1.mono (unhide HB).size))
    have H1 := (unhide H).call hb1
    clear hb1
    have pq0 := H1.cell 0 _ rfl; have pq1 := H1.cell 1 _ rfl; have pq2 := H1.cell 2 _ rfl; have pq3 := H1.cell 3 _ rfl; have pq4 := H1.cell 4 _ rfl; have pq5 := H1.cell 5 _ rfl; have pq6 := H1.cell 6 _ rfl; have pq7 := H1.cell 7 _ rfl; have zq := H1.lt
    go_upto_region 6 with fail
    refine Reg.region_more (by kernel_rfl) (by kernel_rfl) ?_
    repeat (go_big_quiet_step (fail))
    refine wpQuiet_nil ?_
    intro w6 hb6; obtain ⟨hc6, hf6, hz6⟩ := bcell hb6; (try simp at hz6)
    have H6 := H1.call hb6
    have HB6 := hide ((unhide HB1).trans (hb6.mono (unhide HB1).size))
    clear hb6 hc6 hf6 H1 pq0 pq1 pq2 pq3 pq4 pq5 pq6 pq7 zq
    have pq0 := H6.cell 0 _ rfl; have pq1 := H6.cell 1 _ rfl; have pq2 := H6.cell 2 _ rfl; have pq3 := H6.cell 3 _ rfl; have pq4 := H6.cell 4 _ rfl; have pq5 := H6.cell 5 _ rfl; have pq6 := H6.cell 6 _ rfl; have pq7 := H6.cell 7 _ rfl; have zq := H6.lt
    go_upto_region 12 with (go_at_call 38; refine (unhide qn _).mono ?_; rintro e w' ⟨rfl, rfl⟩)
    have HI := hide (Lib.fresh_isBuilder 68 5 w6)
    have HB2 := hide ((unhide HB6).alloc (unhide HB6).size (.cells #[.pointer none, .slice none 0 0] 68))
    have H2 := H6.alloc (.cells #[.pointer none, .slice none 0 0] 68)
    have hlt : w6.heap.size ≤ (w6.alloc (.cells #[.pointer none, .slice none 0 0] 68)).heap.size := by simp
    have hB1 := (unhide HB6).size
    generalize w6.alloc (.cells #[.pointer none, .slice none 0 0] 68) = w2 at *
    generalize w6.heap.size = b at *
    clear pq0 pq1 pq2 pq3 pq4 pq5 pq6 pq7 zq H6 HB6
    have pq0 := H2.cell 0 _ rfl; have pq1 := H2.cell 1 _ rfl; have pq2 := H2.cell 2 _ rfl; have pq3 := H2.cell 3 _ rfl; have pq4 := H2.cell 4 _ rfl; have pq5 := H2.cell 5 _ rfl; have pq6 := H2.cell 6 _ rfl; have pq7 := H2.cell 7 _ rfl; have zq := H2.lt
    refine Reg.region_more_barT 7 (by kernel_rfl) (by kernel_rfl) (by intro c a d v w h; cases d <;> exact h) ?_
    simp only [List.take_succ_cons, List.take_zero, List.drop_succ_cons, List.drop_zero]
    repeat (go_big_quiet_step ((go_at_call 40; exact Reg.Calls.more (unhide qi _ ((unhide HB2).trans ((Reg.More.hb _).mono (unhide HB2).size))))))
    refine wpQuiet_nil ?_
    intro w3 hb3; obtain ⟨hc3, hf3, hz3⟩ := bcell hb3; (try simp at hz3)
    have HI3 := hide (isB_call (unhide HI) hb3)
    have HB3 := hide ((unhide HB2).trans (hb3.mono (unhide HB2).size))
    have hbb3 : b ≤ w3.heap.size := Nat.le_trans hlt hb3.size
    clear hb3 hc3 hf3 H2
    go_wp2_with fail
    refine (unhide q2a _ _ _ (by decide) (by omega) hz0 b b w3 (unhide HB3) hbb3 (unhide HI3)).mono ?_; rintro e w4 ⟨rfl, hi4, hb4⟩
    have HI4 := hide hi4
    have HB4 := hide ((unhide HB3).trans (hb4.mono hB1))
    have hbb4 : b ≤ w4.heap.size := Nat.le_trans hbb3 hb4.size
    clear hi4 hb4
    go_wp2_with fail
    refine (Tryz.Builder_String_any b b _ _ (unhide HI4) hbb4).mono ?_; rintro e w5 ⟨rfl, hb5⟩
    have HB5 := hide ((unhide HB4).trans (hb5.mono hB1))
    clear hb5
    go_wp2_with fail
    go_ret2
    exact out_at hE3.out (unhide HB5)
  · have hE3 := Lib.hid (show resS me ta re bo st mi F T m = (headM me ta re st mi F (moreB ⟨#[]⟩ (itoaB bo.size)) ⟨#[]⟩, 0) by
      rw [hE2.out, moreB_no, hd, eb]; simp [clN])
    clear hE2
    go_enter Tryz.func11, Tryz.ntmps11
    go_wp2_with fail
    refine (unhide q0 _ (unhide HB)).mono ?_; rintro e w1 ⟨rfl, hb1⟩
    have HB1 := hide ((unhide HB).trans (hb1.mono (unhide HB).size))
    have H1 := (unhide H).call hb1
    clear hb1
    have pq0 := H1.cell 0 _ rfl; have pq1 := H1.cell 1 _ rfl; have pq2 := H1.cell 2 _ rfl; have pq3 := H1.cell 3 _ rfl; have pq4 := H1.cell 4 _ rfl; have pq5 := H1.cell 5 _ rfl; have pq6 := H1.cell 6 _ rfl; have pq7 := H1.cell 7 _ rfl; have zq := H1.lt
    go_upto_region 6 with fail
    refine Reg.region_more (by kernel_rfl) (by kernel_rfl) ?_
    repeat (go_big_quiet_step (fail))
    refine wpQuiet_nil ?_
    intro w6 hb6; obtain ⟨hc6, hf6, hz6⟩ := bcell hb6; (try simp at hz6)
    have H6 := H1.call hb6
    have HB6 := hide ((unhide HB1).trans (hb6.mono (unhide HB1).size))
    clear hb6 hc6 hf6 H1 pq0 pq1 pq2 pq3 pq4 pq5 pq6 pq7 zq
    have pq0 := H6.cell 0 _ rfl; have pq1 := H6.cell 1 _ rfl; have pq2 := H6.cell 2 _ rfl; have pq3 := H6.cell 3 _ rfl; have pq4 := H6.cell 4 _ rfl; have pq5 := H6.cell 5 _ rfl; have pq6 := H6.cell 6 _ rfl; have pq7 := H6.cell 7 _ rfl; have zq := H6.lt
    go_upto_region 12 with (go_at_call 38; refine (unhide qn _).mono ?_; rintro e w' ⟨rfl, rfl⟩)
    have HI := hide (Lib.fresh_isBuilder 68 5 w6)
    have HB2 := hide ((unhide HB6).alloc (unhide HB6).size (.cells #[.pointer none, .slice none 0 0] 68))
    have H2 := H6.alloc (.cells #[.pointer none, .slice none 0 0] 68)
    have hlt : w6.heap.size ≤ (w6.alloc (.cells #[.pointer none, .slice none 0 0] 68)).heap.size := by simp
    have hB1 := (unhide HB6).size
    generalize w6.alloc (.cells #[.pointer none, .slice none 0 0] 68) = w2 at *
    generalize w6.heap.size = b at *
    clear pq0 pq1 pq2 pq3 pq4 pq5 pq6 pq7 zq H6 HB6
    have pq0 := H2.cell 0 _ rfl; have pq1 := H2.cell 1 _ rfl; have pq2 := H2.cell 2 _ rfl; have pq3 := H2.cell 3 _ rfl; have pq4 := H2.cell 4 _ rfl; have pq5 := H2.cell 5 _ rfl; have pq6 := H2.cell 6 _ rfl; have pq7 := H2.cell 7 _ rfl; have zq := H2.lt
    refine Reg.region_more_barT 7 (by kernel_rfl) (by kernel_rfl) (by intro c a d v w h; cases d <;> exact h) ?_
    simp only [List.take_succ_cons, List.take_zero, List.drop_succ_cons, List.drop_zero]
    repeat (go_big_quiet_step ((go_at_call 40; exact Reg.Calls.more (unhide qi _ ((unhide HB2).trans ((Reg.More.hb _).mono (unhide HB2).size))))))
    refine wpQuiet_nil ?_
    intro w3 hb3; obtain ⟨hc3, hf3, hz3⟩ := bcell hb3; (try simp at hz3)
    have HI3 := hide (isB_call (unhide HI) hb3)
    have HB3 := hide ((unhide HB2).trans (hb3.mono (unhide HB2).size))
    have hbb3 : b ≤ w3.heap.size := Nat.le_trans hlt hb3.size
    clear hb3 hc3 hf3 H2
    go_wp2_with fail
    refine (unhide q2a _ _ _ (by decide) (by omega) hz0 b b w3 (unhide HB3) hbb3 (unhide HI3)).mono ?_; rintro e w4 ⟨rfl, hi4, hb4⟩
    have HI4 := hide hi4
    have HB4 := hide ((unhide HB3).trans (hb4.mono hB1))
    have hbb4 : b ≤ w4.heap.size := Nat.le_trans hbb3 hb4.size
    clear hi4 hb4
    go_wp2_with fail
    refine (Tryz.Builder_String_any b b _ _ (unhide HI4) hbb4).mono ?_; rintro e w5 ⟨rfl, hb5⟩
    have HB5 := hide ((unhide HB4).trans (hb5.mono hB1))
    clear hb5
    go_wp2_with fail
    go_ret2
    exact out_at hE3.out (unhide HB5)
  · have hE3 := Lib.hid (show resS me ta re bo st mi F T m = (headM me ta re st mi F (moreB ⟨#[]⟩ (itoaB bo.size)) ⟨#[]⟩, 0) by
      rw [hE2.out, moreB_no, hd, eb]; simp [clN])
    clear hE2
    go_enter Tryz.func11, Tryz.ntmps11
    go_wp2_with fail
    refine (unhide q0 _ (unhide HB)).mono ?_; rintro e w1 ⟨rfl, hb1⟩
    have HB1 := hide ((unhide HB).trans (hb1.mono (unhide HB).size))
    have H1 := (unhide H).call hb1
    clear hb1
    have pq0 := H1.cell 0 _ rfl; have pq1 := H1.cell 1 _ rfl; have pq2 := H1.cell 2 _ rfl; have pq3 := H1.cell 3 _ rfl; have pq4 := H1.cell 4 _ rfl; have pq5 := H1.cell 5 _ rfl; have pq6 := H1.cell 6 _ rfl; have pq7 := H1.cell 7 _ rfl; have zq := H1.lt
    go_upto_region 6 with fail
    refine Reg.region_more (by kernel_rfl) (by kernel_rfl) ?_
    repeat (go_big_quiet_step (fail))
    refine wpQuiet_nil ?_
    intro w6 hb6; obtain ⟨hc6, hf6, hz6⟩ := bcell hb6; (try simp at hz6)
    have H6 := H1.call hb6
    have HB6 := hide ((unhide HB1).trans (hb6.mono (unhide HB1).size))
    clear hb6 hc6 hf6 H1 pq0 pq1 pq2 pq3 pq4 pq5 pq6 pq7 zq
    have pq0 := H6.cell 0 _ rfl; have pq1 := H6.cell 1 _ rfl; have pq2 := H6.cell 2 _ rfl; have pq3 := H6.cell 3 _ rfl; have pq4 := H6.cell 4 _ rfl; have pq5 := H6.cell 5 _ rfl; have pq6 := H6.cell 6 _ rfl; have pq7 := H6.cell 7 _ rfl; have zq := H6.lt
    go_upto_region 12 with (go_at_call 38; refine (unhide qn _).mono ?_; rintro e w' ⟨rfl, rfl⟩)
    have HI := hide (Lib.fresh_isBuilder 68 5 w6)
    have HB2 := hide ((unhide HB6).alloc (unhide HB6).size (.cells #[.pointer none, .slice none 0 0] 68))
    have H2 := H6.alloc (.cells #[.pointer none, .slice none 0 0] 68)
    have hlt : w6.heap.size ≤ (w6.alloc (.cells #[.pointer none, .slice none 0 0] 68)).heap.size := by simp
    have hB1 := (unhide HB6).size
    generalize w6.alloc (.cells #[.pointer none, .slice none 0 0] 68) = w2 at *
    generalize w6.heap.size = b at *
    clear pq0 pq1 pq2 pq3 pq4 pq5 pq6 pq7 zq H6 HB6
    have pq0 := H2.cell 0 _ rfl; have pq1 := H2.cell 1 _ rfl; have pq2 := H2.cell 2 _ rfl; have pq3 := H2.cell 3 _ rfl; have pq4 := H2.cell 4 _ rfl; have pq5 := H2.cell 5 _ rfl; have pq6 := H2.cell 6 _ rfl; have pq7 := H2.cell 7 _ rfl; have zq := H2.lt
    refine Reg.region_more_barT 7 (by kernel_rfl) (by kernel_rfl) (by intro c a d v w h; cases d <;> exact h) ?_
    simp only [List.take_succ_cons, List.take_zero, List.drop_succ_cons, List.drop_zero]
    repeat (go_big_quiet_step ((go_at_call 40; exact Reg.Calls.more (unhide qi _ ((unhide HB2).trans ((Reg.More.hb _).mono (unhide HB2).size))))))
    refine wpQuiet_nil ?_
    intro w3 hb3; obtain ⟨hc3, hf3, hz3⟩ := bcell hb3; (try simp at hz3)
    have HI3 := hide (isB_call (unhide HI) hb3)
    have HB3 := hide ((unhide HB2).trans (hb3.mono (unhide HB2).size))
    have hbb3 : b ≤ w3.heap.size := Nat.le_trans hlt hb3.size
    clear hb3 hc3 hf3 H2
    go_wp2_with fail
    refine (unhide q2a _ _ _ (by decide) (by omega) hz0 b b w3 (unhide HB3) hbb3 (unhide HI3)).mono ?_; rintro e w4 ⟨rfl, hi4, hb4⟩
    have HI4 := hide hi4
    have HB4 := hide ((unhide HB3).trans (hb4.mono hB1))
    have hbb4 : b ≤ w4.heap.size := Nat.le_trans hbb3 hb4.size
    clear hi4 hb4
    go_wp2_with fail
    refine (Tryz.Builder_String_any b b _ _ (unhide HI4) hbb4).mono ?_; rintro e w5 ⟨rfl, hb5⟩
    have HB5 := hide ((unhide HB4).trans (hb5.mono hB1))
    clear hb5
    go_wp2_with fail
    go_ret2
    exact out_at hE3.out (unhide HB5)
  · have hE3 := Lib.hid (show resS me ta re bo st mi F T m = (headM me ta re st mi F (moreB ⟨#[]⟩ (itoaB bo.size)) ⟨#[]⟩, 0) by
      rw [hE2.out, moreB_no, hd, eb]; simp [clN])
    clear hE2
    go_enter Tryz.func11, Tryz.ntmps11
    go_wp2_with fail
    refine (unhide q0 _ (unhide HB)).mono ?_; rintro e w1 ⟨rfl, hb1⟩
    have HB1 := hide ((unhide HB).trans (hb1.mono (unhide HB).size))
    have H1 := (unhide H).call hb1
    clear hb1
    have pq0 := H1.cell 0 _ rfl; have pq1 := H1.cell 1 _ rfl; have pq2 := H1.cell 2 _ rfl; have pq3 := H1.cell 3 _ rfl; have pq4 := H1.cell 4 _ rfl; have pq5 := H1.cell 5 _ rfl; have pq6 := H1.cell 6 _ rfl; have pq7 := H1.cell 7 _ rfl; have zq := H1.lt
    go_upto_region 6 with fail
    refine Reg.region_more (by kernel_rfl) (by kernel_rfl) ?_
    repeat (go_big_quiet_step (fail))
    refine wpQuiet_nil ?_
    intro w6 hb6; obtain ⟨hc6, hf6, hz6⟩ := bcell hb6; (try simp at hz6)
    have H6 := H1.call hb6
    have HB6 := hide ((unhide HB1).trans (hb6.mono (unhide HB1).size))
    clear hb6 hc6 hf6 H1 pq0 pq1 pq2 pq3 pq4 pq5 pq6 pq7 zq
    have pq0 := H6.cell 0 _ rfl; have pq1 := H6.cell 1 _ rfl; have pq2 := H6.cell 2 _ rfl; have pq3 := H6.cell 3 _ rfl; have pq4 := H6.cell 4 _ rfl; have pq5 := H6.cell 5 _ rfl; have pq6 := H6.cell 6 _ rfl; have pq7 := H6.cell 7 _ rfl; have zq := H6.lt
    go_upto_region 12 with (go_at_call 38; refine (unhide qn _).mono ?_; rintro e w' ⟨rfl, rfl⟩)
    have HI := hide (Lib.fresh_isBuilder 68 5 w6)
    have HB2 := hide ((unhide HB6).alloc (unhide HB6).size (.cells #[.pointer none, .slice none 0 0] 68))
    have H2 := H6.alloc (.cells #[.pointer none, .slice none 0 0] 68)
    have hlt : w6.heap.size ≤ (w6.alloc (.cells #[.pointer none, .slice none 0 0] 68)).heap.size := by simp
    have hB1 := (unhide HB6).size
    generalize w6.alloc (.cells #[.pointer none, .slice none 0 0] 68) = w2 at *
    generalize w6.heap.size = b at *
    clear pq0 pq1 pq2 pq3 pq4 pq5 pq6 pq7 zq H6 HB6
    have pq0 := H2.cell 0 _ rfl; have pq1 := H2.cell 1 _ rfl; have pq2 := H2.cell 2 _ rfl; have pq3 := H2.cell 3 _ rfl; have pq4 := H2.cell 4 _ rfl; have pq5 := H2.cell 5 _ rfl; have pq6 := H2.cell 6 _ rfl; have pq7 := H2.cell 7 _ rfl; have zq := H2.lt
    refine Reg.region_more_barT 7 (by kernel_rfl) (by kernel_rfl) (by intro c a d v w h; cases d <;> exact h) ?_
    simp only [List.take_succ_cons, List.take_zero, List.drop_succ_cons, List.drop_zero]
    repeat (go_big_quiet_step ((go_at_call 40; exact Reg.Calls.more (unhide qi _ ((unhide HB2).trans ((Reg.More.hb _).mono (unhide HB2).size))))))
    refine wpQuiet_nil ?_
    intro w3 hb3; obtain ⟨hc3, hf3, hz3⟩ := bcell hb3; (try simp at hz3)
    have HI3 := hide (isB_call (unhide HI) hb3)
    have HB3 := hide ((unhide HB2).trans (hb3.mono (unhide HB2).size))
    have hbb3 : b ≤ w3.heap.size := Nat.le_trans hlt hb3.size
    clear hb3 hc3 hf3 H2
    go_wp2_with fail
    refine (unhide q2a _ _ _ (by decide) (by omega) hz0 b b w3 (unhide HB3) hbb3 (unhide HI3)).mono ?_; rintro e w4 ⟨rfl, hi4, hb4⟩
    have HI4 := hide hi4
    have HB4 := hide ((unhide HB3).trans (hb4.mono hB1))
    have hbb4 : b ≤ w4.heap.size := Nat.le_trans hbb3 hb4.size
    clear hi4 hb4
    go_wp2_with fail
    refine (Tryz.Builder_String_any b b _ _ (unhide HI4) hbb4).mono ?_; rintro e w5 ⟨rfl, hb5⟩
    have HB5 := hide ((unhide HB4).trans (hb5.mono hB1))
    clear hb5
    go_wp2_with fail
    go_ret2
    exact out_at hE3.out (unhide HB5)
  · have hE3 := Lib.hid (show resS me ta re bo st mi F T m = (headM me ta re st mi F (moreB ⟨#[]⟩ (itoaB bo.size)) ⟨#[]⟩, 0) by
      rw [hE2.out, moreB_no, hd, eb]; simp [clN])
    clear hE2
    go_enter Tryz.func11, Tryz.ntmps11
    go_wp2_with fail
    refine (unhide q0 _ (unhide HB)).mono ?_; rintro e w1 ⟨rfl, hb1⟩
    have HB1 := hide ((unhide HB).trans (hb1.mono (unhide HB).size))
    have H1 := (unhide H).call hb1
    clear hb1
    have pq0 := H1.cell 0 _ rfl; have pq1 := H1.cell 1 _ rfl; have pq2 := H1.cell 2 _ rfl; have pq3 := H1.cell 3 _ rfl; have pq4 := H1.cell 4 _ rfl; have pq5 := H1.cell 5 _ rfl; have pq6 := H1.cell 6 _ rfl; have pq7 := H1.cell 7 _ rfl; have zq := H1.lt
    go_upto_region 6 with fail
    refine Reg.region_more (by kernel_rfl) (by kernel_rfl) ?_
    repeat (go_big_quiet_step (fail))
    refine wpQuiet_nil ?_
    intro w6 hb6; obtain ⟨hc6, hf6, hz6⟩ := bcell hb6; (try simp at hz6)
    have H6 := H1.call hb6
    have HB6 := hide ((unhide HB1).trans (hb6.mono (unhide HB1).size))
    clear hb6 hc6 hf6 H1 pq0 pq1 pq2 pq3 pq4 pq5 pq6 pq7 zq
    have pq0 := H6.cell 0 _ rfl; have pq1 := H6.cell 1 _ rfl; have pq2 := H6.cell 2 _ rfl; have pq3 := H6.cell 3 _ rfl; have pq4 := H6.cell 4 _ rfl; have pq5 := H6.cell 5 _ rfl; have pq6 := H6.cell 6 _ rfl; have pq7 := H6.cell 7 _ rfl; have zq := H6.lt
    go_upto_region 12 with (go_at_call 38; refine (unhide qn _).mono ?_; rintro e w' ⟨rfl, rfl⟩)
    have HI := hide (Lib.fresh_isBuilder 68 5 w6)
    have HB2 := hide ((unhide HB6).alloc (unhide HB6).size (.cells #[.pointer none, .slice none 0 0] 68))
    have H2 := H6.alloc (.cells #[.pointer none, .slice none 0 0] 68)
    have hlt : w6.heap.size ≤ (w6.alloc (.cells #[.pointer none, .slice none 0 0] 68)).heap.size := by simp
    have hB1 := (unhide HB6).size
    generalize w6.alloc (.cells #[.pointer none, .slice none 0 0] 68) = w2 at *
    generalize w6.heap.size = b at *
    clear pq0 pq1 pq2 pq3 pq4 pq5 pq6 pq7 zq H6 HB6
    have pq0 := H2.cell 0 _ rfl; have pq1 := H2.cell 1 _ rfl; have pq2 := H2.cell 2 _ rfl; have pq3 := H2.cell 3 _ rfl; have pq4 := H2.cell 4 _ rfl; have pq5 := H2.cell 5 _ rfl; have pq6 := H2.cell 6 _ rfl; have pq7 := H2.cell 7 _ rfl; have zq := H2.lt
    refine Reg.region_more_barT 7 (by kernel_rfl) (by kernel_rfl) (by intro c a d v w h; cases d <;> exact h) ?_
    simp only [List.take_succ_cons, List.take_zero, List.drop_succ_cons, List.drop_zero]
    repeat (go_big_quiet_step ((go_at_call 40; exact Reg.Calls.more (unhide qi _ ((unhide HB2).trans ((Reg.More.hb _).mono (unhide HB2).size))))))
    refine wpQuiet_nil ?_
    intro w3 hb3; obtain ⟨hc3, hf3, hz3⟩ := bcell hb3; (try simp at hz3)
    have HI3 := hide (isB_call (unhide HI) hb3)
    have HB3 := hide ((unhide HB2).trans (hb3.mono (unhide HB2).size))
    have hbb3 : b ≤ w3.heap.size := Nat.le_trans hlt hb3.size
    clear hb3 hc3 hf3 H2
    go_wp2_with fail
    refine (unhide q2a _ _ _ (by decide) (by omega) hz0 b b w3 (unhide HB3) hbb3 (unhide HI3)).mono ?_; rintro e w4 ⟨rfl, hi4, hb4⟩
    have HI4 := hide hi4
    have HB4 := hide ((unhide HB3).trans (hb4.mono hB1))
    have hbb4 : b ≤ w4.heap.size := Nat.le_trans hbb3 hb4.size
    clear hi4 hb4
    go_wp2_with fail
    refine (Tryz.Builder_String_any b b _ _ (unhide HI4) hbb4).mono ?_; rintro e w5 ⟨rfl, hb5⟩
    have HB5 := hide ((unhide HB4).trans (hb5.mono hB1))
    clear hb5
    go_wp2_with fail
    go_ret2
    exact out_at hE3.out (unhide HB5)
end Go.Proofs.YtbpopmbabckojaaGreatDoor.Sp
end
