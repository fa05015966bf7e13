/- Lemmas for the statement's proof, several texts in one: Q15. -/
import Derived.Test.YtbpopmbabckojaaGreatDoorZ38
set_option linter.unusedVariables false
set_option linter.unusedSimpArgs false
/- The walk of the law EmitAnswers. -/
section
namespace Go.Proofs.YtbpopmbabckojaaGreatDoor.Sp
open Go.RowKit Sl

theorem resS_no {re bo m : ByteArray} {st mi : Int} {F T : List Fld} (h : (resS ⟨#[]⟩ ⟨#[]⟩ re bo st mi F T m).2 ≠ 0) : (resS ⟨#[]⟩ ⟨#[]⟩ re bo st mi F T m).1 = ⟨#[]⟩ := by
  unfold resS at h ⊢
  split
  · rename_i he
    rw [if_pos he, if_pos mt_list] at h
    exact absurd rfl h
  · rfl
theorem withG {bo m : ByteArray} {st : Int} {F : List Fld} (h1 : allB F clB = []) (h2 : allB F teB = []) : withF (resG bo st m F) = F := by
  unfold withF resG
  split
  · exact del_nil h1 h2
  · exact del_cl h1 h2

set_option maxRecDepth 100000 in
set_option maxHeartbeats 8000000 in
theorem eanswers_any (me ta re bo m : ByteArray) (st mi : Int) (fs tr : Value) (F T : List Fld) (z1 : me.size ≤ 9223372036854775807) (z2 : ta.size ≤ 9223372036854775807) (z3 : re.size ≤ 9223372036854775807) (z4 : bo.size ≤ 9223372036854775807)
    (zF : F.length ≤ 9223372036854775807) (zT : T.length ≤ 9223372036854775807) (zf : ∀ f ∈ F, f.1.size ≤ 1000000000000000 ∧ f.2.size ≤ 1000000000000000) (zt : ∀ f ∈ T, f.1.size ≤ 1000000000000000 ∧ f.2.size ≤ 1000000000000000)
    (zm : m.size ≤ 9223372036854775807) (w : World) (hT : Pow10 w) (hv : Rd w fs F.length 2 (fldV F)) (hu : Rd w tr T.length 2 (fldV T)) :
    Calls Tryz.prog 3 #[.agg (msgV me ta st re mi fs bo tr), .string m] w fun e w' => e = .returned (.bool true) ∧ Below w.heap.size w w' := by
  obtain ⟨ao, c1, rfl⟩ := hv.form
  obtain ⟨bo', c2, rfl⟩ := hu.form
  have c0 := hide (fun w1 (hb : Below w.heap.size w w1) => lives8_any w1 (hT.below hb))
  have cl := hide (fun w1 (hb : Below w.heap.size w w1) => light8_any ⟨#[]⟩ ⟨#[]⟩ re bo st mi _ _ F T (by decide) (by decide) z3 z4 zF zT zf zt w1 (hv.below hb) (hu.below hb))
  have HV := hide hv
  have HU := hide hu
  have HT := hide hT
  clear hv hu hT zf zt z1 z2 z3 z4 zF zT
  have HB := hide ((Below.refl w.heap.size w).alloc (Nat.le_refl _) (.cells #[.string me, .string ta, .int .i64 st, .string re, .int .i64 mi, .slice ao F.length c1, .string bo, .slice bo' T.length c2] 24))
  have H := hide (Reg.Has.at w w.heap.size [.string me, .string ta, .int .i64 st, .string re, .int .i64 mi, .slice ao F.length c1, .string bo, .slice bo' T.length c2] 24 rfl)
  unfold LightQ at cl
  unfold msgV at cl ⊢
  go_enter Tryz.func3, Tryz.ntmps3
  go_wp2_with fail
  refine (unhide c0 _ (unhide HB)).mono ?_; rintro e w1 ⟨rfl, hb1⟩
  have HB1 := hide ((unhide HB).trans (hb1.mono (unhide HB).size))
  have H1 := hide ((unhide H).call hb1)
  clear hb1 c0 H HB
  have p0 := (unhide H1).cell 0 _ rfl
  have u0 := (unhide H1).free 0 (by simp)
  have p1 := (unhide H1).cell 1 _ rfl
  have u1 := (unhide H1).free 1 (by simp)
  have zh := (unhide H1).lt
  go_upto_region 4 with fail
  have H2 := hide (((unhide H1).put 0 (.string ⟨#[]⟩)).put 1 (.string ⟨#[]⟩))
  have HB2 := hide (((unhide HB1).setCell (p := ⟨w.heap.size, 0, none⟩) (Nat.le_refl _) (.string ⟨#[]⟩)).setCell (p := ⟨w.heap.size, 1, none⟩) (Nat.le_refl _) (.string ⟨#[]⟩))
  generalize World.setCell _ ⟨w.heap.size, 1, none⟩ _ = w2 at H2 HB2 ⊢
  clear p0 u0 p1 u1 zh H1 HB1
  have G := unhide H2
  have pa0 := G.cell 0 _ rfl; have pa1 := G.cell 1 _ rfl; have pa2 := G.cell 2 _ rfl; have pa3 := G.cell 3 _ rfl; have pa4 := G.cell 4 _ rfl; have pa5 := G.cell 5 _ rfl; have pa6 := G.cell 6 _ rfl; have pa7 := G.cell 7 _ rfl; have za := G.lt
  clear G
  go_wp2_with fail
  refine (unhide cl _ (unhide HB2)).mono ?_; rintro e w3 ⟨r, rfl, hr, hb3⟩
  have HRR := hide hr
  have HB3 := hide ((unhide HB2).trans (hb3.mono (unhide HB2).size))
  have H3 := hide ((unhide H2).call hb3)
  clear hb3 cl H2 HB2 hr
  clear pa0 pa1 pa2 pa3 pa4 pa5 pa6 pa7 za
  cases r
  · go_wp2_with fail
    go_ret
    exact ⟨rfl, unhide HB3⟩
  by_cases hm : m.size ≤ 60
  rotate_left
  · have hd : decide ((60 : Int) < (m.size : Int)) = true := decide_eq_true (by omega)
    go_wp2_with fail
    go_ret
    exact ⟨rfl, unhide HB3⟩
  have hd : decide ((60 : Int) < (m.size : Int)) = false := decide_eq_false (by omega)
  have hmn : ¬ 60 < m.size := by omega
  have hll := unhide HRR rfl
  clear HRR
  have qt := hide (fun w => rtoken_any m (by omega) w)
  obtain ⟨tk, htk⟩ : ∃ tk, tokenS m.data.toList = tk := ⟨_, rfl⟩
  rw [htk] at qt
  cases tk
  · clear hll htk
    go_wp2_with fail
    refine (unhide qt _).mono ?_; rintro e w4 ⟨rfl, rfl⟩
    go_wp2_with fail
    go_ret
    exact ⟨rfl, unhide HB3⟩
  obtain ⟨_, _, l3, l4, ⟨l5, l6⟩, ⟨l7, l8⟩⟩ := hll
  have hF : Few F := few_sum (by omega) (by omega)
  have hTr : Few T := few_sum (by omega) (by omega)
  have q3 := hide (fun w1 (hb : Below w.heap.size w w1) => eres_any ⟨#[]⟩ ⟨#[]⟩ re bo m st mi _ _ F T (by decide) (by decide) (by omega) (by omega) (lineS_len ⟨#[]⟩ ⟨#[]⟩ re st mi (by decide) (by decide) (by omega)) hF hTr w1 ((unhide HT).below hb) ((unhide HV).below hb) ((unhide HU).below hb))
  unfold OutS msgV at q3
  obtain ⟨⟨s, er⟩, hX⟩ : ∃ X, resS ⟨#[]⟩ ⟨#[]⟩ re bo st mi F T m = X := ⟨_, rfl⟩
  rw [hX] at q3
  simp only at q3
  have HTK := Lib.hid htk
  have HMM := Lib.hid hm
  clear HT HU htk hm
  go_wp2_with fail
  refine (unhide qt _).mono ?_; rintro e w4 ⟨rfl, rfl⟩
  have G := unhide H3
  have pa0 := G.cell 0 _ rfl; have pa1 := G.cell 1 _ rfl; have pa2 := G.cell 2 _ rfl; have pa3 := G.cell 3 _ rfl; have pa4 := G.cell 4 _ rfl; have pa5 := G.cell 5 _ rfl; have pa6 := G.cell 6 _ rfl; have pa7 := G.cell 7 _ rfl; have za := G.lt
  clear G
  go_wp2_with fail
  refine (unhide q3 _ (unhide HB3)).mono ?_; rintro e w5 ⟨rfl, hb5⟩
  have HB5 := hide ((unhide HB3).trans (hb5.mono (unhide HB3).size))
  have H5 := hide ((unhide H3).call hb5)
  clear hb5 q3 H3 HB3 qt
  clear pa0 pa1 pa2 pa3 pa4 pa5 pa6 pa7 za
  by_cases he : er = 0
  rotate_left
  · have hs0 := resS_no (re := re) (bo := bo) (m := m) (st := st) (mi := mi) (F := F) (T := T) (by rw [hX]; exact he)
    rw [hX] at hs0
    simp only at hs0
    have be : (er != 0) = true := by rw [bne_iff_ne]; exact he
    have hse : s.toList.isEmpty = true := by rw [hs0]; exact mt_list
    clear he hX hs0
    go_wp2_with fail
    go_ret
    exact ⟨rfl, unhide HB5⟩
  subst he
  obtain ⟨rr1, rr2, rr3, rr4, rr5⟩ := res_read hX
  have HFR := hide (feed_res re bo m s st mi F T hX l3 l4 l5 l6)
  have HKS := hide (resK_size (T := T) (s := s) hX)
  have HWG := Lib.hid (withG (bo := bo) (m := m) (st := st) rr4 rr5)
  have hgf : Few (resG bo st m F) := by
    obtain ⟨g1, g2⟩ := resG_len (m := m) (st := st) l5 l6 l4
    exact few_sum (by omega) (by omega)
  have HGF := hide hgf
  clear rr1 rr2 rr3 rr4 rr5 hX hgf l3 l4 l5 l6 l7 l8
  have qr := hide (fun w => room_any w)
  have qn := hide (fun w => new6_any w 2000 4000 40 1000 true)
  go_upto_region 10 with (first
    | (go_at_call 13; refine (unhide qr _).mono ?_; rintro e w6 ⟨rfl, hb6⟩)
    | (go_at_call 12; refine (unhide qn _).mono ?_; rintro e w7 ⟨b, rfl, hbw, hp7, hb7⟩))
  have HB6 := hide ((unhide HB5).trans (hb6.mono (unhide HB5).size))
  have HB7 := hide ((unhide HB6).trans (hb7.mono (unhide HB6).size))
  have H7 := hide (((unhide H5).call hb6).call hb7)
  have hb0 : w.heap.size < b := by have := (unhide H5).lt; have := hb6.size; omega
  have HP7 := hide hp7
  clear hb6 hb7 hp7 H5 HB5 HB6 hbw qr qn
  have qe := hide (expect_any w7 b 2000 4000 40 1000 m (by have := HMM.out; omega) HTK.out (unhide HP7))
  clear HP7
  go_wp2_with fail
  refine (unhide qe).mono ?_; rintro e w8 ⟨rfl, ak, hp8, hk8, hu8⟩
  have HB8 := hide ((unhide HB7).trans (hu8.below (unhide HB7).size (fun k e => by have : k = b := e; omega)))
  have H8 := hide (hu8.has (unhide H7) (fun e => by have : w.heap.size = b := e; omega))
  have q8 := hide ((unhide HFR) w8 b ak hp8 hk8)
  clear hp8 hk8 hu8 H7 HB7 qe HFR
  obtain ⟨K, hK⟩ : ∃ K, resK re bo m st mi F = K := ⟨_, rfl⟩
  rw [hK] at q8 HKS
  clear hK
  go_wp2_with fail
  refine (unhide q8).mono ?_; rintro e w9 ⟨rfl, hd9, hu9⟩
  have HB9 := hide ((unhide HB8).trans (hu9.below (unhide HB8).size (fun k e => by have : k = b := e; omega)))
  have H9 := hide (hu9.has (unhide H8) (fun e => by have : w.heap.size = b := e; omega))
  have q9 := hide (next_any w9 b 2000 4000 40 1000 true _ _ _ hd9)
  clear hd9 hu9 H8 HB8 q8
  unfold NextO msgV at q9
  go_wp2_with fail
  refine (unhide q9).mono ?_; rintro e w10 ⟨ak2, fx, tx, rfl, hf10, ht10, hp10, hu10⟩
  obtain ⟨fo, fc, rfl⟩ := hf10.form
  obtain ⟨xo, xc, rfl⟩ := ht10.form
  have HB10 := hide ((unhide HB9).trans (hu10.below (unhide HB9).size (fun k e => by have : k = b := e; omega)))
  have H10 := hide (hu10.has (unhide H9) (fun e => by have : w.heap.size = b := e; omega))
  have HF10 := hide hf10
  have HT10 := hide ht10
  clear hf10 ht10 hp10 hu10 H9 HB9 q9
  simp only
  obtain ⟨G, hG⟩ : ∃ G, resG bo st m F = G := ⟨_, rfl⟩
  obtain ⟨xb, hxb⟩ : ∃ xb, resC bo m st = xb := ⟨_, rfl⟩
  have HXB := Lib.hid hxb
  rw [hxb]
  rw [hG] at HF10 HWG HGF ⊢
  clear hG hxb
  have hz10 : w.heap.size < w10.heap.size := (unhide H10).lt
  have HX0 := hide (Reg.Has.new w10 [.string ⟨#[]⟩, .string ⟨#[]⟩, .int .i64 0, .string ⟨#[]⟩, .int .i64 0, .slice none 0 0, .string ⟨#[]⟩, .slice none 0 0] 24)
  have HBA := hide ((unhide HB10).alloc (Nat.le_of_lt hz10) (.cells #[.string ⟨#[]⟩, .string ⟨#[]⟩, .int .i64 0, .string ⟨#[]⟩, .int .i64 0, .slice none 0 0, .string ⟨#[]⟩, .slice none 0 0] 24))
  go_upto_region 13 with (refine wpList_storeM rfl _ _ rfl w10.heap.size rfl #[.string ⟨#[]⟩, .string ⟨#[]⟩, .int .i64 st, .string re, .int .i64 mi, .slice fo G.length fc, .string xb, .slice xo 0 xc] rfl rfl _ rfl (unhide HX0) (by kernel_rfl) ?_; intro HZ; have HX := hide HZ; have HBX := hide (below_setCells w10.heap.size (Nat.le_of_lt hz10) (#[.string ⟨#[]⟩, .string ⟨#[]⟩, .int .i64 st, .string re, .int .i64 mi, .slice fo G.length fc, .string xb, .slice xo 0 xc] : Array Value).toList 0 _ (unhide HBA)); have HBY := hide (below_setCells w10.heap.size (Nat.le_refl _) (#[.string ⟨#[]⟩, .string ⟨#[]⟩, .int .i64 st, .string re, .int .i64 mi, .slice fo G.length fc, .string xb, .slice xo 0 xc] : Array Value).toList 0 _ ((Below.refl w10.heap.size w10).alloc (Nat.le_refl _) (.cells #[.string ⟨#[]⟩, .string ⟨#[]⟩, .int .i64 0, .string ⟨#[]⟩, .int .i64 0, .slice none 0 0, .string ⟨#[]⟩, .slice none 0 0] 24))); generalize World.setCells _ w10.heap.size 0 _ = w11 at HZ HX HBX HBY ⊢; clear HZ)
  have H11 := hide ((unhide H10).call (unhide HBY))
  have HF11 := hide ((unhide HF10).below (unhide HBY))
  have HT11 := hide ((unhide HT10).below (unhide HBY))
  have hz11 : w10.heap.size < w11.heap.size := (unhide HX).lt
  clear H10 HF10 HT10 HBY HX0 HBA HB10
  generalize w10.heap.size = g1 at *
  have HN0 := hide (Reg.Has.new w11 [.string ⟨#[]⟩, .string ⟨#[]⟩, .int .i64 0, .string ⟨#[]⟩, .int .i64 0, .slice none 0 0, .string ⟨#[]⟩, .slice none 0 0] 24)
  have hz11w : w.heap.size ≤ w11.heap.size := by omega
  have HBA := hide ((unhide HBX).alloc hz11w (.cells #[.string ⟨#[]⟩, .string ⟨#[]⟩, .int .i64 0, .string ⟨#[]⟩, .int .i64 0, .slice none 0 0, .string ⟨#[]⟩, .slice none 0 0] 24))
  go_upto_region 14 with (first
    | (refine wpList_loadM rfl _ rfl w.heap.size rfl _ rfl (unhide H11) ?_)
    | (refine wpList_storeM rfl _ _ rfl w11.heap.size rfl #[.string ⟨#[]⟩, .string ⟨#[]⟩, .int .i64 st, .string re, .int .i64 mi, .slice ao F.length c1, .string bo, .slice bo' T.length c2] rfl rfl _ rfl (unhide HN0) (by kernel_rfl) ?_; intro HZ; have HW := hide HZ; have HBW := hide (below_setCells w11.heap.size hz11w (#[.string ⟨#[]⟩, .string ⟨#[]⟩, .int .i64 st, .string re, .int .i64 mi, .slice ao F.length c1, .string bo, .slice bo' T.length c2] : Array Value).toList 0 _ (unhide HBA)); have HBY := hide (below_setCells w11.heap.size (Nat.le_refl _) (#[.string ⟨#[]⟩, .string ⟨#[]⟩, .int .i64 st, .string re, .int .i64 mi, .slice ao F.length c1, .string bo, .slice bo' T.length c2] : Array Value).toList 0 _ ((Below.refl w11.heap.size w11).alloc (Nat.le_refl _) (.cells #[.string ⟨#[]⟩, .string ⟨#[]⟩, .int .i64 0, .string ⟨#[]⟩, .int .i64 0, .slice none 0 0, .string ⟨#[]⟩, .slice none 0 0] 24))); generalize World.setCells _ w11.heap.size 0 _ = w12 at HZ HW HBW HBY ⊢; clear HZ))
  have H12 := hide ((unhide H11).call (unhide HBY))
  have HX12 := hide ((unhide HX).call (unhide HBY))
  have HF12 := hide ((unhide HF11).below (unhide HBY))
  have HT12 := hide ((unhide HT11).below (unhide HBY))
  have hz12 : w11.heap.size < w12.heap.size := (unhide HW).lt
  clear H12 HX12 HF12 HT12 HN0 HBA
  have p7 := (unhide HW).cell 7 _ rfl
  have u7 := (unhide HW).free 7 (by simp)
  go_upto_region 15 with fail
  have HW3 := hide ((unhide HW).put 7 (.slice none 0 0))
  have HBY3 := hide ((unhide HBY).setCell (p := ⟨w11.heap.size, 7, none⟩) (Nat.le_refl _) (.slice none 0 0))
  have HB13 := hide ((unhide HBW).setCell (p := ⟨w11.heap.size, 7, none⟩) (show w.heap.size ≤ w11.heap.size from hz11w) (.slice none 0 0))
  generalize World.setCell _ ⟨w11.heap.size, 7, none⟩ _ = w13 at HW3 HBY3 HB13 ⊢
  clear p7 u7 HW HBW HBY hz12
  have H13 := hide ((unhide H11).call (unhide HBY3))
  have qb := hide (fun w => bare_any m st w)
  have p2 := (unhide H13).cell 2 _ rfl
  have zh := (unhide H13).lt
  have hst2 := Lib.hid (show conB m st = (m.toList == [67, 79, 78, 78, 69, 67, 84] && (decide (200 ≤ st) && decide (st ≤ 299))) from rfl)
  obtain ⟨bb, hbb⟩ : ∃ bb, bareB m st = bb := ⟨_, rfl⟩
  rw [hbb] at qb
  have hxc : xb = if bb = true then ⟨#[]⟩ else bo := by rw [← HXB.out, ← hbb]; rfl
  clear hbb HXB
  cases bb
  · rw [if_neg (by decide)] at hxc
    subst hxc
    go_wp2_with fail
    refine (unhide qb _).mono ?_; rintro e w14 ⟨rfl, rfl⟩
    clear qb p2 zh H13
    have H9 := hide ((unhide H11).call (unhide HBY3))
    have HX9 := hide ((unhide HX).call (unhide HBY3))
    have HF9 := hide ((unhide HF11).below (unhide HBY3))
    have HT9 := hide ((unhide HT11).below (unhide HBY3))
    have p2 := (unhide H9).cell 2 _ rfl
    have zh := (unhide H9).lt
    clear H11 HX HF11 HT11
    cases cm : (m.toList == [67, 79, 78, 78, 69, 67, 84])
    · have hcon : conB m st = false := by rw [hst2.out]; rw [cm]; rfl
      have hks := (unhide HKS) hcon
      clear hcon hst2
      have G1 := unhide HX9
      have px0 := G1.cell 0 _ rfl; have px1 := G1.cell 1 _ rfl; have px2 := G1.cell 2 _ rfl; have px3 := G1.cell 3 _ rfl; have px4 := G1.cell 4 _ rfl; have px5 := G1.cell 5 _ rfl; have px6 := G1.cell 6 _ rfl; have px7 := G1.cell 7 _ rfl; have zx := G1.lt
      clear G1
      have G2 := unhide HW3
      have py0 := G2.cell 0 _ rfl; have py1 := G2.cell 1 _ rfl; have py2 := G2.cell 2 _ rfl; have py3 := G2.cell 3 _ rfl; have py4 := G2.cell 4 _ rfl; have py5 := G2.cell 5 _ rfl; have py6 := G2.cell 6 _ rfl; have py7 := G2.cell 7 _ rfl; have zy := G2.lt
      clear G2
      have hks2 : ((K : Int) == (s.size : Int)) = true := by rw [beq_iff_eq]; omega
      have QW := hide (fun w1 (hb : Below w13.heap.size w13 w1) => without_any ⟨#[]⟩ ⟨#[]⟩ re xb st mi (.slice fo G.length fc) xo 0 xc G (unhide HGF) w1 ((unhide HF9).below hb))
      unfold WithO msgV at QW
      rw [HWG.out] at QW
      go_upto_region 19 with fail
      refine Reg.region_mix [0, 1, 2, 3, 4, 5, 6, 7, 8, 9, 10, 11, 12, 14, 13, 15, 16, 17] (by kernel_rfl) (by kernel_rfl) (by kernel_rfl) (by decide) (by intro c a d v w h; cases d <;> exact h) ?_
      simp only [Reg.pickL, List.getElem?_cons_zero, List.getElem?_cons_succ]
      refine Reg.mix_take 14 (by kernel_rfl) ?_
      simp only [List.take_succ_cons, List.take_zero, List.drop_succ_cons, List.drop_zero]
      repeat (go_big_quiet_step (fail))
      refine wpQuiet_nil ?_
      have BW := hide (Below.drew (Below.refl w13.heap.size w13))
      refine Reg.mix_one (by kernel_rfl) ?_
      go_wp2_with ((go_at_call 19; refine (unhide QW _ (unhide BW)).mono ?_; rintro e wA ⟨v, rfl, hrA, hbA⟩; obtain ⟨vo, vc, rfl⟩ := hrA.form; have BWA := hide ((unhide BW).trans (hbA.mono (unhide BW).size)); have QS := hide (rsame06_any ⟨#[]⟩ ⟨#[]⟩ re xb st mi (.slice vo F.length vc) (.slice ao F.length c1) (.slice xo 0 xc) (.slice none 0 0) F F [] [] wA ⟨by have := hF.1; omega, fun f hf => by have := (hF.2 f hf).1; omega⟩ ⟨by have := hF.1; omega, fun f hf => by have := (hF.2 f hf).1; omega⟩ ⟨by simp, fun f hf => by cases hf⟩ ⟨by simp, fun f hf => by cases hf⟩ hrA ((unhide HV).below ((unhide HB13).trans ((unhide BWA).mono (unhide HB13).size))) ((unhide HT9).below (unhide BWA)) (Rd.nil _ _)); clear hrA hbA))
      refine ⟨rfl, ⟨⟨_, unhide BWA⟩, rfl⟩, ?_⟩
      unfold msgV at QS
      rw [sameFs_self', sameFs_self'] at QS
      refine Reg.mix_one (by kernel_rfl) ?_
      go_wp2_with ((go_at_call 18; refine (unhide QS).mono ?_; rintro e wB ⟨rfl, hbB⟩; have BWB := hide ((unhide BWA).trans (hbB.mono (unhide BWA).size)); clear hbB))
      refine ⟨rfl, ⟨⟨_, unhide BWB⟩, rfl⟩, ?_⟩
      refine Reg.mix_take 2 (by kernel_rfl) ?_
      simp only [List.take_succ_cons, List.take_zero, List.drop_succ_cons, List.drop_zero]
      repeat (go_big_quiet_step (fail))
      refine wpQuiet_nil ?_
      refine Reg.mix_nil ?_
      go_wp2_with fail
      go_ret
      exact ⟨by simp, (unhide HB13).trans ((unhide BWB).mono (unhide HB13).size)⟩
    · by_cases c2 : 200 ≤ st
      · by_cases c3 : st ≤ 299
        · have d2 : decide (200 ≤ st) = true := decide_eq_true c2
          have d3 : decide (st ≤ 299) = true := decide_eq_true c3
          clear HKS
          go_wp2_with fail
          go_ret
          exact ⟨rfl, unhide HB13⟩
        · have d2 : decide (200 ≤ st) = true := decide_eq_true c2
          have d3 : decide (st ≤ 299) = false := decide_eq_false c3
          have hcon : conB m st = false := by rw [hst2.out]; rw [cm, d2, d3]; rfl
          have hks := (unhide HKS) hcon
          clear hcon hst2
          have G1 := unhide HX9
          have px0 := G1.cell 0 _ rfl; have px1 := G1.cell 1 _ rfl; have px2 := G1.cell 2 _ rfl; have px3 := G1.cell 3 _ rfl; have px4 := G1.cell 4 _ rfl; have px5 := G1.cell 5 _ rfl; have px6 := G1.cell 6 _ rfl; have px7 := G1.cell 7 _ rfl; have zx := G1.lt
          clear G1
          have G2 := unhide HW3
          have py0 := G2.cell 0 _ rfl; have py1 := G2.cell 1 _ rfl; have py2 := G2.cell 2 _ rfl; have py3 := G2.cell 3 _ rfl; have py4 := G2.cell 4 _ rfl; have py5 := G2.cell 5 _ rfl; have py6 := G2.cell 6 _ rfl; have py7 := G2.cell 7 _ rfl; have zy := G2.lt
          clear G2
          have hks2 : ((K : Int) == (s.size : Int)) = true := by rw [beq_iff_eq]; omega
          have QW := hide (fun w1 (hb : Below w13.heap.size w13 w1) => without_any ⟨#[]⟩ ⟨#[]⟩ re xb st mi (.slice fo G.length fc) xo 0 xc G (unhide HGF) w1 ((unhide HF9).below hb))
          unfold WithO msgV at QW
          rw [HWG.out] at QW
          go_upto_region 19 with fail
          refine Reg.region_mix [0, 1, 2, 3, 4, 5, 6, 7, 8, 9, 10, 11, 12, 14, 13, 15, 16, 17] (by kernel_rfl) (by kernel_rfl) (by kernel_rfl) (by decide) (by intro c a d v w h; cases d <;> exact h) ?_
          simp only [Reg.pickL, List.getElem?_cons_zero, List.getElem?_cons_succ]
          refine Reg.mix_take 14 (by kernel_rfl) ?_
          simp only [List.take_succ_cons, List.take_zero, List.drop_succ_cons, List.drop_zero]
          repeat (go_big_quiet_step (fail))
          refine wpQuiet_nil ?_
          have BW := hide (Below.drew (Below.refl w13.heap.size w13))
          refine Reg.mix_one (by kernel_rfl) ?_
          go_wp2_with ((go_at_call 19; refine (unhide QW _ (unhide BW)).mono ?_; rintro e wA ⟨v, rfl, hrA, hbA⟩; obtain ⟨vo, vc, rfl⟩ := hrA.form; have BWA := hide ((unhide BW).trans (hbA.mono (unhide BW).size)); have QS := hide (rsame06_any ⟨#[]⟩ ⟨#[]⟩ re xb st mi (.slice vo F.length vc) (.slice ao F.length c1) (.slice xo 0 xc) (.slice none 0 0) F F [] [] wA ⟨by have := hF.1; omega, fun f hf => by have := (hF.2 f hf).1; omega⟩ ⟨by have := hF.1; omega, fun f hf => by have := (hF.2 f hf).1; omega⟩ ⟨by simp, fun f hf => by cases hf⟩ ⟨by simp, fun f hf => by cases hf⟩ hrA ((unhide HV).below ((unhide HB13).trans ((unhide BWA).mono (unhide HB13).size))) ((unhide HT9).below (unhide BWA)) (Rd.nil _ _)); clear hrA hbA))
          refine ⟨rfl, ⟨⟨_, unhide BWA⟩, rfl⟩, ?_⟩
          unfold msgV at QS
          rw [sameFs_self', sameFs_self'] at QS
          refine Reg.mix_one (by kernel_rfl) ?_
          go_wp2_with ((go_at_call 18; refine (unhide QS).mono ?_; rintro e wB ⟨rfl, hbB⟩; have BWB := hide ((unhide BWA).trans (hbB.mono (unhide BWA).size)); clear hbB))
          refine ⟨rfl, ⟨⟨_, unhide BWB⟩, rfl⟩, ?_⟩
          refine Reg.mix_take 2 (by kernel_rfl) ?_
          simp only [List.take_succ_cons, List.take_zero, List.drop_succ_cons, List.drop_zero]
          repeat (go_big_quiet_step (fail))
          refine wpQuiet_nil ?_
          refine Reg.mix_nil ?_
          go_wp2_with fail
          go_ret
          exact ⟨by simp, (unhide HB13).trans ((unhide BWB).mono (unhide HB13).size)⟩
      · have d2 : decide (200 ≤ st) = false := decide_eq_false c2
        have hcon : conB m st = false := by rw [hst2.out]; rw [cm, d2]; rfl
        have hks := (unhide HKS) hcon
        clear hcon hst2
        have G1 := unhide HX9
        have px0 := G1.cell 0 _ rfl; have px1 := G1.cell 1 _ rfl; have px2 := G1.cell 2 _ rfl; have px3 := G1.cell 3 _ rfl; have px4 := G1.cell 4 _ rfl; have px5 := G1.cell 5 _ rfl; have px6 := G1.cell 6 _ rfl; have px7 := G1.cell 7 _ rfl; have zx := G1.lt
        clear G1
        have G2 := unhide HW3
        have py0 := G2.cell 0 _ rfl; have py1 := G2.cell 1 _ rfl; have py2 := G2.cell 2 _ rfl; have py3 := G2.cell 3 _ rfl; have py4 := G2.cell 4 _ rfl; have py5 := G2.cell 5 _ rfl; have py6 := G2.cell 6 _ rfl; have py7 := G2.cell 7 _ rfl; have zy := G2.lt
        clear G2
        have hks2 : ((K : Int) == (s.size : Int)) = true := by rw [beq_iff_eq]; omega
        have QW := hide (fun w1 (hb : Below w13.heap.size w13 w1) => without_any ⟨#[]⟩ ⟨#[]⟩ re xb st mi (.slice fo G.length fc) xo 0 xc G (unhide HGF) w1 ((unhide HF9).below hb))
        unfold WithO msgV at QW
        rw [HWG.out] at QW
        go_upto_region 19 with fail
        refine Reg.region_mix [0, 1, 2, 3, 4, 5, 6, 7, 8, 9, 10, 11, 12, 14, 13, 15, 16, 17] (by kernel_rfl) (by kernel_rfl) (by kernel_rfl) (by decide) (by intro c a d v w h; cases d <;> exact h) ?_
        simp only [Reg.pickL, List.getElem?_cons_zero, List.getElem?_cons_succ]
        refine Reg.mix_take 14 (by kernel_rfl) ?_
        simp only [List.take_succ_cons, List.take_zero, List.drop_succ_cons, List.drop_zero]
        repeat (go_big_quiet_step (fail))
        refine wpQuiet_nil ?_
        have BW := hide (Below.drew (Below.refl w13.heap.size w13))
        refine Reg.mix_one (by kernel_rfl) ?_
        go_wp2_with ((go_at_call 19; refine (unhide QW _ (unhide BW)).mono ?_; rintro e wA ⟨v, rfl, hrA, hbA⟩; obtain ⟨vo, vc, rfl⟩ := hrA.form; have BWA := hide ((unhide BW).trans (hbA.mono (unhide BW).size)); have QS := hide (rsame06_any ⟨#[]⟩ ⟨#[]⟩ re xb st mi (.slice vo F.length vc) (.slice ao F.length c1) (.slice xo 0 xc) (.slice none 0 0) F F [] [] wA ⟨by have := hF.1; omega, fun f hf => by have := (hF.2 f hf).1; omega⟩ ⟨by have := hF.1; omega, fun f hf => by have := (hF.2 f hf).1; omega⟩ ⟨by simp, fun f hf => by cases hf⟩ ⟨by simp, fun f hf => by cases hf⟩ hrA ((unhide HV).below ((unhide HB13).trans ((unhide BWA).mono (unhide HB13).size))) ((unhide HT9).below (unhide BWA)) (Rd.nil _ _)); clear hrA hbA))
        refine ⟨rfl, ⟨⟨_, unhide BWA⟩, rfl⟩, ?_⟩
        unfold msgV at QS
        rw [sameFs_self', sameFs_self'] at QS
        refine Reg.mix_one (by kernel_rfl) ?_
        go_wp2_with ((go_at_call 18; refine (unhide QS).mono ?_; rintro e wB ⟨rfl, hbB⟩; have BWB := hide ((unhide BWA).trans (hbB.mono (unhide BWA).size)); clear hbB))
        refine ⟨rfl, ⟨⟨_, unhide BWB⟩, rfl⟩, ?_⟩
        refine Reg.mix_take 2 (by kernel_rfl) ?_
        simp only [List.take_succ_cons, List.take_zero, List.drop_succ_cons, List.drop_zero]
        repeat (go_big_quiet_step (fail))
        refine wpQuiet_nil ?_
        refine Reg.mix_nil ?_
        go_wp2_with fail
        go_ret
        exact ⟨by simp, (unhide HB13).trans ((unhide BWB).mono (unhide HB13).size)⟩
  · rw [if_pos rfl] at hxc
    subst hxc
    go_wp2_with fail
    refine (unhide qb _).mono ?_; rintro e w14 ⟨rfl, rfl⟩
    clear qb p2 zh H13
    have p6 := (unhide HW3).cell 6 _ rfl
    have u6 := (unhide HW3).free 6 (by simp)
    have zw := (unhide HW3).lt
    go_upto_region 17 with fail
    have HW4 := hide ((unhide HW3).put 6 (.string ⟨#[]⟩))
    have HBY4 := hide ((unhide HBY3).setCell (p := ⟨w11.heap.size, 6, none⟩) (Nat.le_refl _) (.string ⟨#[]⟩))
    have HB14 := hide ((unhide HB13).setCell (p := ⟨w11.heap.size, 6, none⟩) (show w.heap.size ≤ w11.heap.size from hz11w) (.string ⟨#[]⟩))
    generalize World.setCell _ ⟨w11.heap.size, 6, none⟩ _ = w15 at HW4 HBY4 HB14 ⊢
    clear p6 u6 zw HW3 HBY3 HB13
    have H9 := hide ((unhide H11).call (unhide HBY4))
    have HX9 := hide ((unhide HX).call (unhide HBY4))
    have HF9 := hide ((unhide HF11).below (unhide HBY4))
    have HT9 := hide ((unhide HT11).below (unhide HBY4))
    have p2 := (unhide H9).cell 2 _ rfl
    have zh := (unhide H9).lt
    clear H11 HX HF11 HT11
    cases cm : (m.toList == [67, 79, 78, 78, 69, 67, 84])
    · have hcon : conB m st = false := by rw [hst2.out]; rw [cm]; rfl
      have hks := (unhide HKS) hcon
      clear hcon hst2
      have G1 := unhide HX9
      have px0 := G1.cell 0 _ rfl; have px1 := G1.cell 1 _ rfl; have px2 := G1.cell 2 _ rfl; have px3 := G1.cell 3 _ rfl; have px4 := G1.cell 4 _ rfl; have px5 := G1.cell 5 _ rfl; have px6 := G1.cell 6 _ rfl; have px7 := G1.cell 7 _ rfl; have zx := G1.lt
      clear G1
      have G2 := unhide HW4
      have py0 := G2.cell 0 _ rfl; have py1 := G2.cell 1 _ rfl; have py2 := G2.cell 2 _ rfl; have py3 := G2.cell 3 _ rfl; have py4 := G2.cell 4 _ rfl; have py5 := G2.cell 5 _ rfl; have py6 := G2.cell 6 _ rfl; have py7 := G2.cell 7 _ rfl; have zy := G2.lt
      clear G2
      have hks2 : ((K : Int) == (s.size : Int)) = true := by rw [beq_iff_eq]; omega
      have QW := hide (fun w1 (hb : Below w15.heap.size w15 w1) => without_any ⟨#[]⟩ ⟨#[]⟩ re ⟨#[]⟩ st mi (.slice fo G.length fc) xo 0 xc G (unhide HGF) w1 ((unhide HF9).below hb))
      unfold WithO msgV at QW
      rw [HWG.out] at QW
      go_upto_region 19 with fail
      refine Reg.region_mix [0, 1, 2, 3, 4, 5, 6, 7, 8, 9, 10, 11, 12, 14, 13, 15, 16, 17] (by kernel_rfl) (by kernel_rfl) (by kernel_rfl) (by decide) (by intro c a d v w h; cases d <;> exact h) ?_
      simp only [Reg.pickL, List.getElem?_cons_zero, List.getElem?_cons_succ]
      refine Reg.mix_take 14 (by kernel_rfl) ?_
      simp only [List.take_succ_cons, List.take_zero, List.drop_succ_cons, List.drop_zero]
      repeat (go_big_quiet_step (fail))
      refine wpQuiet_nil ?_
      have BW := hide (Below.drew (Below.refl w15.heap.size w15))
      refine Reg.mix_one (by kernel_rfl) ?_
      go_wp2_with ((go_at_call 19; refine (unhide QW _ (unhide BW)).mono ?_; rintro e wA ⟨v, rfl, hrA, hbA⟩; obtain ⟨vo, vc, rfl⟩ := hrA.form; have BWA := hide ((unhide BW).trans (hbA.mono (unhide BW).size)); have QS := hide (rsame06_any ⟨#[]⟩ ⟨#[]⟩ re ⟨#[]⟩ st mi (.slice vo F.length vc) (.slice ao F.length c1) (.slice xo 0 xc) (.slice none 0 0) F F [] [] wA ⟨by have := hF.1; omega, fun f hf => by have := (hF.2 f hf).1; omega⟩ ⟨by have := hF.1; omega, fun f hf => by have := (hF.2 f hf).1; omega⟩ ⟨by simp, fun f hf => by cases hf⟩ ⟨by simp, fun f hf => by cases hf⟩ hrA ((unhide HV).below ((unhide HB14).trans ((unhide BWA).mono (unhide HB14).size))) ((unhide HT9).below (unhide BWA)) (Rd.nil _ _)); clear hrA hbA))
      refine ⟨rfl, ⟨⟨_, unhide BWA⟩, rfl⟩, ?_⟩
      unfold msgV at QS
      rw [sameFs_self', sameFs_self'] at QS
      refine Reg.mix_one (by kernel_rfl) ?_
      go_wp2_with ((go_at_call 18; refine (unhide QS).mono ?_; rintro e wB ⟨rfl, hbB⟩; have BWB := hide ((unhide BWA).trans (hbB.mono (unhide BWA).size)); clear hbB))
      refine ⟨rfl, ⟨⟨_, unhide BWB⟩, rfl⟩, ?_⟩
      refine Reg.mix_take 2 (by kernel_rfl) ?_
      simp only [List.take_succ_cons, List.take_zero, List.drop_succ_cons, List.drop_zero]
      repeat (go_big_quiet_step (fail))
      refine wpQuiet_nil ?_
      refine Reg.mix_nil ?_
      go_wp2_with fail
      go_ret
      exact ⟨by simp, (unhide HB14).trans ((unhide BWB).mono (unhide HB14).size)⟩
    · by_cases c2 : 200 ≤ st
      · by_cases c3 : st ≤ 299
        · have d2 : decide (200 ≤ st) = true := decide_eq_true c2
          have d3 : decide (st ≤ 299) = true := decide_eq_true c3
          clear HKS
          go_wp2_with fail
          go_ret
          exact ⟨rfl, unhide HB14⟩
        · have d2 : decide (200 ≤ st) = true := decide_eq_true c2
          have d3 : decide (st ≤ 299) = false := decide_eq_false c3
          have hcon : conB m st = false := by rw [hst2.out]; rw [cm, d2, d3]; rfl
          have hks := (unhide HKS) hcon
          clear hcon hst2
          have G1 := unhide HX9
          have px0 := G1.cell 0 _ rfl; have px1 := G1.cell 1 _ rfl; have px2 := G1.cell 2 _ rfl; have px3 := G1.cell 3 _ rfl; have px4 := G1.cell 4 _ rfl; have px5 := G1.cell 5 _ rfl; have px6 := G1.cell 6 _ rfl; have px7 := G1.cell 7 _ rfl; have zx := G1.lt
          clear G1
          have G2 := unhide HW4
          have py0 := G2.cell 0 _ rfl; have py1 := G2.cell 1 _ rfl; have py2 := G2.cell 2 _ rfl; have py3 := G2.cell 3 _ rfl; have py4 := G2.cell 4 _ rfl; have py5 := G2.cell 5 _ rfl; have py6 := G2.cell 6 _ rfl; have py7 := G2.cell 7 _ rfl; have zy := G2.lt
          clear G2
          have hks2 : ((K : Int) == (s.size : Int)) = true := by rw [beq_iff_eq]; omega
          have QW := hide (fun w1 (hb : Below w15.heap.size w15 w1) => without_any ⟨#[]⟩ ⟨#[]⟩ re ⟨#[]⟩ st mi (.slice fo G.length fc) xo 0 xc G (unhide HGF) w1 ((unhide HF9).below hb))
          unfold WithO msgV at QW
          rw [HWG.out] at QW
          go_upto_region 19 with fail
          refine Reg.region_mix [0, 1, 2, 3, 4, 5, 6, 7, 8, 9, 10, 11, 12, 14, 13, 15, 16, 17] (by kernel_rfl) (by kernel_rfl) (by kernel_rfl) (by decide) (by intro c a d v w h; cases d <;> exact h) ?_
          simp only [Reg.pickL, List.getElem?_cons_zero, List.getElem?_cons_succ]
          refine Reg.mix_take 14 (by kernel_rfl) ?_
          simp only [List.take_succ_cons, List.take_zero, List.drop_succ_cons, List.drop_zero]
          repeat (go_big_quiet_step (fail))
          refine wpQuiet_nil ?_
          have BW := hide (Below.drew (Below.refl w15.heap.size w15))
          refine Reg.mix_one (by kernel_rfl) ?_
          go_wp2_with ((go_at_call 19; refine (unhide QW _ (unhide BW)).mono ?_; rintro e wA ⟨v, rfl, hrA, hbA⟩; obtain ⟨vo, vc, rfl⟩ := hrA.form; have BWA := hide ((unhide BW).trans (hbA.mono (unhide BW).size)); have QS := hide (rsame06_any ⟨#[]⟩ ⟨#[]⟩ re ⟨#[]⟩ st mi (.slice vo F.length vc) (.slice ao F.length c1) (.slice xo 0 xc) (.slice none 0 0) F F [] [] wA ⟨by have := hF.1; omega, fun f hf => by have := (hF.2 f hf).1; omega⟩ ⟨by have := hF.1; omega, fun f hf => by have := (hF.2 f hf).1; omega⟩ ⟨by simp, fun f hf => by cases hf⟩ ⟨by simp, fun f hf => by cases hf⟩ hrA ((unhide HV).below ((unhide HB14).trans ((unhide BWA).mono (unhide HB14).size))) ((unhide HT9).below (unhide BWA)) (Rd.nil _ _)); clear hrA hbA))
          refine ⟨rfl, ⟨⟨_, unhide BWA⟩, rfl⟩, ?_⟩
          unfold msgV at QS
          rw [sameFs_self', sameFs_self'] at QS
          refine Reg.mix_one (by kernel_rfl) ?_
          go_wp2_with ((go_at_call 18; refine (unhide QS).mono ?_; rintro e wB ⟨rfl, hbB⟩; have BWB := hide ((unhide BWA).trans (hbB.mono (unhide BWA).size)); clear hbB))
          refine ⟨rfl, ⟨⟨_, unhide BWB⟩, rfl⟩, ?_⟩
          refine Reg.mix_take 2 (by kernel_rfl) ?_
          simp only [List.take_succ_cons, List.take_zero, List.drop_succ_cons, List.drop_zero]
          repeat (go_big_quiet_step (fail))
          refine wpQuiet_nil ?_
          refine Reg.mix_nil ?_
          go_wp2_with fail
          go_ret
          exact ⟨by simp, (unhide HB14).trans ((unhide BWB).mono (unhide HB14).size)⟩
      · have d2 : decide (200 ≤ st) = false := decide_eq_false c2
        have hcon : conB m st = false := by rw [hst2.out]; rw [cm, d2]; rfl
        have hks := (unhide HKS) hcon
        clear hcon hst2
        have G1 := unhide HX9
        have px0 := G1.cell 0 _ rfl; have px1 := G1.cell 1 _ rfl; have px2 := G1.cell 2 _ rfl; have px3 := G1.cell 3 _ rfl; have px4 := G1.cell 4 _ rfl; have px5 := G1.cell 5 _ rfl; have px6 := G1.cell 6 _ rfl; have px7 := G1.cell 7 _ rfl; have zx := G1.lt
        clear G1
        have G2 := unhide HW4
        have py0 := G2.cell 0 _ rfl; have py1 := G2.cell 1 _ rfl; have py2 := G2.cell 2 _ rfl; have py3 := G2.cell 3 _ rfl; have py4 := G2.cell 4 _ rfl; have py5 := G2.cell 5 _ rfl; have py6 := G2.cell 6 _ rfl; have py7 := G2.cell 7 _ rfl; have zy := G2.lt
        clear G2
        have hks2 : ((K : Int) == (s.size : Int)) = true := by rw [beq_iff_eq]; omega
        have QW := hide (fun w1 (hb : Below w15.heap.size w15 w1) => without_any ⟨#[]⟩ ⟨#[]⟩ re ⟨#[]⟩ st mi (.slice fo G.length fc) xo 0 xc G (unhide HGF) w1 ((unhide HF9).below hb))
        unfold WithO msgV at QW
        rw [HWG.out] at QW
        go_upto_region 19 with fail
        refine Reg.region_mix [0, 1, 2, 3, 4, 5, 6, 7, 8, 9, 10, 11, 12, 14, 13, 15, 16, 17] (by kernel_rfl) (by kernel_rfl) (by kernel_rfl) (by decide) (by intro c a d v w h; cases d <;> exact h) ?_
        simp only [Reg.pickL, List.getElem?_cons_zero, List.getElem?_cons_succ]
        refine Reg.mix_take 14 (by kernel_rfl) ?_
        simp only [List.take_succ_cons, List.take_zero, List.drop_succ_cons, List.drop_zero]
        repeat (go_big_quiet_step (fail))
        refine wpQuiet_nil ?_
        have BW := hide (Below.drew (Below.refl w15.heap.size w15))
        refine Reg.mix_one (by kernel_rfl) ?_
        go_wp2_with ((go_at_call 19; refine (unhide QW _ (unhide BW)).mono ?_; rintro e wA ⟨v, rfl, hrA, hbA⟩; obtain ⟨vo, vc, rfl⟩ := hrA.form; have BWA := hide ((unhide BW).trans (hbA.mono (unhide BW).size)); have QS := hide (rsame06_any ⟨#[]⟩ ⟨#[]⟩ re ⟨#[]⟩ st mi (.slice vo F.length vc) (.slice ao F.length c1) (.slice xo 0 xc) (.slice none 0 0) F F [] [] wA ⟨by have := hF.1; omega, fun f hf => by have := (hF.2 f hf).1; omega⟩ ⟨by have := hF.1; omega, fun f hf => by have := (hF.2 f hf).1; omega⟩ ⟨by simp, fun f hf => by cases hf⟩ ⟨by simp, fun f hf => by cases hf⟩ hrA ((unhide HV).below ((unhide HB14).trans ((unhide BWA).mono (unhide HB14).size))) ((unhide HT9).below (unhide BWA)) (Rd.nil _ _)); clear hrA hbA))
        refine ⟨rfl, ⟨⟨_, unhide BWA⟩, rfl⟩, ?_⟩
        unfold msgV at QS
        rw [sameFs_self', sameFs_self'] at QS
        refine Reg.mix_one (by kernel_rfl) ?_
        go_wp2_with ((go_at_call 18; refine (unhide QS).mono ?_; rintro e wB ⟨rfl, hbB⟩; have BWB := hide ((unhide BWA).trans (hbB.mono (unhide BWA).size)); clear hbB))
        refine ⟨rfl, ⟨⟨_, unhide BWB⟩, rfl⟩, ?_⟩
        refine Reg.mix_take 2 (by kernel_rfl) ?_
        simp only [List.take_succ_cons, List.take_zero, List.drop_succ_cons, List.drop_zero]
        repeat (go_big_quiet_step (fail))
        refine wpQuiet_nil ?_
        refine Reg.mix_nil ?_
        go_wp2_with fail
        go_ret
        exact ⟨by simp, (unhide HB14).trans ((unhide BWB).mono (unhide HB14).size)⟩
end Go.Proofs.YtbpopmbabckojaaGreatDoor.Sp
end
