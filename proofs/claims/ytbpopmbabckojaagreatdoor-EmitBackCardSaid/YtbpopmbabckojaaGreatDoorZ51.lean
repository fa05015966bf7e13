/- Lemmas for the statement's proof, several texts in one: U9. -/
import Derived.Test.YtbpopmbabckojaaGreatDoorZ49
import Derived.Test.YtbpopmbabckojaaGreatDoorZ50
import Derived.Test.YtbpopmbabckojaaGreatDoorZ38
import Derived.Test.YtbpopmbabckojaaGreatDoorZ10
set_option linter.unusedVariables false
set_option linter.unusedSimpArgs false
/- The walk of the law EmitBack. -/
section
namespace Go.Proofs.YtbpopmbabckojaaGreatDoor.Sp
open Go.RowKit Sl

theorem withR {me bo : ByteArray} {F : List Fld} (h1 : allB F clB = []) (h2 : allB F teB = []) : withF (reqG me bo F) = F := by
  unfold withF reqG
  split
  · exact del_cl h1 h2
  · exact del_nil h1 h2
theorem withC {F : List Fld} (h1 : allB F clB = []) (h2 : allB F teB = []) : withF (F ++ [teF]) = F := by
  unfold withF
  rw [delF_app, delF_none h1, delF_no (f := teF) (te_cl _), delF_app, delF_none h2, delF_yes (f := teF) (te_te _), List.append_nil]
theorem fewR {me bo : ByteArray} {F : List Fld} (h1 : F.length ≤ 21) (h2 : sumF F ≤ 605) (hb : bo.size ≤ 400) : Few (reqG me bo F) := by
  unfold reqG
  split
  · exact few_sum (by simp; omega) (by rw [sumF_app]; have := clF_sum hb; omega)
  · exact few_sum (by omega) (by omega)
theorem fewC {F : List Fld} (h1 : F.length ≤ 21) (h2 : sumF F ≤ 605) : Few (F ++ [teF]) := few_sum (by simp; omega) (by rw [sumF_app]; have := teF_sum; omega)
theorem ownsRow_setCells_low {base b : Nat} {e : TypeId} {sz : Nat} {v : Value} {n : Nat} {xs : List Value} : ∀ {w : World}, w.ownsRow base e sz v n xs → b < base → ∀ (vs : List Value) (o : Nat), (w.setCells b o vs).ownsRow base e sz v n xs
  | _, h, _, [], _ => h
  | w, h, hb, u :: vs, o => ownsRow_setCells_low (w := w.setCell ⟨b, o, none⟩ u) (ownsRow_setCell_below h (a := ⟨b, o, none⟩) hb u) hb vs (o + 1)

set_option maxRecDepth 100000 in
set_option maxHeartbeats 8000000 in
theorem eback_any (me ta re bo : ByteArray) (st mi size : Int) (fs tr : Value) (F T : List Fld) (z1 : me.size ≤ 9223372036854775807) (z2 : ta.size ≤ 9223372036854775807) (z3 : re.size ≤ 9223372036854775807) (z4 : bo.size ≤ 9223372036854775807)
    (zF : F.length ≤ 4398046511104) (zT : T.length ≤ 9223372036854775807) (zf : ∀ f ∈ F, f.1.size ≤ 1000000000000000 ∧ f.2.size ≤ 1000000000000000) (zt : ∀ f ∈ T, f.1.size ≤ 1000000000000000 ∧ f.2.size ≤ 1000000000000000)
    (hs0 : -9223372036854775808 ≤ size) (hs1 : size ≤ 9223372036854775807) (w : World) (hT : Pow10 w) (hR : Bru w) (hv : Rd w fs F.length 2 (fldV F)) (hu : Rd w tr T.length 2 (fldV T)) :
    Calls Tryz.prog 5 #[.agg (msgV me ta st re mi fs bo tr), .int .i64 size] w fun e w' => e = .returned (.bool true) ∧ Below w.heap.size w w' := by
  obtain ⟨ao, c1, rfl⟩ := hv.form
  obtain ⟨bo', c2, rfl⟩ := hu.form
  have c0 := hide (fun w1 (hb : Below w.heap.size w w1) => lives8_any w1 (hT.below hb))
  have ca := hide (fun w1 (hb : Below w.heap.size w w1) => rall_long _ F hostN zF zf (by decide) w1 (hv.below hb))
  have cl := hide (fun w1 (hb : Below w.heap.size w w1) => light8_any me ta ⟨#[]⟩ bo 0 mi _ _ F T z1 z2 (by decide) z4 (by omega) zT zf zt w1 (hv.below hb) (hu.below hb))
  have HV := hide hv
  have HU := hide hu
  have HT := hide hT
  have HRB := hide hR
  have HS := hide (show -9223372036854775808 ≤ size ∧ size ≤ 9223372036854775807 from ⟨hs0, hs1⟩)
  clear hv hu hT hR zf zt z1 z2 z3 z4 zF zT hs0 hs1
  have HB := hide ((Below.refl w.heap.size w).alloc (Nat.le_refl _) (.cells #[.string me, .string ta, .int .i64 st, .string re, .int .i64 mi, .slice ao F.length c1, .string bo, .slice bo' T.length c2] 24))
  have H := hide (Reg.Has.at w w.heap.size [.string me, .string ta, .int .i64 st, .string re, .int .i64 mi, .slice ao F.length c1, .string bo, .slice bo' T.length c2] 24 rfl)
  unfold LightQ at cl
  unfold RetS at ca
  unfold msgV at cl ⊢
  go_enter Tryz.func5, Tryz.ntmps5
  go_wp2_with fail
  refine (unhide c0 _ (unhide HB)).mono ?_; rintro e w1 ⟨rfl, hb1⟩
  have HB1 := hide ((unhide HB).trans (hb1.mono (unhide HB).size))
  have H1 := hide ((unhide H).call hb1)
  clear hb1 c0 H HB
  have p2 := (unhide H1).cell 2 _ rfl
  have f2 := (unhide H1).free 2 (by simp)
  have p3 := (unhide H1).cell 3 _ rfl
  have f3 := (unhide H1).free 3 (by simp)
  have zh := (unhide H1).lt
  go_upto_region 4 with fail
  have H2 := hide (((unhide H1).put 2 (.int .i64 0)).put 3 (.string ⟨#[]⟩))
  have HB2 := hide (((unhide HB1).setCell (p := ⟨w.heap.size, 2, none⟩) (Nat.le_refl _) (.int .i64 0)).setCell (p := ⟨w.heap.size, 3, none⟩) (Nat.le_refl _) (.string ⟨#[]⟩))
  generalize World.setCell _ ⟨w.heap.size, 3, none⟩ _ = w2 at H2 HB2 ⊢
  clear p2 f2 p3 f3 zh H1 HB1
  have G := unhide H2
  have pa0 := G.cell 0 _ rfl; have pa1 := G.cell 1 _ rfl; have pa2 := G.cell 2 _ rfl; have pa3 := G.cell 3 _ rfl; have pa4 := G.cell 4 _ rfl; have pa5 := G.cell 5 _ rfl; have pa6 := G.cell 6 _ rfl; have pa7 := G.cell 7 _ rfl; have za := G.lt
  clear G
  go_wp2_with fail
  refine (unhide ca _ (unhide HB2)).mono ?_; rintro e w3 ⟨v, rfl, hr3, hb3⟩
  obtain ⟨xo, xc, rfl⟩ := (RetS.rd hr3).form
  have HB3 := hide ((unhide HB2).trans (hb3.mono (unhide HB2).size))
  have H3 := hide ((unhide H2).call hb3)
  obtain ⟨n, hn⟩ : ∃ n, (allB F hostN).length = n := ⟨_, rfl⟩
  rw [hn]
  have HN := Lib.hid hn
  clear hb3 ca H2 HB2 hr3 hn
  clear pa0 pa1 pa2 pa3 pa4 pa5 pa6 pa7 za
  have G := unhide H3
  have pb0 := G.cell 0 _ rfl; have pb1 := G.cell 1 _ rfl; have pb2 := G.cell 2 _ rfl; have pb3 := G.cell 3 _ rfl; have pb4 := G.cell 4 _ rfl; have pb5 := G.cell 5 _ rfl; have pb6 := G.cell 6 _ rfl; have pb7 := G.cell 7 _ rfl; have zb := G.lt
  clear G
  go_wp2_with fail
  refine (unhide cl _ (unhide HB3)).mono ?_; rintro e w4 ⟨r, rfl, hr, hb4⟩
  have HRR := hide hr
  have HB4 := hide ((unhide HB3).trans (hb4.mono (unhide HB3).size))
  have H4 := hide ((unhide H3).call hb4)
  clear hb4 cl H3 HB3 hr
  clear pb0 pb1 pb2 pb3 pb4 pb5 pb6 pb7 zb
  cases r
  · go_wp2_with fail
    go_ret
    exact ⟨rfl, unhide HB4⟩
  by_cases hn0 : n = 0
  rotate_left
  · have hd : decide ((0 : Int) < (n : Int)) = true := decide_eq_true (by omega)
    have hd2 : 0 < n := by omega
    go_wp2_with fail
    go_ret
    exact ⟨rfl, unhide HB4⟩
  have hd : decide ((0 : Int) < (n : Int)) = false := decide_eq_false (by omega)
  have hd2 : ¬ 0 < n := by omega
  have HH := Lib.hid (List.eq_nil_of_length_eq_zero (HN.out.trans hn0))
  have hll := unhide HRR rfl
  clear HRR HN hn0
  obtain ⟨l1, l2, l3, l4, ⟨l5, l6⟩, ⟨l7, l8⟩⟩ := hll
  have hsB := hB_sum
  have hFw : Few (F ++ [hB]) := few_sum (by simp; omega) (by rw [sumF_app]; omega)
  have hTr : Few T := few_sum (by omega) (by omega)
  have qo := hide (fun w1 (hb : Below w.heap.size w w1) => own_any _ F (by omega) w1 ((unhide HV).below hb))
  unfold RetF at qo
  have hlt0 : w.heap.size < w4.heap.size := (unhide H4).lt
  have G := unhide H4
  have pa0 := G.cell 0 _ rfl; have pa1 := G.cell 1 _ rfl; have pa2 := G.cell 2 _ rfl; have pa3 := G.cell 3 _ rfl; have pa4 := G.cell 4 _ rfl; have pa5 := G.cell 5 _ rfl; have pa6 := G.cell 6 _ rfl; have pa7 := G.cell 7 _ rfl; have za := G.lt
  clear G
  go_upto_region 8 with (first
    | (at_builtin; refine wpList_pushF (w0 := w4) rfl _ _ rfl w4.heap.size _ _ _ rfl ⟨ho5, hb5, hb5.size⟩ hostN ⟨#[104]⟩ rfl _ rfl (by omega) ?_; intro v' w6 h6; obtain ⟨ao6, c6, rfl⟩ := (Rd.own h6.own).form; have H6 := hide ((unhide H4).call h6.bel); have g5 := (unhide H6).cell 5 _ rfl; have f5 := (unhide H6).free 5 (by simp); have zh6 := (unhide H6).lt)
    | (go_at_call 26; refine (unhide qo _ (unhide HB4)).mono ?_; rintro e w5 ⟨v, rfl, ho5, hb5⟩; obtain ⟨ao5, c5, rfl⟩ := (Rd.own ho5).form))
  have HO7 : Hid ((w6.setCell ⟨w.heap.size, 5, none⟩ (.slice ao6 (F.length + 1) c6)).ownsRow w4.heap.size 55 2 (.slice ao6 (F.length + 1) c6) (F.length + 1) (fldV F ++ [.string hostN, .string ⟨#[104]⟩])) := hide (ownsRow_setCell_below h6.own (a := ⟨w.heap.size, 5, none⟩) hlt0 _)
  have H7 := hide ((unhide H6).put 5 (.slice ao6 (F.length + 1) c6))
  have HB7 := hide (((unhide HB4).trans (h6.bel.mono (unhide HB4).size)).setCell (p := ⟨w.heap.size, 5, none⟩) (Nat.le_refl _) (.slice ao6 (F.length + 1) c6))
  generalize World.setCell _ ⟨w.heap.size, 5, none⟩ _ = w7 at HO7 H7 HB7 ⊢
  clear h6 g5 f5 zh6 H6 HB4 H4 qo hlt0 ho5 hb5 hd hd2
  clear pa0 pa1 pa2 pa3 pa4 pa5 pa6 pa7 za
  have HV7 : Hid (Rd w7 (.slice ao6 (F.length + 1) c6) (F ++ [hB]).length 2 (fldV (F ++ [hB]))) := hide (by
    have := Rd.own (unhide HO7)
    rw [show fldV (F ++ [hB]) = fldV F ++ [.string hostN, .string ⟨#[104]⟩] by simp [fldV, hB], List.length_append]
    exact this)
  have q3 := hide (fun w1 (hb : Below w7.heap.size w7 w1) => ereq_any me ta ⟨#[]⟩ bo 0 mi _ _ (F ++ [hB]) T (by omega) (by omega) (by decide) (by omega) (lineS_len me ta ⟨#[]⟩ 0 mi (by omega) (by omega) (by decide)) hFw hTr w1 ((unhide HT).below ((unhide HB7).trans (hb.mono (unhide HB7).size))) ((unhide HV7).below hb) ((unhide HU).below ((unhide HB7).trans (hb.mono (unhide HB7).size))))
  unfold OutS msgV at q3
  obtain ⟨⟨s, er⟩, hX⟩ : ∃ X, reqS me ta ⟨#[]⟩ bo 0 mi (F ++ [hB]) T = X := ⟨_, rfl⟩
  rw [hX] at q3
  simp only at q3
  clear HO7
  have G := unhide H7
  have pa0 := G.cell 0 _ rfl; have pa1 := G.cell 1 _ rfl; have pa2 := G.cell 2 _ rfl; have pa3 := G.cell 3 _ rfl; have pa4 := G.cell 4 _ rfl; have pa5 := G.cell 5 _ rfl; have pa6 := G.cell 6 _ rfl; have pa7 := G.cell 7 _ rfl; have za := G.lt
  clear G
  go_wp2_with fail
  refine (unhide q3 _ (Below.refl _ _)).mono ?_; rintro e w8 ⟨rfl, hb8⟩
  have HB8 := hide ((unhide HB7).trans (hb8.mono (unhide HB7).size))
  have H8 := hide ((unhide H7).call hb8)
  have HV8 := hide ((unhide HV7).below hb8)
  clear hb8 q3 H7 HB7 HV7
  clear pa0 pa1 pa2 pa3 pa4 pa5 pa6 pa7 za
  by_cases he : er = 0
  rotate_left
  · have hs0 := reqS_no (me := me) (ta := ta) (bo := bo) (mi := mi) (F := F ++ [hB]) (T := T) (by rw [hX]; exact he)
    rw [hX] at hs0
    simp only at hs0
    have be : (er != 0) = true := by rw [bne_iff_ne]; exact he
    have hse : s.toList.isEmpty = true := by rw [hs0]; exact mt_list
    clear he hX hs0
    go_wp2_with fail
    go_ret
    exact ⟨rfl, unhide HB8⟩
  subst he
  obtain ⟨rr1, rr2, _⟩ := req_read hX
  obtain ⟨_, _, _, _, rr4, rr5⟩ := req_ok' rr1 rr2
  obtain ⟨zs, ze, hfeed⟩ := feed_req s T hX HH.out l1 l2 l4 l5 l6
  have qr := hide (fun w => room_any w)
  have qa := hide (fun w => all06_any s ze zs ⟨me, ta, ⟨#[]⟩, 0, mi, reqG me bo (F ++ [hB])⟩ bo [] hfeed w)
  have HWG := Lib.hid (withR (me := me) (bo := bo) rr4 rr5)
  have HWC := Lib.hid (withC rr4 rr5)
  have HGF := hide (fewR (me := me) (bo := bo) (F := F ++ [hB]) (by simp; omega) (by rw [sumF_app]; omega) l4)
  have HGC := hide (fewC (F := F ++ [hB]) (by simp; omega) (by rw [sumF_app]; omega))
  have HFE := hide hFw
  have HTE := hide hTr
  have HM := hide rr1
  have HE := hide rr2
  have HCH := hide (fun s2 (h : chuS me ta ⟨#[]⟩ bo 0 mi (F ++ [hB]) T size = (s2, 0)) => feed_chu s2 size T rr1 h HH.out l1 l2 l4 l5 l6 l7 l8)
  clear hfeed zs ze rr4 rr5 rr1 rr2 hX hFw hTr
  have hl : F.length + 1 = (F ++ [hB]).length := by simp
  rw [hl] at H8 HV8 ⊢
  clear hl
  generalize F ++ [hB] = FH at *
  go_upto_region 12 with (first
    | (go_at_call 13; refine (unhide qr _).mono ?_; rintro e w9 ⟨rfl, hb9⟩)
    | (go_at_call 28; refine (unhide qa _).mono ?_; rintro e w10 ⟨v, rfl, hm10, hb10⟩; unfold OneMsg at hm10; obtain ⟨g1, off1, cap1, fx1, tx1, rfl, hg1, hcc1, hf1, ht1⟩ := hm10; obtain ⟨fo1, fc1, rfl⟩ := hf1.form; obtain ⟨xo1, xc1, rfl⟩ := ht1.form))
  have HB9 := hide ((unhide HB8).trans (hb9.mono (unhide HB8).size))
  have HB10 := hide ((unhide HB9).trans (hb10.mono (unhide HB9).size))
  have H10 := hide (((unhide H8).call hb9).call hb10)
  have HV10 := hide (((unhide HV8).below hb9).below hb10)
  (try simp only at hf1)
  (try simp only at ht1)
  (try simp only at hcc1)
  have HF10 := hide hf1
  have HT10 := hide ht1
  have HC10 := hide hcc1
  clear hb9 hb10 hf1 ht1 hcc1 H8 HB8 HB9 HV8 qa
  obtain ⟨G, hG⟩ : ∃ G, reqG me bo FH = G := ⟨_, rfl⟩
  rw [hG] at HF10 HWG HGF HC10
  clear hG
  have hz10 : w.heap.size < w10.heap.size := (unhide H10).lt
  have HN0 := hide (Reg.Has.new w10 [.string ⟨#[]⟩, .string ⟨#[]⟩, .int .i64 0, .string ⟨#[]⟩, .int .i64 0, .slice none 0 0, .string ⟨#[]⟩, .slice none 0 0] 24)
  have hz10w : w.heap.size ≤ w10.heap.size := Nat.le_of_lt hz10
  have HBA := hide ((unhide HB10).alloc hz10w (.cells #[.string ⟨#[]⟩, .string ⟨#[]⟩, .int .i64 0, .string ⟨#[]⟩, .int .i64 0, .slice none 0 0, .string ⟨#[]⟩, .slice none 0 0] 24))
  go_upto_region 13 with (first
    | (refine wpList_loadM rfl _ rfl w.heap.size rfl _ rfl (unhide H10) ?_)
    | (refine wpList_storeM rfl _ _ rfl w10.heap.size rfl #[.string me, .string ta, .int .i64 0, .string ⟨#[]⟩, .int .i64 mi, .slice ao6 FH.length c6, .string bo, .slice bo' T.length c2] rfl rfl _ rfl (unhide HN0) (by kernel_rfl) ?_; intro HZ; have HW := hide HZ; have HBW := hide (below_setCells w10.heap.size hz10w (#[.string me, .string ta, .int .i64 0, .string ⟨#[]⟩, .int .i64 mi, .slice ao6 FH.length c6, .string bo, .slice bo' T.length c2] : Array Value).toList 0 _ (unhide HBA)); have HBY := hide (below_setCells w10.heap.size (Nat.le_refl _) (#[.string me, .string ta, .int .i64 0, .string ⟨#[]⟩, .int .i64 mi, .slice ao6 FH.length c6, .string bo, .slice bo' T.length c2] : Array Value).toList 0 _ ((Below.refl w10.heap.size w10).alloc (Nat.le_refl _) (.cells #[.string ⟨#[]⟩, .string ⟨#[]⟩, .int .i64 0, .string ⟨#[]⟩, .int .i64 0, .slice none 0 0, .string ⟨#[]⟩, .slice none 0 0] 24))); generalize World.setCells _ w10.heap.size 0 _ = w12 at HZ HW HBW HBY ⊢; clear HZ))
  have hz12 : w10.heap.size < w12.heap.size := (unhide HW).lt
  clear HN0 HBA
  have p7 := (unhide HW).cell 7 _ rfl
  have f7 := (unhide HW).free 7 (by simp)
  go_upto_region 14 with fail
  have HW3 := hide ((unhide HW).put 7 (.slice none 0 0))
  have HBY3 := hide ((unhide HBY).setCell (p := ⟨w10.heap.size, 7, none⟩) (Nat.le_refl _) (.slice none 0 0))
  have HB13 := hide ((unhide HBW).setCell (p := ⟨w10.heap.size, 7, none⟩) (show w.heap.size ≤ w10.heap.size from hz10w) (.slice none 0 0))
  generalize World.setCell _ ⟨w10.heap.size, 7, none⟩ _ = w13 at HW3 HBY3 HB13 ⊢
  clear p7 f7 HW HBW HBY hz12
  have H13 := hide ((unhide H10).call (unhide HBY3))
  have HV13 := hide ((unhide HV10).below (unhide HBY3))
  have HF13 := hide ((unhide HF10).below (unhide HBY3))
  have HT13 := hide ((unhide HT10).below (unhide HBY3))
  have hg13 : g1 < w13.heap.size := Nat.lt_of_lt_of_le hg1 (unhide HBY3).size
  have HC13 := hide (fun i u hu => ((unhide HBY3).cell (p := ⟨g1, off1 + i, none⟩) hg1).trans (unhide HC10 i u hu))
  clear HV10 HF10 HT10 HC10 HBY3 hg1 H10 HB10
  have G2 := unhide HW3
  have py0 := G2.cell 0 _ rfl; have py1 := G2.cell 1 _ rfl; have py2 := G2.cell 2 _ rfl; have py3 := G2.cell 3 _ rfl; have py4 := G2.cell 4 _ rfl; have py5 := G2.cell 5 _ rfl; have py6 := G2.cell 6 _ rfl; have py7 := G2.cell 7 _ rfl; have zy := G2.lt
  clear G2
  have x0 := unhide HC13 0 _ rfl
  have x1 := unhide HC13 1 _ rfl
  have x2 := unhide HC13 2 _ rfl
  have x3 := unhide HC13 3 _ rfl
  have x4 := unhide HC13 4 _ rfl
  have x5 := unhide HC13 5 _ rfl
  have x6 := unhide HC13 6 _ rfl
  have x7 := unhide HC13 7 _ rfl
  rw [Nat.add_zero] at x0
  have hfa : FH.length ≤ 1000 ∧ ∀ f ∈ FH, f.1.size ≤ 100000 := ⟨by have := (unhide HFE).1; omega, fun f hf => by have := ((unhide HFE).2 f hf).1; omega⟩
  have hta : T.length ≤ 1000 ∧ ∀ f ∈ T, f.1.size ≤ 100000 := ⟨by have := (unhide HTE).1; omega, fun f hf => by have := ((unhide HTE).2 f hf).1; omega⟩
  have QW := hide (fun w1 (hb : Below w13.heap.size w13 w1) => without_any me ta ⟨#[]⟩ bo 0 mi (.slice fo1 G.length fc1) xo1 0 xc1 G (unhide HGF) w1 ((unhide HF13).below hb))
  unfold WithO msgV at QW
  rw [HWG.out] at QW
  refine Reg.region_mix [0, 1, 2, 3, 4, 5, 6, 7, 8, 9, 10, 12, 11, 13, 14, 15] (by kernel_rfl) (by kernel_rfl) (by kernel_rfl) (by decide) (by intro c a d v w h; cases d <;> exact h) ?_
  simp only [Reg.pickL, List.getElem?_cons_zero, List.getElem?_cons_succ]
  refine Reg.mix_take 12 (by kernel_rfl) ?_
  simp only [List.take_succ_cons, List.take_zero, List.drop_succ_cons, List.drop_zero]
  repeat (go_big_quiet_step (fail))
  refine wpQuiet_nil ?_
  have BW := hide (Below.drew (Below.refl w13.heap.size w13))
  refine Reg.mix_one (by kernel_rfl) ?_
  go_wp2_with ((go_at_call 19; refine (unhide QW _ (unhide BW)).mono ?_; rintro e wA ⟨v, rfl, hrA, hbA⟩; obtain ⟨vo, vc, rfl⟩ := hrA.form; have BWA := hide ((unhide BW).trans (hbA.mono (unhide BW).size)); have QS := hide (rsame06_any me ta ⟨#[]⟩ bo 0 mi (.slice vo FH.length vc) (.slice ao6 FH.length c6) (.slice xo1 0 xc1) (.slice none 0 0) FH FH [] [] wA hfa hfa ⟨by simp, fun f hf => by cases hf⟩ ⟨by simp, fun f hf => by cases hf⟩ hrA ((unhide HV13).below (unhide BWA)) ((unhide HT13).below (unhide BWA)) (Rd.nil _ _)); clear hrA hbA))
  refine ⟨rfl, ⟨⟨_, unhide BWA⟩, rfl⟩, ?_⟩
  unfold msgV at QS
  rw [sameFs_self', sameFs_self'] at QS
  refine Reg.mix_one (by kernel_rfl) ?_
  go_wp2_with ((go_at_call 18; refine (unhide QS).mono ?_; rintro e wB ⟨rfl, hbB⟩; have BWB := hide ((unhide BWA).trans (hbB.mono (unhide BWA).size)); clear hbB))
  refine ⟨rfl, ⟨⟨_, unhide BWB⟩, rfl⟩, ?_⟩
  refine Reg.mix_take 2 (by kernel_rfl) ?_
  simp only [List.take_succ_cons, List.take_zero, List.drop_succ_cons, List.drop_zero]
  repeat (go_big_quiet_step (fail))
  refine wpQuiet_nil ?_
  refine Reg.mix_nil ?_
  have HBB := hide ((unhide HB13).trans ((unhide BWB).mono (unhide HB13).size))
  have HMB := hide ((unhide H13).call (unhide BWB))
  have HVB := hide ((unhide HV13).below (unhide BWB))
  have q4 := hide (fun w1 (hb : Below wB.heap.size wB w1) => echu_any me ta ⟨#[]⟩ bo 0 mi size _ _ FH T (by omega) (by omega) (by decide) (by omega) (unhide HS).1 (unhide HS).2 (lineS_len me ta ⟨#[]⟩ 0 mi (by omega) (by omega) (by decide)) (unhide HFE) (unhide HTE) w1 ((unhide HT).below ((unhide HBB).trans (hb.mono (unhide HBB).size))) ((unhide HRB).below ((unhide HBB).trans (hb.mono (unhide HBB).size))) ((unhide HVB).below hb) ((unhide HU).below ((unhide HBB).trans (hb.mono (unhide HBB).size))))
  unfold OutS msgV at q4
  obtain ⟨⟨s2, er2⟩, hX2⟩ : ∃ X, chuS me ta ⟨#[]⟩ bo 0 mi FH T size = X := ⟨_, rfl⟩
  rw [hX2] at q4
  simp only at q4
  have HX2 := Lib.hid hX2
  clear hX2 QW QS BW BWA BWB HW3 HB13 H13 HV13 HF13 HT13 HC13 x0 x1 x2 x3 x4 x5 x6 x7 HGF HWG
  clear py0 py1 py2 py3 py4 py5 py6 py7 zy
  have G := unhide HMB
  have pa0 := G.cell 0 _ rfl; have pa1 := G.cell 1 _ rfl; have pa2 := G.cell 2 _ rfl; have pa3 := G.cell 3 _ rfl; have pa4 := G.cell 4 _ rfl; have pa5 := G.cell 5 _ rfl; have pa6 := G.cell 6 _ rfl; have pa7 := G.cell 7 _ rfl; have za := G.lt
  clear G
  go_wp2_with fail
  refine (unhide q4 _ (Below.refl _ _)).mono ?_; rintro e wC ⟨rfl, hbC⟩
  have HBC := hide ((unhide HBB).trans (hbC.mono (unhide HBB).size))
  have HMC := hide ((unhide HMB).call hbC)
  have HVC := hide ((unhide HVB).below hbC)
  clear hbC q4 HBB HMB HVB
  clear pa0 pa1 pa2 pa3 pa4 pa5 pa6 pa7 za
  by_cases he2 : er2 = 0
  rotate_left
  · have hmi := chu_no (unhide HM) (unhide HE) (by rw [HX2.out]; exact he2)
    have be : (er2 != 0) = true := by rw [bne_iff_ne]; exact he2
    have hmb : (mi == 0) = true := by rw [beq_iff_eq]; exact hmi
    have G := unhide HMC
    have pa0 := G.cell 0 _ rfl; have pa1 := G.cell 1 _ rfl; have pa2 := G.cell 2 _ rfl; have pa3 := G.cell 3 _ rfl; have pa4 := G.cell 4 _ rfl; have pa5 := G.cell 5 _ rfl; have pa6 := G.cell 6 _ rfl; have pa7 := G.cell 7 _ rfl; have za := G.lt
    clear G
    clear he2 HX2 hmi
    go_wp2_with fail
    go_ret
    exact ⟨by simp, unhide HBC⟩
  subst he2
  obtain ⟨zs2, ze2, hfeed2⟩ := unhide HCH s2 HX2.out
  have qa := hide (fun w => all06_any s2 ze2 zs2 ⟨me, ta, ⟨#[]⟩, 0, mi, FH ++ [teF]⟩ bo T hfeed2 w)
  clear zs2 ze2 hfeed2 HX2 HCH
  go_upto_region 20 with (first
    | (go_at_call 13; refine (unhide qr _).mono ?_; rintro e wD ⟨rfl, hbD⟩)
    | (go_at_call 28; refine (unhide qa _).mono ?_; rintro e wE ⟨v, rfl, hmE, hbE⟩; unfold OneMsg at hmE; obtain ⟨g2, off2, cap2, fx2, tx2, rfl, hg2, hcc2, hf2, ht2⟩ := hmE; obtain ⟨fo2, fc2, rfl⟩ := hf2.form; obtain ⟨xo2, xc2, rfl⟩ := ht2.form))
  have HBD := hide ((unhide HBC).trans (hbD.mono (unhide HBC).size))
  have HBE := hide ((unhide HBD).trans (hbE.mono (unhide HBD).size))
  have HME := hide (((unhide HMC).call hbD).call hbE)
  have HVE := hide (((unhide HVC).below hbD).below hbE)
  (try simp only at hf2)
  (try simp only at ht2)
  (try simp only at hcc2)
  have HFE2 := hide hf2
  have HTE2 := hide ht2
  have HCE := hide hcc2
  clear hbD hbE hf2 ht2 hcc2 HMC HBC HBD HVC qa
  obtain ⟨G2, hG2⟩ : ∃ G2, FH ++ [teF] = G2 := ⟨_, rfl⟩
  rw [hG2] at HFE2 HWC HGC HCE
  clear hG2
  have G3 := unhide HME
  have py0 := G3.cell 0 _ rfl; have py1 := G3.cell 1 _ rfl; have py2 := G3.cell 2 _ rfl; have py3 := G3.cell 3 _ rfl; have py4 := G3.cell 4 _ rfl; have py5 := G3.cell 5 _ rfl; have py6 := G3.cell 6 _ rfl; have py7 := G3.cell 7 _ rfl; have zy := G3.lt
  clear G3
  have x0 := unhide HCE 0 _ rfl
  have x1 := unhide HCE 1 _ rfl
  have x2 := unhide HCE 2 _ rfl
  have x3 := unhide HCE 3 _ rfl
  have x4 := unhide HCE 4 _ rfl
  have x5 := unhide HCE 5 _ rfl
  have x6 := unhide HCE 6 _ rfl
  have x7 := unhide HCE 7 _ rfl
  rw [Nat.add_zero] at x0
  have QW := hide (fun w1 (hb : Below wE.heap.size wE w1) => without_any me ta ⟨#[]⟩ bo 0 mi (.slice fo2 G2.length fc2) xo2 T.length xc2 G2 (unhide HGC) w1 ((unhide HFE2).below hb))
  unfold WithO msgV at QW
  rw [HWC.out] at QW
  refine Reg.region_mix [0, 1, 2, 3, 4, 5, 6, 7, 8, 9, 10, 12, 11, 13, 14, 15] (by kernel_rfl) (by kernel_rfl) (by kernel_rfl) (by decide) (by intro c a d v w h; cases d <;> exact h) ?_
  simp only [Reg.pickL, List.getElem?_cons_zero, List.getElem?_cons_succ]
  refine Reg.mix_take 12 (by kernel_rfl) ?_
  simp only [List.take_succ_cons, List.take_zero, List.drop_succ_cons, List.drop_zero]
  repeat (go_big_quiet_step (fail))
  refine wpQuiet_nil ?_
  have BW := hide (Below.drew (Below.refl wE.heap.size wE))
  refine Reg.mix_one (by kernel_rfl) ?_
  go_wp2_with ((go_at_call 19; refine (unhide QW _ (unhide BW)).mono ?_; rintro e wF ⟨v, rfl, hrA, hbA⟩; obtain ⟨vo, vc, rfl⟩ := hrA.form; have BWA := hide ((unhide BW).trans (hbA.mono (unhide BW).size)); have QS := hide (rsame06_any me ta ⟨#[]⟩ bo 0 mi (.slice vo FH.length vc) (.slice ao6 FH.length c6) (.slice xo2 T.length xc2) (.slice bo' T.length c2) FH FH T T wF hfa hfa hta hta hrA ((unhide HVE).below (unhide BWA)) ((unhide HTE2).below (unhide BWA)) ((unhide HU).below ((unhide HBE).trans ((unhide BWA).mono (unhide HBE).size)))); clear hrA hbA))
  refine ⟨rfl, ⟨⟨_, unhide BWA⟩, rfl⟩, ?_⟩
  unfold msgV at QS
  rw [sameFs_self', sameFs_self'] at QS
  refine Reg.mix_one (by kernel_rfl) ?_
  go_wp2_with ((go_at_call 18; refine (unhide QS).mono ?_; rintro e wG ⟨rfl, hbB⟩; have BWB := hide ((unhide BWA).trans (hbB.mono (unhide BWA).size)); clear hbB))
  refine ⟨rfl, ⟨⟨_, unhide BWB⟩, rfl⟩, ?_⟩
  refine Reg.mix_take 2 (by kernel_rfl) ?_
  simp only [List.take_succ_cons, List.take_zero, List.drop_succ_cons, List.drop_zero]
  repeat (go_big_quiet_step (fail))
  refine wpQuiet_nil ?_
  refine Reg.mix_nil ?_
  go_wp2_with fail
  go_ret
  exact ⟨by simp, (unhide HBE).trans ((unhide BWB).mono (unhide HBE).size)⟩
end Go.Proofs.YtbpopmbabckojaaGreatDoor.Sp
end
