/- Forward, by the program. -/
import Derived.Test.YtmmldoleillelaaDoorE12
namespace Go.Proofs.YtmmldoleillelaaDoor.Sp
open Go.RowKit Sl

theorem FwdSt.callB {w0 w w' : World} {me ta re bo : ByteArray} {st mi : Int} {fs tr : Value} {B : Nat} (h : FwdSt w0 w me ta re bo st mi fs tr) (hb : Below B w w') (hB : w0.heap.size + 1 < B) : FwdSt w0 w' me ta re bo st mi fs tr := ⟨h.H.below hb (by omega), h.Z.below hb hB, h.B.trans (hb.mono (by omega))⟩
theorem rd_host {w : World} {v : Value} {L P : List Fld} (hP : L ++ [(hoB, (⟨#[]⟩ : ByteArray))] = P) (h : Rd w v (L.length + 1) 2 (fldV L ++ [.string hoB, .string ⟨#[]⟩])) : Rd w v P.length 2 (fldV P) := by
  rw [← hP, fldV_app, List.length_append]; exact h
theorem ownsRow_setCells_below {base b : Nat} {e : TypeId} {sz : Nat} {v : Value} {n : Nat} {xs : List Value} : ∀ {w : World}, w.ownsRow base e sz v n xs → b < base → ∀ (vs : List Value) (o : Nat), (w.setCells b o vs).ownsRow base e sz v n xs
  | _, h, _, [], _ => h
  | w, h, hb, u :: vs, o => ownsRow_setCells_below (w := w.setCell ⟨b, o, none⟩ u) (ownsRow_setCell_below h (a := ⟨b, o, none⟩) hb u) hb vs (o + 1)

set_option maxRecDepth 100000 in
set_option maxHeartbeats 1500000 in
theorem fwd_a (me ta re bo : ByteArray) (st mi : Int) (fs tr : Value) (F : List Fld) (hF : Few1 F) (h0 : -9223372036854775808 ≤ mi) (h1 : mi ≤ 9223372036854775807) (name : ByteArray) (hn : name.size ≤ 2000) (hok : tokenS name.data.toList = true) (w : World) (hv : Rd w fs F.length 2 (fldV F)) (hu : ∃ ao n c, tr = .slice ao n c) (ht : Pow10 w) (hme : me.toList = []) :
    Calls Tryd.prog 24 #[.agg (msgV me ta st re mi fs bo tr), .string name] w (FwdOut w me ta re bo st F mi name) := by
  obtain ⟨ao, cap, rfl⟩ := hv.form
  obtain ⟨xo, tn, tc, rfl⟩ := hu
  have htok := hide (fun w => token_any name (by omega) w)
  rw [hok] at htok
  have S := hide (FwdSt.start w me ta re bo st mi (.slice ao F.length cap) (.slice xo tn tc))
  have HV := hide hv
  have HT := hide ht
  have HF := hide hF.few
  have HFS := hide hF.strip.few
  have HSS := hide (fun f hf => (hF.strip.2 f hf).1)
  have hsl := hF.strip.1
  have HF1 := hide (hF.strip.del clB).few
  have HS1 := hide (fun f hf => ((hF.strip.del clB).2 f hf).1)
  have hp1l := (hF.strip.del clB).1
  have hpre : preF me F = delF (stripF F) clB := by unfold preF; rw [if_pos (by rw [hme]; rfl)]
  have hpf := pre_few hF me
  rw [hpre] at hpf
  unfold FwdOut fwdF
  rw [hpre]
  obtain ⟨P1, hP1⟩ : ∃ P1, delF (stripF F) clB = P1 := ⟨_, rfl⟩
  rw [hP1] at HF1 HS1 hp1l hpf ⊢
  have HP1 := Lib.hid hP1
  have HPF := hide hpf
  clear hv hF hok hpre hpf hP1 ht
  unfold msgV
  go_enter Tryd.func24, Tryd.ntmps24
  go_wp2_with (first
    | (go_at_call 48; refine (fdel_any _ (stripF F) clB (by omega) (unhide HSS) (by decide) _ (unhide R2)).mono ?_; rintro e w3 ⟨v3, rfl, ho3, hb3⟩; rw [HP1.out] at ho3; obtain ⟨ao3, cp3, rfl⟩ := (Rd.own ho3).form; have S0 := S; have S := hide ((unhide S).call hb3); obtain ⟨c0, c4, c5, c7, f4, f5, f7⟩ := (unhide S).cells; have S := hide ((unhide S).put5 (.slice ao3 P1.length cp3)); have R := hide (Rd.own (ownsRow_setCell_below ho3 (a := ⟨w.heap.size, 5, none⟩) (by show w.heap.size < _; have := (unhide S0).Z.lt; omega) (.slice ao3 P1.length cp3))); have secondDel := True.intro; clear ho3 hb3)
    | (go_at_call 10; refine (strip_any _ F (unhide HF) _ ((unhide HV).below (unhide S).B)).mono ?_; rintro e w2 ⟨v2, rfl, ho2, hb2⟩; obtain ⟨ao2, cp2, rfl⟩ := (Rd.own ho2).form; have S := hide ((unhide S).call hb2); have R2 := hide (Rd.own ho2); obtain ⟨c0, c4, c5, c7, f4, f5, f7⟩ := (unhide S).cells; clear ho2 hb2)
    | (go_at_call 47; refine (unhide htok _).mono ?_; rintro e w1 ⟨rfl, hb1⟩; have S := hide ((unhide S).call hb1); obtain ⟨c0, c4, c5, c7, f4, f5, f7⟩ := (unhide S).cells; clear hb1))
  refine (via2_any _ P1 mi name (unhide HPF) h0 h1 hn _ (unhide R) ((unhide HT).below (unhide S).B)).mono ?_
  rintro e w8 ⟨v8, rfl, ho8, hb8⟩
  obtain ⟨ao8, cp8, rfl⟩ := (Rd.own ho8).form
  have LT8 := hide (unhide S).Z.lt
  have S := hide ((unhide S).call hb8)
  obtain ⟨n8, hn8⟩ : ∃ n8, (viaF P1 (itoaB mi) name).length = n8 := ⟨_, rfl⟩
  rw [hn8] at ho8 ⊢
  obtain ⟨c0, c4, c5, c7, f4, f5, f7⟩ := (unhide S).cells
  have S9 := hide ((((unhide S).put5 (.slice ao8 n8 cp8)).put4 1).put7 (.slice none 0 0))
  have O9 := hide (ownsRow_setCell_below (ownsRow_setCell_below (ownsRow_setCell_below ho8 (a := ⟨w.heap.size, 5, none⟩) (Nat.lt_of_succ_lt (unhide LT8)) (.slice ao8 n8 cp8)) (a := ⟨w.heap.size, 4, none⟩) (Nat.lt_of_succ_lt (unhide LT8)) (.int .i64 1)) (a := ⟨w.heap.size, 7, none⟩) (Nat.lt_of_succ_lt (unhide LT8)) (.slice none 0 0))
  have HN8 := Lib.hid hn8
  clear ho8 hb8 hn8
  go_wp2_with (first
    | (refine wpList_storeM rfl _ _ rfl (w.heap.size + 1) rfl #[.string me, .string ta, .int .i64 st, .string re, .int .i64 1, .slice ao8 n8 cp8, .string bo, .slice none 0 0] rfl rfl zeroM rfl (unhide S9).Z (by kernel_rfl) ?_; intro HZ; have HBZ := below_setCells (w.heap.size + 1) (Nat.le_succ _) [.string me, .string ta, .int .i64 st, .string re, .int .i64 1, .slice ao8 n8 cp8, .string bo, .slice none 0 0] 0 _ (unhide S9).B; have HO := ownsRow_setCells_below (unhide O9) (b := w.heap.size + 1) (unhide LT8) [.string me, .string ta, .int .i64 st, .string re, .int .i64 1, .slice ao8 n8 cp8, .string bo, .slice none 0 0] 0; generalize World.setCells _ (w.heap.size + 1) 0 _ = w9 at HZ HBZ HO ⊢; have ZZ := hide HZ; have BZ := hide HBZ; have OZ := hide HO; clear HZ HBZ HO S9)
    | (refine wpList_loadM rfl _ rfl w.heap.size rfl _ rfl (unhide S9).H ?_))
  have hl := run_loadM (w.heap.size + 1) #[.string me, .string ta, .int .i64 st, .string re, .int .i64 1, .slice ao8 n8 cp8, .string bo, .slice none 0 0] rfl (unhide ZZ)
  refine bodyPost_ret (Mem.results_cell2 (ad := ⟨w.heap.size + 1, 0, none⟩) Tryd.results24 rfl hl) rfl ⟨_, rfl, ?_, unhide BZ⟩
  have hz := World.ownsRow.mono (unhide OZ) (Nat.le_of_lt (Nat.lt_of_succ_lt (unhide LT8)))
  rw [HN8.out]
  exact hz

set_option maxRecDepth 100000 in
set_option maxHeartbeats 1500000 in
theorem fwd_b (me ta re bo : ByteArray) (st mi : Int) (fs tr : Value) (F : List Fld) (hF : Few1 F) (h0 : -9223372036854775808 ≤ mi) (h1 : mi ≤ 9223372036854775807) (name : ByteArray) (hn : name.size ≤ 2000) (hok : tokenS name.data.toList = true) (w : World) (hv : Rd w fs F.length 2 (fldV F)) (hu : ∃ ao n c, tr = .slice ao n c) (ht : Pow10 w) (hme : me.toList.isEmpty = false) (hho : (allB (delF (delF (stripF F) clB) exB) hoB).isEmpty = false) :
    Calls Tryd.prog 24 #[.agg (msgV me ta st re mi fs bo tr), .string name] w (FwdOut w me ta re bo st F mi name) := by
  obtain ⟨ao, cap, rfl⟩ := hv.form
  obtain ⟨xo, tn, tc, rfl⟩ := hu
  have htok := hide (fun w => token_any name (by omega) w)
  rw [hok] at htok
  have S := hide (FwdSt.start w me ta re bo st mi (.slice ao F.length cap) (.slice xo tn tc))
  have HV := hide hv
  have HT := hide ht
  have HF := hide hF.few
  have HFS := hide hF.strip.few
  have HSS := hide (fun f hf => (hF.strip.2 f hf).1)
  have hsl := hF.strip.1
  have HF1 := hide (hF.strip.del clB).few
  have HS1 := hide (fun f hf => ((hF.strip.del clB).2 f hf).1)
  have hp1l := (hF.strip.del clB).1
  have HF2 := hide ((hF.strip.del clB).del exB).few
  have hp2l := ((hF.strip.del clB).del exB).1
  have hpre : preF me F = delF (delF (stripF F) clB) exB := by unfold preF; rw [if_neg (by rw [hme]; decide)]; unfold hostF; rw [if_neg (by rw [hho]; decide)]
  have hpf := pre_few hF me
  rw [hpre] at hpf
  unfold FwdOut fwdF
  rw [hpre]
  obtain ⟨P1, hP1⟩ : ∃ P1, delF (stripF F) clB = P1 := ⟨_, rfl⟩
  rw [hP1] at HF1 HS1 hp1l hpf hho HF2 hp2l ⊢
  have HP1 := Lib.hid hP1
  obtain ⟨P2, hP2⟩ : ∃ P2, delF P1 exB = P2 := ⟨_, rfl⟩
  rw [hP2] at hho HF2 hp2l hpf ⊢
  have HP2 := Lib.hid hP2
  have HM := Lib.hid hho
  have HPF := hide hpf
  clear hv hF hok hpre hpf hP1 hP2 hho ht
  unfold msgV
  go_enter Tryd.func24, Tryd.ntmps24
  go_wp2_with (first
    | (go_at_call 43; refine (fget_any _ P2 hoB (unhide HF2) (by decide) _ (unhide R)).mono ?_; rintro e w5 ⟨rfl, hb5⟩; rw [HM.out]; have S := hide ((unhide S).call hb5); have R := hide ((unhide R).below hb5); obtain ⟨c0, c4, c5, c7, f4, f5, f7⟩ := (unhide S).cells; clear hb5)
    | (have h7 := secondDel; go_at_call 48; refine (fdel_any _ P1 exB (by omega) (unhide HS1) (by decide) _ (unhide R)).mono ?_; rintro e w4 ⟨v4, rfl, ho4, hb4⟩; rw [HP2.out] at ho4; obtain ⟨ao4, cp4, rfl⟩ := (Rd.own ho4).form; have S0 := S; have S := hide ((unhide S).call hb4); obtain ⟨c0, c4, c5, c7, f4, f5, f7⟩ := (unhide S).cells; have S := hide ((unhide S).put5 (.slice ao4 P2.length cp4)); have R := hide (Rd.own (ownsRow_setCell_below ho4 (a := ⟨w.heap.size, 5, none⟩) (by show w.heap.size < _; have := (unhide S0).Z.lt; omega) (.slice ao4 P2.length cp4))); clear ho4 hb4)
    | (go_at_call 48; refine (fdel_any _ (stripF F) clB (by omega) (unhide HSS) (by decide) _ (unhide R2)).mono ?_; rintro e w3 ⟨v3, rfl, ho3, hb3⟩; rw [HP1.out] at ho3; obtain ⟨ao3, cp3, rfl⟩ := (Rd.own ho3).form; have S0 := S; have S := hide ((unhide S).call hb3); obtain ⟨c0, c4, c5, c7, f4, f5, f7⟩ := (unhide S).cells; have S := hide ((unhide S).put5 (.slice ao3 P1.length cp3)); have R := hide (Rd.own (ownsRow_setCell_below ho3 (a := ⟨w.heap.size, 5, none⟩) (by show w.heap.size < _; have := (unhide S0).Z.lt; omega) (.slice ao3 P1.length cp3))); have secondDel := True.intro; clear ho3 hb3)
    | (go_at_call 10; refine (strip_any _ F (unhide HF) _ ((unhide HV).below (unhide S).B)).mono ?_; rintro e w2 ⟨v2, rfl, ho2, hb2⟩; obtain ⟨ao2, cp2, rfl⟩ := (Rd.own ho2).form; have S := hide ((unhide S).call hb2); have R2 := hide (Rd.own ho2); obtain ⟨c0, c4, c5, c7, f4, f5, f7⟩ := (unhide S).cells; clear ho2 hb2)
    | (go_at_call 47; refine (unhide htok _).mono ?_; rintro e w1 ⟨rfl, hb1⟩; have S := hide ((unhide S).call hb1); obtain ⟨c0, c4, c5, c7, f4, f5, f7⟩ := (unhide S).cells; clear hb1))
  refine (via2_any _ P2 mi name (unhide HPF) h0 h1 hn _ (unhide R) ((unhide HT).below (unhide S).B)).mono ?_
  rintro e w8 ⟨v8, rfl, ho8, hb8⟩
  obtain ⟨ao8, cp8, rfl⟩ := (Rd.own ho8).form
  have LT8 := hide (unhide S).Z.lt
  have S := hide ((unhide S).call hb8)
  obtain ⟨n8, hn8⟩ : ∃ n8, (viaF P2 (itoaB mi) name).length = n8 := ⟨_, rfl⟩
  rw [hn8] at ho8 ⊢
  obtain ⟨c0, c4, c5, c7, f4, f5, f7⟩ := (unhide S).cells
  have S9 := hide ((((unhide S).put5 (.slice ao8 n8 cp8)).put4 1).put7 (.slice none 0 0))
  have O9 := hide (ownsRow_setCell_below (ownsRow_setCell_below (ownsRow_setCell_below ho8 (a := ⟨w.heap.size, 5, none⟩) (Nat.lt_of_succ_lt (unhide LT8)) (.slice ao8 n8 cp8)) (a := ⟨w.heap.size, 4, none⟩) (Nat.lt_of_succ_lt (unhide LT8)) (.int .i64 1)) (a := ⟨w.heap.size, 7, none⟩) (Nat.lt_of_succ_lt (unhide LT8)) (.slice none 0 0))
  have HN8 := Lib.hid hn8
  clear ho8 hb8 hn8
  go_wp2_with (first
    | (refine wpList_storeM rfl _ _ rfl (w.heap.size + 1) rfl #[.string me, .string ta, .int .i64 st, .string re, .int .i64 1, .slice ao8 n8 cp8, .string bo, .slice none 0 0] rfl rfl zeroM rfl (unhide S9).Z (by kernel_rfl) ?_; intro HZ; have HBZ := below_setCells (w.heap.size + 1) (Nat.le_succ _) [.string me, .string ta, .int .i64 st, .string re, .int .i64 1, .slice ao8 n8 cp8, .string bo, .slice none 0 0] 0 _ (unhide S9).B; have HO := ownsRow_setCells_below (unhide O9) (b := w.heap.size + 1) (unhide LT8) [.string me, .string ta, .int .i64 st, .string re, .int .i64 1, .slice ao8 n8 cp8, .string bo, .slice none 0 0] 0; generalize World.setCells _ (w.heap.size + 1) 0 _ = w9 at HZ HBZ HO ⊢; have ZZ := hide HZ; have BZ := hide HBZ; have OZ := hide HO; clear HZ HBZ HO S9)
    | (refine wpList_loadM rfl _ rfl w.heap.size rfl _ rfl (unhide S9).H ?_))
  have hl := run_loadM (w.heap.size + 1) #[.string me, .string ta, .int .i64 st, .string re, .int .i64 1, .slice ao8 n8 cp8, .string bo, .slice none 0 0] rfl (unhide ZZ)
  refine bodyPost_ret (Mem.results_cell2 (ad := ⟨w.heap.size + 1, 0, none⟩) Tryd.results24 rfl hl) rfl ⟨_, rfl, ?_, unhide BZ⟩
  have hz := World.ownsRow.mono (unhide OZ) (Nat.le_of_lt (Nat.lt_of_succ_lt (unhide LT8)))
  rw [HN8.out]
  exact hz

set_option maxRecDepth 100000 in
set_option maxHeartbeats 1500000 in
theorem fwd_c (me ta re bo : ByteArray) (st mi : Int) (fs tr : Value) (F : List Fld) (hF : Few1 F) (h0 : -9223372036854775808 ≤ mi) (h1 : mi ≤ 9223372036854775807) (name : ByteArray) (hn : name.size ≤ 2000) (hok : tokenS name.data.toList = true) (w : World) (hv : Rd w fs F.length 2 (fldV F)) (hu : ∃ ao n c, tr = .slice ao n c) (ht : Pow10 w) (hme : me.toList.isEmpty = false) (hho : (allB (delF (delF (stripF F) clB) exB) hoB).isEmpty = true) :
    Calls Tryd.prog 24 #[.agg (msgV me ta st re mi fs bo tr), .string name] w (FwdOut w me ta re bo st F mi name) := by
  obtain ⟨ao, cap, rfl⟩ := hv.form
  obtain ⟨xo, tn, tc, rfl⟩ := hu
  have htok := hide (fun w => token_any name (by omega) w)
  rw [hok] at htok
  have S := hide (FwdSt.start w me ta re bo st mi (.slice ao F.length cap) (.slice xo tn tc))
  have HV := hide hv
  have HT := hide ht
  have HF := hide hF.few
  have HFS := hide hF.strip.few
  have HSS := hide (fun f hf => (hF.strip.2 f hf).1)
  have hsl := hF.strip.1
  have HF1 := hide (hF.strip.del clB).few
  have HS1 := hide (fun f hf => ((hF.strip.del clB).2 f hf).1)
  have hp1l := (hF.strip.del clB).1
  have HF2 := hide ((hF.strip.del clB).del exB).few
  have hp2l := ((hF.strip.del clB).del exB).1
  have hpre : preF me F = delF (delF (stripF F) clB) exB ++ [(hoB, ⟨#[]⟩)] := by unfold preF; rw [if_neg (by rw [hme]; decide)]; unfold hostF; rw [if_pos hho]
  have hpf := pre_few hF me
  rw [hpre] at hpf
  unfold FwdOut fwdF
  rw [hpre]
  obtain ⟨P1, hP1⟩ : ∃ P1, delF (stripF F) clB = P1 := ⟨_, rfl⟩
  rw [hP1] at HF1 HS1 hp1l hpf hho HF2 hp2l ⊢
  have HP1 := Lib.hid hP1
  obtain ⟨P2, hP2⟩ : ∃ P2, delF P1 exB = P2 := ⟨_, rfl⟩
  rw [hP2] at hho HF2 hp2l hpf ⊢
  have HP2 := Lib.hid hP2
  have HM := Lib.hid hho
  obtain ⟨P, hP⟩ : ∃ P, P2 ++ [(hoB, (⟨#[]⟩ : ByteArray))] = P := ⟨_, rfl⟩
  rw [hP] at hpf ⊢
  have HPP := Lib.hid hP
  have HPF := hide hpf
  clear hv hF hok hpre hpf hP1 hP2 hho ht
  clear hP
  unfold msgV
  go_enter Tryd.func24, Tryd.ntmps24
  go_wp2_with (first
    | (at_builtin; refine wpList_pushF (w0 := w6) rfl _ _ rfl w5.heap.size _ _ _ rfl (unhide O6) hoB ⟨#[]⟩ rfl _ rfl (by omega) ?_; intro v7 w7 h7; obtain ⟨ao7, cp7, rfl⟩ := (Rd.own h7.own).form; have S := hide ((unhide S).callB h7.bel (unhide LT5)); obtain ⟨c0, c4, c5, c7, f4, f5, f7⟩ := (unhide S).cells; have S := hide ((unhide S).put5 (.slice ao7 (P2.length + 1) cp7)); have R := hide (Rd.own (ownsRow_setCell_below h7.own (a := ⟨w.heap.size, 5, none⟩) (by show w.heap.size < _; have := (unhide LT5); omega) (.slice ao7 (P2.length + 1) cp7))); have R := hide (rd_host HPP.out (unhide R)); clear h7)
    | (go_at_call 36; refine (clone_any _ P2 (by omega) _ (unhide R)).mono ?_; rintro e w6 ⟨v6, rfl, ho6, hb6⟩; obtain ⟨ao6, cp6, rfl⟩ := (Rd.own ho6).form; have LT5 := hide (unhide S).Z.lt; have S := hide ((unhide S).call hb6); have O6 := hide (⟨ho6, Below.refl _ _, hb6.size⟩ : Own w6 w6 w5.heap.size 35 2 _ P2.length (fldV P2)); obtain ⟨c0, c4, c5, c7, f4, f5, f7⟩ := (unhide S).cells; clear ho6 hb6)
    | (go_at_call 43; refine (fget_any _ P2 hoB (unhide HF2) (by decide) _ (unhide R)).mono ?_; rintro e w5 ⟨rfl, hb5⟩; rw [HM.out]; have S := hide ((unhide S).call hb5); have R := hide ((unhide R).below hb5); obtain ⟨c0, c4, c5, c7, f4, f5, f7⟩ := (unhide S).cells; clear hb5)
    | (have h7 := secondDel; go_at_call 48; refine (fdel_any _ P1 exB (by omega) (unhide HS1) (by decide) _ (unhide R)).mono ?_; rintro e w4 ⟨v4, rfl, ho4, hb4⟩; rw [HP2.out] at ho4; obtain ⟨ao4, cp4, rfl⟩ := (Rd.own ho4).form; have S0 := S; have S := hide ((unhide S).call hb4); obtain ⟨c0, c4, c5, c7, f4, f5, f7⟩ := (unhide S).cells; have S := hide ((unhide S).put5 (.slice ao4 P2.length cp4)); have R := hide (Rd.own (ownsRow_setCell_below ho4 (a := ⟨w.heap.size, 5, none⟩) (by show w.heap.size < _; have := (unhide S0).Z.lt; omega) (.slice ao4 P2.length cp4))); clear ho4 hb4)
    | (go_at_call 48; refine (fdel_any _ (stripF F) clB (by omega) (unhide HSS) (by decide) _ (unhide R2)).mono ?_; rintro e w3 ⟨v3, rfl, ho3, hb3⟩; rw [HP1.out] at ho3; obtain ⟨ao3, cp3, rfl⟩ := (Rd.own ho3).form; have S0 := S; have S := hide ((unhide S).call hb3); obtain ⟨c0, c4, c5, c7, f4, f5, f7⟩ := (unhide S).cells; have S := hide ((unhide S).put5 (.slice ao3 P1.length cp3)); have R := hide (Rd.own (ownsRow_setCell_below ho3 (a := ⟨w.heap.size, 5, none⟩) (by show w.heap.size < _; have := (unhide S0).Z.lt; omega) (.slice ao3 P1.length cp3))); have secondDel := True.intro; clear ho3 hb3)
    | (go_at_call 10; refine (strip_any _ F (unhide HF) _ ((unhide HV).below (unhide S).B)).mono ?_; rintro e w2 ⟨v2, rfl, ho2, hb2⟩; obtain ⟨ao2, cp2, rfl⟩ := (Rd.own ho2).form; have S := hide ((unhide S).call hb2); have R2 := hide (Rd.own ho2); obtain ⟨c0, c4, c5, c7, f4, f5, f7⟩ := (unhide S).cells; clear ho2 hb2)
    | (go_at_call 47; refine (unhide htok _).mono ?_; rintro e w1 ⟨rfl, hb1⟩; have S := hide ((unhide S).call hb1); obtain ⟨c0, c4, c5, c7, f4, f5, f7⟩ := (unhide S).cells; clear hb1))
  refine (via2_any _ P mi name (unhide HPF) h0 h1 hn _ (unhide R) ((unhide HT).below (unhide S).B)).mono ?_
  rintro e w8 ⟨v8, rfl, ho8, hb8⟩
  obtain ⟨ao8, cp8, rfl⟩ := (Rd.own ho8).form
  have LT8 := hide (unhide S).Z.lt
  have S := hide ((unhide S).call hb8)
  obtain ⟨n8, hn8⟩ : ∃ n8, (viaF P (itoaB mi) name).length = n8 := ⟨_, rfl⟩
  rw [hn8] at ho8 ⊢
  obtain ⟨c0, c4, c5, c7, f4, f5, f7⟩ := (unhide S).cells
  have S9 := hide ((((unhide S).put5 (.slice ao8 n8 cp8)).put4 1).put7 (.slice none 0 0))
  have O9 := hide (ownsRow_setCell_below (ownsRow_setCell_below (ownsRow_setCell_below ho8 (a := ⟨w.heap.size, 5, none⟩) (Nat.lt_of_succ_lt (unhide LT8)) (.slice ao8 n8 cp8)) (a := ⟨w.heap.size, 4, none⟩) (Nat.lt_of_succ_lt (unhide LT8)) (.int .i64 1)) (a := ⟨w.heap.size, 7, none⟩) (Nat.lt_of_succ_lt (unhide LT8)) (.slice none 0 0))
  have HN8 := Lib.hid hn8
  clear ho8 hb8 hn8
  go_wp2_with (first
    | (refine wpList_storeM rfl _ _ rfl (w.heap.size + 1) rfl #[.string me, .string ta, .int .i64 st, .string re, .int .i64 1, .slice ao8 n8 cp8, .string bo, .slice none 0 0] rfl rfl zeroM rfl (unhide S9).Z (by kernel_rfl) ?_; intro HZ; have HBZ := below_setCells (w.heap.size + 1) (Nat.le_succ _) [.string me, .string ta, .int .i64 st, .string re, .int .i64 1, .slice ao8 n8 cp8, .string bo, .slice none 0 0] 0 _ (unhide S9).B; have HO := ownsRow_setCells_below (unhide O9) (b := w.heap.size + 1) (unhide LT8) [.string me, .string ta, .int .i64 st, .string re, .int .i64 1, .slice ao8 n8 cp8, .string bo, .slice none 0 0] 0; generalize World.setCells _ (w.heap.size + 1) 0 _ = w9 at HZ HBZ HO ⊢; have ZZ := hide HZ; have BZ := hide HBZ; have OZ := hide HO; clear HZ HBZ HO S9)
    | (refine wpList_loadM rfl _ rfl w.heap.size rfl _ rfl (unhide S9).H ?_))
  have hl := run_loadM (w.heap.size + 1) #[.string me, .string ta, .int .i64 st, .string re, .int .i64 1, .slice ao8 n8 cp8, .string bo, .slice none 0 0] rfl (unhide ZZ)
  refine bodyPost_ret (Mem.results_cell2 (ad := ⟨w.heap.size + 1, 0, none⟩) Tryd.results24 rfl hl) rfl ⟨_, rfl, ?_, unhide BZ⟩
  have hz := World.ownsRow.mono (unhide OZ) (Nat.le_of_lt (Nat.lt_of_succ_lt (unhide LT8)))
  rw [HN8.out]
  exact hz

end Go.Proofs.YtmmldoleillelaaDoor.Sp
