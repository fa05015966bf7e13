/- Forward, by the reference. -/
import Derived.Test.YtmmldoleillelaaDoorE13
import Derived.Test.YtmmldoleillelaaDoorE3
namespace Go.Proofs.YtmmldoleillelaaDoor.Sp
open Go.RowKit Sl

set_option maxRecDepth 100000 in
set_option maxHeartbeats 1500000 in
theorem rfwd_a (me ta re bo : ByteArray) (st mi : Int) (fs tr : Value) (F : List Fld) (hF : Few1 F) (h0 : -9223372036854775808 ≤ mi) (h1 : mi ≤ 9223372036854775807) (name : ByteArray) (hn : name.size ≤ 2000) (hok : tokenS name.data.toList = true) (w : World) (hv : Rd w fs F.length 2 (fldV F)) (hu : ∃ ao n c, tr = .slice ao n c) (hme : me.toList = []) :
    Calls Tryd.prog 27 #[.agg (msgV me ta st re mi fs bo tr), .string name] w (FwdOut w me ta re bo st F mi name) := by
  obtain ⟨ao, cap, rfl⟩ := hv.form
  obtain ⟨xo, tn, tc, rfl⟩ := hu
  have htok := hide (fun w => rtoken_any name (by omega) w)
  rw [hok] at htok
  have S := hide (FwdSt.start w me ta re bo st mi (.slice ao F.length cap) (.slice xo tn tc))
  have HV := hide hv
  have HF := hide hF.few
  have HFS := hide hF.strip.few
  have HSS := hide (fun f hf => (hF.strip.2 f hf).1)
  have hsl := hF.strip.1
  have HF1 := hide (hF.strip.del clB).few
  have HS1 := hide (fun f hf => ((hF.strip.del clB).2 f hf).1)
  have hp1l := (hF.strip.del clB).1
  have hpre : preF me F = delF (stripF F) clB := by unfold preF; rw [if_pos (by rw [hme]; rfl)]
  have hpf := pre_few hF me
  rw [hpre] at hpf
  unfold FwdOut fwdF
  rw [hpre]
  obtain ⟨P1, hP1⟩ : ∃ P1, delF (stripF F) clB = P1 := ⟨_, rfl⟩
  rw [hP1] at HF1 HS1 hp1l hpf ⊢
  have HP1 := Lib.hid hP1
  have HPF := hide hpf
  clear hv hF hok hpre hpf hP1
  unfold msgV
  go_enter Tryd.func27, Tryd.ntmps27
  go_wp2_with (first
    | (go_at_call 21; refine (rdel_any _ (stripF F) clB (unhide HFS) (by decide) _ (unhide R2)).mono ?_; rintro e w3 ⟨v3, rfl, ho3, hb3⟩; rw [HP1.out] at ho3; obtain ⟨ao3, cp3, rfl⟩ := (Rd.own ho3).form; have S0 := S; have S := hide ((unhide S).call hb3); obtain ⟨c0, c4, c5, c7, f4, f5, f7⟩ := (unhide S).cells; have S := hide ((unhide S).put5 (.slice ao3 P1.length cp3)); have R := hide (Rd.own (ownsRow_setCell_below ho3 (a := ⟨w.heap.size, 5, none⟩) (by show w.heap.size < _; have := (unhide S0).Z.lt; omega) (.slice ao3 P1.length cp3))); have secondDel := True.intro; clear ho3 hb3)
    | (go_at_call 29; refine (rstrip_any _ F (unhide HF) _ ((unhide HV).below (unhide S).B)).mono ?_; rintro e w2 ⟨v2, rfl, ho2, hb2⟩; obtain ⟨ao2, cp2, rfl⟩ := (Rd.own ho2).form; have S := hide ((unhide S).call hb2); have R2 := hide (Rd.own ho2); obtain ⟨c0, c4, c5, c7, f4, f5, f7⟩ := (unhide S).cells; clear ho2 hb2)
    | (go_at_call 17; refine (unhide htok _).mono ?_; rintro e w1 ⟨rfl, rfl⟩; obtain ⟨c0, c4, c5, c7, f4, f5, f7⟩ := (unhide S).cells))
  refine (rvia_any _ P1 mi name (unhide HPF) h0 h1 hn _ (unhide R)).mono ?_
  rintro e w8 ⟨v8, rfl, ho8, hb8⟩
  obtain ⟨ao8, cp8, rfl⟩ := (Rd.own ho8).form
  have LT8 := hide (unhide S).Z.lt
  have S := hide ((unhide S).call hb8)
  obtain ⟨n8, hn8⟩ : ∃ n8, (viaF P1 (itoaB mi) name).length = n8 := ⟨_, rfl⟩
  rw [hn8] at ho8 ⊢
  obtain ⟨c0, c4, c5, c7, f4, f5, f7⟩ := (unhide S).cells
  have S9 := hide ((((unhide S).put5 (.slice ao8 n8 cp8)).put4 1).put7 (.slice none 0 0))
  have O9 := hide (ownsRow_setCell_below (ownsRow_setCell_below (ownsRow_setCell_below ho8 (a := ⟨w.heap.size, 5, none⟩) (Nat.lt_of_succ_lt (unhide LT8)) (.slice ao8 n8 cp8)) (a := ⟨w.heap.size, 4, none⟩) (Nat.lt_of_succ_lt (unhide LT8)) (.int .i64 1)) (a := ⟨w.heap.size, 7, none⟩) (Nat.lt_of_succ_lt (unhide LT8)) (.slice none 0 0))
  have HN8 := Lib.hid hn8
  clear ho8 hb8 hn8
  go_wp2_with (first
    | (refine wpList_storeM rfl _ _ rfl (w.heap.size + 1) rfl #[.string me, .string ta, .int .i64 st, .string re, .int .i64 1, .slice ao8 n8 cp8, .string bo, .slice none 0 0] rfl rfl zeroM rfl (unhide S9).Z (by kernel_rfl) ?_; intro HZ; have HBZ := below_setCells (w.heap.size + 1) (Nat.le_succ _) [.string me, .string ta, .int .i64 st, .string re, .int .i64 1, .slice ao8 n8 cp8, .string bo, .slice none 0 0] 0 _ (unhide S9).B; have HO := ownsRow_setCells_below (unhide O9) (b := w.heap.size + 1) (unhide LT8) [.string me, .string ta, .int .i64 st, .string re, .int .i64 1, .slice ao8 n8 cp8, .string bo, .slice none 0 0] 0; generalize World.setCells _ (w.heap.size + 1) 0 _ = w9 at HZ HBZ HO ⊢; have ZZ := hide HZ; have BZ := hide HBZ; have OZ := hide HO; clear HZ HBZ HO S9)
    | (refine wpList_loadM rfl _ rfl w.heap.size rfl _ rfl (unhide S9).H ?_))
  have hl := run_loadM (w.heap.size + 1) #[.string me, .string ta, .int .i64 st, .string re, .int .i64 1, .slice ao8 n8 cp8, .string bo, .slice none 0 0] rfl (unhide ZZ)
  refine bodyPost_ret (Mem.results_cell2 (ad := ⟨w.heap.size + 1, 0, none⟩) Tryd.results27 rfl hl) rfl ⟨_, rfl, ?_, unhide BZ⟩
  have hz := World.ownsRow.mono (unhide OZ) (Nat.le_of_lt (Nat.lt_of_succ_lt (unhide LT8)))
  rw [HN8.out]
  exact hz

set_option maxRecDepth 100000 in
set_option maxHeartbeats 1500000 in
theorem rfwd_b (me ta re bo : ByteArray) (st mi : Int) (fs tr : Value) (F : List Fld) (hF : Few1 F) (h0 : -9223372036854775808 ≤ mi) (h1 : mi ≤ 9223372036854775807) (name : ByteArray) (hn : name.size ≤ 2000) (hok : tokenS name.data.toList = true) (w : World) (hv : Rd w fs F.length 2 (fldV F)) (hu : ∃ ao n c, tr = .slice ao n c) (hme : me.toList.isEmpty = false) (hho : (allB (delF (delF (stripF F) clB) exB) hoB).isEmpty = false) :
    Calls Tryd.prog 27 #[.agg (msgV me ta st re mi fs bo tr), .string name] w (FwdOut w me ta re bo st F mi name) := by
  obtain ⟨ao, cap, rfl⟩ := hv.form
  obtain ⟨xo, tn, tc, rfl⟩ := hu
  have htok := hide (fun w => rtoken_any name (by omega) w)
  rw [hok] at htok
  have S := hide (FwdSt.start w me ta re bo st mi (.slice ao F.length cap) (.slice xo tn tc))
  have HV := hide hv
  have HF := hide hF.few
  have HFS := hide hF.strip.few
  have HSS := hide (fun f hf => (hF.strip.2 f hf).1)
  have hsl := hF.strip.1
  have HF1 := hide (hF.strip.del clB).few
  have HS1 := hide (fun f hf => ((hF.strip.del clB).2 f hf).1)
  have hp1l := (hF.strip.del clB).1
  have HF2 := hide ((hF.strip.del clB).del exB).few
  have hp2l := ((hF.strip.del clB).del exB).1
  have hpre : preF me F = delF (delF (stripF F) clB) exB := by unfold preF; rw [if_neg (by rw [hme]; decide)]; unfold hostF; rw [if_neg (by rw [hho]; decide)]
  have hpf := pre_few hF me
  rw [hpre] at hpf
  unfold FwdOut fwdF
  rw [hpre]
  obtain ⟨P1, hP1⟩ : ∃ P1, delF (stripF F) clB = P1 := ⟨_, rfl⟩
  rw [hP1] at HF1 HS1 hp1l hpf hho HF2 hp2l ⊢
  have HP1 := Lib.hid hP1
  obtain ⟨P2, hP2⟩ : ∃ P2, delF P1 exB = P2 := ⟨_, rfl⟩
  rw [hP2] at hho HF2 hp2l hpf ⊢
  have HP2 := Lib.hid hP2
  obtain ⟨n5, hn5⟩ : ∃ n5, (allB P2 hoB).length = n5 := ⟨_, rfl⟩
  have hpos : ((n5 : Int) == 0) = false := by
    rw [beq_eq_false_iff_ne]
    cases hh : allB P2 hoB with
    | nil => rw [hh] at hho; cases hho
    | cons a t => rw [hh] at hn5; simp at hn5; omega
  have HM := Lib.hid hn5
  clear hn5
  have HPF := hide hpf
  clear hv hF hok hpre hpf hP1 hP2 hho
  unfold msgV
  go_enter Tryd.func27, Tryd.ntmps27
  go_wp2_with (first
    | (go_at_call 14; refine (rall_any _ P2 hoB (unhide HF2) (by decide) _ (unhide R)).mono ?_; rintro e w5 ⟨v5, rfl, ho5, hb5⟩; obtain ⟨ao5, cp5, rfl⟩ := (Rd.own ho5).form; have S := hide ((unhide S).call hb5); have R := hide ((unhide R).below hb5); obtain ⟨c0, c4, c5, c7, f4, f5, f7⟩ := (unhide S).cells; have z5 := (unhide S).H.lt; rw [HM.out]; clear ho5 hb5)
    | (have h7 := secondDel; go_at_call 21; refine (rdel_any _ P1 exB (unhide HF1) (by decide) _ (unhide R)).mono ?_; rintro e w4 ⟨v4, rfl, ho4, hb4⟩; rw [HP2.out] at ho4; obtain ⟨ao4, cp4, rfl⟩ := (Rd.own ho4).form; have S0 := S; have S := hide ((unhide S).call hb4); obtain ⟨c0, c4, c5, c7, f4, f5, f7⟩ := (unhide S).cells; have S := hide ((unhide S).put5 (.slice ao4 P2.length cp4)); have R := hide (Rd.own (ownsRow_setCell_below ho4 (a := ⟨w.heap.size, 5, none⟩) (by show w.heap.size < _; have := (unhide S0).Z.lt; omega) (.slice ao4 P2.length cp4))); clear ho4 hb4)
    | (go_at_call 21; refine (rdel_any _ (stripF F) clB (unhide HFS) (by decide) _ (unhide R2)).mono ?_; rintro e w3 ⟨v3, rfl, ho3, hb3⟩; rw [HP1.out] at ho3; obtain ⟨ao3, cp3, rfl⟩ := (Rd.own ho3).form; have S0 := S; have S := hide ((unhide S).call hb3); obtain ⟨c0, c4, c5, c7, f4, f5, f7⟩ := (unhide S).cells; have S := hide ((unhide S).put5 (.slice ao3 P1.length cp3)); have R := hide (Rd.own (ownsRow_setCell_below ho3 (a := ⟨w.heap.size, 5, none⟩) (by show w.heap.size < _; have := (unhide S0).Z.lt; omega) (.slice ao3 P1.length cp3))); have secondDel := True.intro; clear ho3 hb3)
    | (go_at_call 29; refine (rstrip_any _ F (unhide HF) _ ((unhide HV).below (unhide S).B)).mono ?_; rintro e w2 ⟨v2, rfl, ho2, hb2⟩; obtain ⟨ao2, cp2, rfl⟩ := (Rd.own ho2).form; have S := hide ((unhide S).call hb2); have R2 := hide (Rd.own ho2); obtain ⟨c0, c4, c5, c7, f4, f5, f7⟩ := (unhide S).cells; clear ho2 hb2)
    | (go_at_call 17; refine (unhide htok _).mono ?_; rintro e w1 ⟨rfl, rfl⟩; obtain ⟨c0, c4, c5, c7, f4, f5, f7⟩ := (unhide S).cells))
  refine (rvia_any _ P2 mi name (unhide HPF) h0 h1 hn _ (unhide R)).mono ?_
  rintro e w8 ⟨v8, rfl, ho8, hb8⟩
  obtain ⟨ao8, cp8, rfl⟩ := (Rd.own ho8).form
  have LT8 := hide (unhide S).Z.lt
  have S := hide ((unhide S).call hb8)
  obtain ⟨n8, hn8⟩ : ∃ n8, (viaF P2 (itoaB mi) name).length = n8 := ⟨_, rfl⟩
  rw [hn8] at ho8 ⊢
  obtain ⟨c0, c4, c5, c7, f4, f5, f7⟩ := (unhide S).cells
  have S9 := hide ((((unhide S).put5 (.slice ao8 n8 cp8)).put4 1).put7 (.slice none 0 0))
  have O9 := hide (ownsRow_setCell_below (ownsRow_setCell_below (ownsRow_setCell_below ho8 (a := ⟨w.heap.size, 5, none⟩) (Nat.lt_of_succ_lt (unhide LT8)) (.slice ao8 n8 cp8)) (a := ⟨w.heap.size, 4, none⟩) (Nat.lt_of_succ_lt (unhide LT8)) (.int .i64 1)) (a := ⟨w.heap.size, 7, none⟩) (Nat.lt_of_succ_lt (unhide LT8)) (.slice none 0 0))
  have HN8 := Lib.hid hn8
  clear ho8 hb8 hn8
  go_wp2_with (first
    | (refine wpList_storeM rfl _ _ rfl (w.heap.size + 1) rfl #[.string me, .string ta, .int .i64 st, .string re, .int .i64 1, .slice ao8 n8 cp8, .string bo, .slice none 0 0] rfl rfl zeroM rfl (unhide S9).Z (by kernel_rfl) ?_; intro HZ; have HBZ := below_setCells (w.heap.size + 1) (Nat.le_succ _) [.string me, .string ta, .int .i64 st, .string re, .int .i64 1, .slice ao8 n8 cp8, .string bo, .slice none 0 0] 0 _ (unhide S9).B; have HO := ownsRow_setCells_below (unhide O9) (b := w.heap.size + 1) (unhide LT8) [.string me, .string ta, .int .i64 st, .string re, .int .i64 1, .slice ao8 n8 cp8, .string bo, .slice none 0 0] 0; generalize World.setCells _ (w.heap.size + 1) 0 _ = w9 at HZ HBZ HO ⊢; have ZZ := hide HZ; have BZ := hide HBZ; have OZ := hide HO; clear HZ HBZ HO S9)
    | (refine wpList_loadM rfl _ rfl w.heap.size rfl _ rfl (unhide S9).H ?_))
  have hl := run_loadM (w.heap.size + 1) #[.string me, .string ta, .int .i64 st, .string re, .int .i64 1, .slice ao8 n8 cp8, .string bo, .slice none 0 0] rfl (unhide ZZ)
  refine bodyPost_ret (Mem.results_cell2 (ad := ⟨w.heap.size + 1, 0, none⟩) Tryd.results27 rfl hl) rfl ⟨_, rfl, ?_, unhide BZ⟩
  have hz := World.ownsRow.mono (unhide OZ) (Nat.le_of_lt (Nat.lt_of_succ_lt (unhide LT8)))
  rw [HN8.out]
  exact hz

set_option maxRecDepth 100000 in
set_option maxHeartbeats 1500000 in
theorem rfwd_c (me ta re bo : ByteArray) (st mi : Int) (fs tr : Value) (F : List Fld) (hF : Few1 F) (h0 : -9223372036854775808 ≤ mi) (h1 : mi ≤ 9223372036854775807) (name : ByteArray) (hn : name.size ≤ 2000) (hok : tokenS name.data.toList = true) (w : World) (hv : Rd w fs F.length 2 (fldV F)) (hu : ∃ ao n c, tr = .slice ao n c) (hme : me.toList.isEmpty = false) (hho : (allB (delF (delF (stripF F) clB) exB) hoB).isEmpty = true) :
    Calls Tryd.prog 27 #[.agg (msgV me ta st re mi fs bo tr), .string name] w (FwdOut w me ta re bo st F mi name) := by
  obtain ⟨ao, cap, rfl⟩ := hv.form
  obtain ⟨xo, tn, tc, rfl⟩ := hu
  have htok := hide (fun w => rtoken_any name (by omega) w)
  rw [hok] at htok
  have S := hide (FwdSt.start w me ta re bo st mi (.slice ao F.length cap) (.slice xo tn tc))
  have HV := hide hv
  have HF := hide hF.few
  have HFS := hide hF.strip.few
  have HSS := hide (fun f hf => (hF.strip.2 f hf).1)
  have hsl := hF.strip.1
  have HF1 := hide (hF.strip.del clB).few
  have HS1 := hide (fun f hf => ((hF.strip.del clB).2 f hf).1)
  have hp1l := (hF.strip.del clB).1
  have HF2 := hide ((hF.strip.del clB).del exB).few
  have hp2l := ((hF.strip.del clB).del exB).1
  have hpre : preF me F = delF (delF (stripF F) clB) exB ++ [(hoB, ⟨#[]⟩)] := by unfold preF; rw [if_neg (by rw [hme]; decide)]; unfold hostF; rw [if_pos hho]
  have hpf := pre_few hF me
  rw [hpre] at hpf
  unfold FwdOut fwdF
  rw [hpre]
  obtain ⟨P1, hP1⟩ : ∃ P1, delF (stripF F) clB = P1 := ⟨_, rfl⟩
  rw [hP1] at HF1 HS1 hp1l hpf hho HF2 hp2l ⊢
  have HP1 := Lib.hid hP1
  obtain ⟨P2, hP2⟩ : ∃ P2, delF P1 exB = P2 := ⟨_, rfl⟩
  rw [hP2] at hho HF2 hp2l hpf ⊢
  have HP2 := Lib.hid hP2
  have hm : (allB P2 hoB).length = 0 := by cases hh : allB P2 hoB <;> simp_all
  have HM := Lib.hid hm
  obtain ⟨P, hP⟩ : ∃ P, P2 ++ [(hoB, (⟨#[]⟩ : ByteArray))] = P := ⟨_, rfl⟩
  rw [hP] at hpf ⊢
  have HPP := Lib.hid hP
  have HPF := hide hpf
  clear hv hF hok hpre hpf hP1 hP2 hho
  clear hP
  unfold msgV
  go_enter Tryd.func27, Tryd.ntmps27
  go_wp2_with (first
    | (at_builtin; refine wpList_pushF (w0 := w5) rfl _ _ rfl w5.heap.size _ _ _ rfl (unhide O6) hoB ⟨#[]⟩ rfl _ rfl (by omega) ?_; intro v7 w7 h7; obtain ⟨ao7, cp7, rfl⟩ := (Rd.own h7.own).form; have S := hide ((unhide S5).callB h7.bel (unhide LT5)); obtain ⟨c0, c4, c5, c7, f4, f5, f7⟩ := (unhide S).cells; have S := hide ((unhide S).put5 (.slice ao7 (P2.length + 1) cp7)); have R := hide (Rd.own (ownsRow_setCell_below h7.own (a := ⟨w.heap.size, 5, none⟩) (by show w.heap.size < _; have := (unhide LT5); omega) (.slice ao7 (P2.length + 1) cp7))); have R := hide (rd_host HPP.out (unhide R)); clear h7)
    | (at_builtin; refine wpList_pushAllF (w0 := w5) rfl _ _ rfl w5.heap.size _ 0 [] rfl (Own.fresh w5 35 2) _ P2 ((unhide R).alloc _) rfl (by omega) ?_; intro v6 w6 h6; rw [Nat.zero_add, List.nil_append] at h6; obtain ⟨ao6, cp6, rfl⟩ := (Rd.own h6.own).form; have S5 := S; have LT5 := hide (unhide S).Z.lt; have S := hide ((unhide S).callB h6.bel (unhide LT5)); have O6 := hide h6; obtain ⟨c0, c4, c5, c7, f4, f5, f7⟩ := (unhide S).cells; clear h6)
    | (go_at_call 14; refine (rall_any _ P2 hoB (unhide HF2) (by decide) _ (unhide R)).mono ?_; rintro e w5 ⟨v5, rfl, ho5, hb5⟩; obtain ⟨ao5, cp5, rfl⟩ := (Rd.own ho5).form; have S := hide ((unhide S).call hb5); have R := hide ((unhide R).below hb5); obtain ⟨c0, c4, c5, c7, f4, f5, f7⟩ := (unhide S).cells; have z5 := (unhide S).H.lt; rw [HM.out]; clear ho5 hb5)
    | (have h7 := secondDel; go_at_call 21; refine (rdel_any _ P1 exB (unhide HF1) (by decide) _ (unhide R)).mono ?_; rintro e w4 ⟨v4, rfl, ho4, hb4⟩; rw [HP2.out] at ho4; obtain ⟨ao4, cp4, rfl⟩ := (Rd.own ho4).form; have S0 := S; have S := hide ((unhide S).call hb4); obtain ⟨c0, c4, c5, c7, f4, f5, f7⟩ := (unhide S).cells; have S := hide ((unhide S).put5 (.slice ao4 P2.length cp4)); have R := hide (Rd.own (ownsRow_setCell_below ho4 (a := ⟨w.heap.size, 5, none⟩) (by show w.heap.size < _; have := (unhide S0).Z.lt; omega) (.slice ao4 P2.length cp4))); clear ho4 hb4)
    | (go_at_call 21; refine (rdel_any _ (stripF F) clB (unhide HFS) (by decide) _ (unhide R2)).mono ?_; rintro e w3 ⟨v3, rfl, ho3, hb3⟩; rw [HP1.out] at ho3; obtain ⟨ao3, cp3, rfl⟩ := (Rd.own ho3).form; have S0 := S; have S := hide ((unhide S).call hb3); obtain ⟨c0, c4, c5, c7, f4, f5, f7⟩ := (unhide S).cells; have S := hide ((unhide S).put5 (.slice ao3 P1.length cp3)); have R := hide (Rd.own (ownsRow_setCell_below ho3 (a := ⟨w.heap.size, 5, none⟩) (by show w.heap.size < _; have := (unhide S0).Z.lt; omega) (.slice ao3 P1.length cp3))); have secondDel := True.intro; clear ho3 hb3)
    | (go_at_call 29; refine (rstrip_any _ F (unhide HF) _ ((unhide HV).below (unhide S).B)).mono ?_; rintro e w2 ⟨v2, rfl, ho2, hb2⟩; obtain ⟨ao2, cp2, rfl⟩ := (Rd.own ho2).form; have S := hide ((unhide S).call hb2); have R2 := hide (Rd.own ho2); obtain ⟨c0, c4, c5, c7, f4, f5, f7⟩ := (unhide S).cells; clear ho2 hb2)
    | (go_at_call 17; refine (unhide htok _).mono ?_; rintro e w1 ⟨rfl, rfl⟩; obtain ⟨c0, c4, c5, c7, f4, f5, f7⟩ := (unhide S).cells))
  refine (rvia_any _ P mi name (unhide HPF) h0 h1 hn _ (unhide R)).mono ?_
  rintro e w8 ⟨v8, rfl, ho8, hb8⟩
  obtain ⟨ao8, cp8, rfl⟩ := (Rd.own ho8).form
  have LT8 := hide (unhide S).Z.lt
  have S := hide ((unhide S).call hb8)
  obtain ⟨n8, hn8⟩ : ∃ n8, (viaF P (itoaB mi) name).length = n8 := ⟨_, rfl⟩
  rw [hn8] at ho8 ⊢
  obtain ⟨c0, c4, c5, c7, f4, f5, f7⟩ := (unhide S).cells
  have S9 := hide ((((unhide S).put5 (.slice ao8 n8 cp8)).put4 1).put7 (.slice none 0 0))
  have O9 := hide (ownsRow_setCell_below (ownsRow_setCell_below (ownsRow_setCell_below ho8 (a := ⟨w.heap.size, 5, none⟩) (Nat.lt_of_succ_lt (unhide LT8)) (.slice ao8 n8 cp8)) (a := ⟨w.heap.size, 4, none⟩) (Nat.lt_of_succ_lt (unhide LT8)) (.int .i64 1)) (a := ⟨w.heap.size, 7, none⟩) (Nat.lt_of_succ_lt (unhide LT8)) (.slice none 0 0))
  have HN8 := Lib.hid hn8
  clear ho8 hb8 hn8
  go_wp2_with (first
    | (refine wpList_storeM rfl _ _ rfl (w.heap.size + 1) rfl #[.string me, .string ta, .int .i64 st, .string re, .int .i64 1, .slice ao8 n8 cp8, .string bo, .slice none 0 0] rfl rfl zeroM rfl (unhide S9).Z (by kernel_rfl) ?_; intro HZ; have HBZ := below_setCells (w.heap.size + 1) (Nat.le_succ _) [.string me, .string ta, .int .i64 st, .string re, .int .i64 1, .slice ao8 n8 cp8, .string bo, .slice none 0 0] 0 _ (unhide S9).B; have HO := ownsRow_setCells_below (unhide O9) (b := w.heap.size + 1) (unhide LT8) [.string me, .string ta, .int .i64 st, .string re, .int .i64 1, .slice ao8 n8 cp8, .string bo, .slice none 0 0] 0; generalize World.setCells _ (w.heap.size + 1) 0 _ = w9 at HZ HBZ HO ⊢; have ZZ := hide HZ; have BZ := hide HBZ; have OZ := hide HO; clear HZ HBZ HO S9)
    | (refine wpList_loadM rfl _ rfl w.heap.size rfl _ rfl (unhide S9).H ?_))
  have hl := run_loadM (w.heap.size + 1) #[.string me, .string ta, .int .i64 st, .string re, .int .i64 1, .slice ao8 n8 cp8, .string bo, .slice none 0 0] rfl (unhide ZZ)
  refine bodyPost_ret (Mem.results_cell2 (ad := ⟨w.heap.size + 1, 0, none⟩) Tryd.results27 rfl hl) rfl ⟨_, rfl, ?_, unhide BZ⟩
  have hz := World.ownsRow.mono (unhide OZ) (Nat.le_of_lt (Nat.lt_of_succ_lt (unhide LT8)))
  rw [HN8.out]
  exact hz

end Go.Proofs.YtmmldoleillelaaDoor.Sp
