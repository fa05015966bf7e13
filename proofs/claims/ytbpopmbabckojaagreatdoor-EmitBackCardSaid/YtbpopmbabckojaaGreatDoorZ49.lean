/- Lemmas for the statement's proof, several texts in one: U6, U7, U8. -/
import Derived.Test.YtbpopmbabckojaaGreatDoorZ48
import Derived.Test.YtbpopmbabckojaaGreatDoorZ30
import Derived.Test.YtbpopmbabckojaaGreatDoorZ37
set_option linter.unusedVariables false
set_option linter.unusedSimpArgs false
/- The reference's parser: End, All of bytes that hold one message. -/
section
namespace Go.Proofs.YtbpopmbabckojaaGreatDoor.Sp
open Go.RowKit Sl

set_option maxRecDepth 100000 in
set_option maxHeartbeats 2000000 in
theorem end_any (w : World) (b L H C B : Nat) (resp : Bool) (ak : Value) (hp : PSt w b L H C B resp ak ⟨#[]⟩) :
    Calls Tryz.prog 50 #[.pointer (some ⟨b, 0, none⟩)] w fun e w' => e = .returned (.int .i64 0) ∧ w = w' := by
  have p6 := hp.cell 6 _ rfl
  have p7 := hp.cell 7 _ rfl
  have p16 := hp.cell 16 _ rfl
  have zb := hp.lt
  clear hp
  go_enter Tryz.func50, Tryz.ntmps50
  go_wp2_with fail
  go_ret
  exact ⟨rfl, rfl⟩

/-- a list of one message -/
def OneMsg (w : World) (v : Value) (h : Hd) (bo : ByteArray) (T : List Fld) : Prop :=
  ∃ g off cap fs tr, v = .slice (some ⟨g, off, none⟩) 1 cap ∧ g < w.heap.size ∧ (∀ i u, (msgV h.me h.ta h.st h.re h.mi fs bo tr).toList[i]? = some u → w.cell? ⟨g, off + i, none⟩ = some u) ∧ Rd w fs h.F.length 2 (fldV h.F) ∧ Rd w tr T.length 2 (fldV T)
theorem OneMsg.below {w w' : World} {v : Value} {h : Hd} {bo : ByteArray} {T : List Fld} (k : OneMsg w v h bo T) (hb : Below w.heap.size w w') : OneMsg w' v h bo T := by
  obtain ⟨g, off, cap, fs, tr, e, hl, hc, h1, h2⟩ := k
  exact ⟨g, off, cap, fs, tr, e, Nat.lt_of_lt_of_le hl hb.size, fun i u hu => (hb.cell (p := ⟨g, off + i, none⟩) hl).trans (hc i u hu), h1.below hb, h2.below hb⟩
def strLen8 : Value → Nat
  | .string s => s.size
  | _ => 0
theorem ext_none (s : ByteArray) : s.extract s.size s.size = ⟨#[]⟩ := by apply ba_eq; rw [Lib.extract_data]; simp

set_option maxRecDepth 100000 in
set_option maxHeartbeats 8000000 in
theorem all06_any (s : ByteArray) (hne : s.toList.isEmpty = false) (hs : s.size ≤ 100000) (h : Hd) (bo : ByteArray) (T : List Fld) (hfeed : ∀ w1 b ak, PSt w1 b 2000 4000 40 1000 false ak ⟨#[]⟩ → Calls Tryz.prog 15 #[.pointer (some ⟨b, 0, none⟩), .string s] w1 fun e w' => e = .returned (.tuple #[.int .i64 (s.size : Int), .int .i64 0]) ∧ DoneAt w' b 2000 4000 40 1000 false h bo T ∧ But (fun k => k = b) w1 w') (w : World) :
    Calls Tryz.prog 28 #[.agg #[.int .i64 2000, .int .i64 4000, .int .i64 40, .int .i64 1000], .string s] w fun e w' => ∃ v, e = .returned (.tuple #[v, .int .i64 0]) ∧ OneMsg w' v h bo T ∧ Below w.heap.size w w' := by
  have HL := hide (Reg.Has.new w [.int .i64 2000, .int .i64 4000, .int .i64 40, .int .i64 1000] 34)
  have HB := hide ((Below.refl w.heap.size w).alloc (Nat.le_refl _) (.cells #[.int .i64 2000, .int .i64 4000, .int .i64 40, .int .i64 1000] 34))
  have qn := hide (fun w => new6_any w 2000 4000 40 1000 false)
  have HFE := hide hfeed
  have hpos : 0 < s.size := by
    rcases Nat.eq_zero_or_pos s.size with h0 | h0
    · have hn : s.data.toList = [] := List.eq_nil_of_length_eq_zero ((size_list rfl).symm.trans h0)
      rw [Lib.toList_data, hn] at hne; cases hne
    · exact h0
  clear hfeed
  go_enter Tryz.func28, Tryz.ntmps28
  go_upto_region 1 with fail
  generalize w.alloc (.cells #[.int .i64 2000, .int .i64 4000, .int .i64 40, .int .i64 1000] 34) = w0 at HL HB ⊢
  go_wp2_with (refine wpList_load_mid rfl 34 _ rfl w.heap.size 0 rfl [.int .i64 2000, .int .i64 4000, .int .i64 40, .int .i64 1000] _ (has_range (unhide HL)) Tryz.underlying34 rfl (by kernel_rfl) ?_)
  refine (unhide qn _).mono ?_; rintro e w1 ⟨b, rfl, hbw, hp1, hb1⟩
  have HP1 := hide hp1
  have HB1 := hide ((unhide HB).trans (hb1.mono (unhide HB).size))
  have hwb : w.heap.size ≤ b := by have := (unhide HB).size; omega
  clear hp1 hb1 HB HL qn hbw
  go_wp2_with fail
  go_loopw [1, 7] (fun bv out wr => Below w.heap.size w wr ∧ ((bv = .string s ∧ out = .slice none 0 0 ∧ PSt wr b 2000 4000 40 1000 false (.slice none 0 0) ⟨#[]⟩) ∨ (bv = .string ⟨#[]⟩ ∧ OneMsg wr out h bo T ∧ ∃ ak, PSt wr b 2000 4000 40 1000 false ak ⟨#[]⟩))) (fun bv _ _ => strLen8 bv)
  case atStart => exact ⟨unhide HB1, .inl ⟨rfl, rfl, unhide HP1⟩⟩
  case round =>
    obtain ⟨hbr, ⟨rfl, rfl, hp⟩ | ⟨rfl, hm, ak, hp⟩⟩ := hrel
    · have p16 := hp.cell 16 _ rfl
      have zb := hp.lt
      have q := hide ((unhide HFE) wr b _ hp)
      have HBR := hide hbr
      clear hp hbr
      go_wp2_with fail
      refine (unhide q).mono ?_; rintro e w2 ⟨rfl, hd2, hu2⟩
      have HB2 := hide ((unhide HBR).trans (hu2.below (unhide HBR).size (fun k e => by have : k = b := e; omega)))
      have q2 := hide (next_any w2 b 2000 4000 40 1000 false h bo T hd2)
      clear hd2 hu2 q HBR p16 zb
      unfold NextO msgV at q2
      go_wp2_with fail
      refine (unhide q2).mono ?_; rintro e w3 ⟨ak2, fx, tx, rfl, hf3, ht3, hp3, hu3⟩
      obtain ⟨fo, fc, rfl⟩ := hf3.form
      obtain ⟨xo, xc, rfl⟩ := ht3.form
      have HB3 := hide ((unhide HB2).trans (hu3.below (unhide HB2).size (fun k e => by have : k = b := e; omega)))
      have HF3 := hide hf3
      have HT3 := hide ht3
      have HP3 := hide hp3
      clear hf3 ht3 hp3 hu3 HB2 q2
      obtain ⟨me, ta, re, st, mi, F⟩ := h
      simp only at HF3 ⊢
      have hz3 : w.heap.size ≤ w3.heap.size := (unhide HB3).size
      have HX0 := hide (Reg.Has.new w3 [.string ⟨#[]⟩, .string ⟨#[]⟩, .int .i64 0, .string ⟨#[]⟩, .int .i64 0, .slice none 0 0, .string ⟨#[]⟩, .slice none 0 0] 24)
      go_upto_region 7 with (refine wpList_storeM rfl _ _ rfl w3.heap.size rfl #[.string me, .string ta, .int .i64 st, .string re, .int .i64 mi, .slice fo F.length fc, .string bo, .slice xo T.length xc] rfl rfl _ rfl (unhide HX0) (by kernel_rfl) ?_; intro HZ; have HX := hide HZ; have HBY := hide (below_setCells w3.heap.size (Nat.le_refl _) (#[.string me, .string ta, .int .i64 st, .string re, .int .i64 mi, .slice fo F.length fc, .string bo, .slice xo T.length xc] : Array Value).toList 0 _ ((Below.refl w3.heap.size w3).alloc (Nat.le_refl _) (.cells #[.string ⟨#[]⟩, .string ⟨#[]⟩, .int .i64 0, .string ⟨#[]⟩, .int .i64 0, .slice none 0 0, .string ⟨#[]⟩, .slice none 0 0] 24))); generalize World.setCells _ w3.heap.size 0 _ = w4 at HZ HX HBY ⊢; clear HZ)
      have HF4 := hide ((unhide HF3).below (unhide HBY))
      have HT4 := hide ((unhide HT3).below (unhide HBY))
      have HP4 := hide ((unhide HP3).call (unhide HBY))
      have HB4 := hide ((unhide HB3).trans ((unhide HBY).mono (unhide HB3).size))
      clear HX0 HF3 HT3 HP3 HBY HB3
      generalize w3.heap.size = g3 at *
      obtain ⟨im, hi, hz, hi1, hi2⟩ := info_parts (P := Tryz.prog) (e := 24) (z := .agg #[.string ⟨#[]⟩, .string ⟨#[]⟩, .int .i64 0, .string ⟨#[]⟩, .int .i64 0, .slice none 0 0, .string ⟨#[]⟩, .slice none 0 0]) (size := 8) (bytes := 128) (by kernel_rfl)
      have HO := hide (Own.start w4 w4.heap.size (Nat.le_refl _) 24 8)
      go_wp2_with (first
        | (refine wpList_loadM rfl _ rfl g3 rfl _ rfl (unhide HX) ?_)
        | (at_builtin; refine wpList_push (w0 := w4) (wr := w4) rfl _ _ 57 rfl w4.heap.size 24 im _ 8 128 Tryz.underlying57 hi hz hi1 hi2 rfl (by decide) _ 0 [] rfl (unhide HO) [.string me, .string ta, .int .i64 st, .string re, .int .i64 mi, .slice fo F.length fc, .string bo, .slice xo T.length xc] rfl rfl (by intro u hu; simp at hu; rcases hu with rfl | rfl | rfl | rfl | rfl | rfl | rfl | rfl <;> rfl) _ rfl (by decide) (by decide) ?_; intro v' w5 h5; obtain ⟨ao5, cp5, rfl⟩ := (Rd.own h5.own).form; have H5 := hide h5; clear h5))
      have hb5 := (unhide H5).bel
      have hone : OneMsg w5 (.slice ao5 1 cp5) ⟨me, ta, re, st, mi, F⟩ bo T := by
        obtain ⟨ao, cap, e, _, _, _, hc⟩ := Rd.own (unhide H5).own
        cases e
        obtain ⟨g, off, rfl, hg, hcc⟩ := hc (by simp)
        exact ⟨g, off, _, _, _, rfl, hg, fun i u hu => hcc i u (by simpa [msgV] using hu), (unhide HF4).below hb5, (unhide HT4).below hb5⟩
      have hp5 := (unhide HP4).call hb5
      have hbf := (unhide HB4).trans (hb5.mono (unhide HB4).size)
      go_roundw
      case rel => exact ⟨hbf, .inr ⟨by first | rfl | rw [ext_none], hone, ak2, hp5⟩⟩
      case measure => simp [strLen8]; omega
    · have p16 := hp.cell 16 _ rfl
      have zb := hp.lt
      have q := hide (end_any wr b 2000 4000 40 1000 false ak hp)
      have HBR := hide hbr
      have HM := hide hm
      have hmt := mt_list
      clear hp hbr hm
      go_wp2_with fail
      refine (unhide q).mono ?_; rintro e w2 ⟨rfl, rfl⟩
      go_wp2_with fail
      go_ret2
      exact ⟨_, rfl, unhide HM, unhide HBR⟩
end Go.Proofs.YtbpopmbabckojaaGreatDoor.Sp
end

/- A request that emit wrote, plainly or in chunks, is fed to the reference's parser. -/
section
namespace Go.Proofs.YtbpopmbabckojaaGreatDoor.Sp
open Go.RowKit Sl

def reqG (me bo : ByteArray) (F : List Fld) : List Fld := if postM me = true ∨ bo.toList.isEmpty = false then F ++ [clF bo.size] else F
def teF : Fld := (teB, chB)
theorem teF_line : teN ++ crlfB = line1 teF := ba_eq (by decide +kernel)
theorem teF_chk : chkS teF = true := by
  unfold chkS
  simp only [Lib.toList_data]
  decide +kernel
theorem chB_split : splitB chB = [chB] := by
  unfold splitB
  rw [show splitS chB.data.toList = [chB.data.toList] by decide +kernel]
  rfl
theorem line_req {me ta : ByteArray} {mi : Int} (hm : me.toList.isEmpty = false) : lineS me ta ⟨#[]⟩ 0 mi = rlS me.data.toList ta.data.toList mi := by
  unfold lineS
  rw [if_neg (by rw [hm]; decide), if_pos ⟨rfl, mt_list⟩]
theorem req_ok' {me ta : ByteArray} {mi : Int} {F T : List Fld} (hm : me.toList.isEmpty = false) (he : emC me ta ⟨#[]⟩ 0 mi F T = 0) :
    rlOK me.data.toList ta.data.toList mi ∧ lineS me ta ⟨#[]⟩ 0 mi = (rlT me.data.toList ta.data.toList mi, 0) ∧ F.all chkS = true ∧ T.all chkS = true ∧ allB F clB = [] ∧ allB F teB = [] := by
  obtain ⟨h1, h2, h3, h4, h5⟩ := emC_ok' he
  rw [line_req hm] at h1
  have hok : rlOK me.data.toList ta.data.toList mi := by
    unfold rlS at h1
    by_cases hh : rlOK me.data.toList ta.data.toList mi
    · exact hh
    · rw [if_neg hh] at h1; exact absurd h1 (by decide)
  refine ⟨hok, ?_, h2, h3, h4, h5⟩
  rw [line_req hm]
  unfold rlS
  rw [if_pos hok]
theorem req_read {me ta bo s : ByteArray} {mi : Int} {F T : List Fld} (h : reqS me ta ⟨#[]⟩ bo 0 mi F T = (s, 0)) :
    me.toList.isEmpty = false ∧ emC me ta ⟨#[]⟩ 0 mi F T = 0 ∧ s.data.toList = headL (rlT me.data.toList ta.data.toList mi) (reqG me bo F) ++ bo.data.toList := by
  unfold reqS at h
  by_cases he : emC me ta ⟨#[]⟩ 0 mi F T = 0
  · rw [if_pos he] at h
    cases hm : me.toList.isEmpty
    · rw [hm, if_neg (by decide)] at h
      refine ⟨rfl, he, ?_⟩
      have hs := congrArg Prod.fst h
      simp only at hs
      rw [← hs]
      unfold headM reqG
      rw [(req_ok' hm he).2.1]
      simp only
      by_cases hn : postM me = true ∨ bo.toList.isEmpty = false
      · rw [if_pos hn, if_pos hn, head_more _ _ (clF bo.size) _ _ (clN_line bo)]
      · rw [if_neg hn, if_neg hn, head_no]
    · rw [hm, if_pos rfl] at h
      have := congrArg Prod.snd h
      exact absurd (show (4 : Int) = 0 from this) (by decide)
  · rw [if_neg he] at h
    have := congrArg Prod.snd h
    exact absurd this he
theorem chu_read {me ta bo t : ByteArray} {mi size : Int} {F T : List Fld} (hm : me.toList.isEmpty = false) (h : chuS me ta ⟨#[]⟩ bo 0 mi F T size = (t, 0)) :
    emC me ta ⟨#[]⟩ 0 mi F T = 0 ∧ mi ≠ 0 ∧ t.data.toList = headL (rlT me.data.toList ta.data.toList mi) (F ++ [teF]) ++ encL bo.data.toList size T := by
  unfold chuS at h
  by_cases he : emC me ta ⟨#[]⟩ 0 mi F T = 0
  · rw [if_pos he] at h
    by_cases hmi : mi = 0
    · rw [if_pos (.inl hmi)] at h
      have := congrArg Prod.snd h
      exact absurd (show (4 : Int) = 0 from this) (by decide)
    · rw [if_neg (by rintro (hh | ⟨hh, _⟩); exact hmi hh; rw [hm] at hh; cases hh)] at h
      refine ⟨he, hmi, ?_⟩
      have hs := congrArg Prod.fst h
      simp only at hs
      rw [← hs]
      unfold headM
      rw [(req_ok' hm he).2.1, head_more _ _ teF _ _ teF_line]
      rfl
  · rw [if_neg he] at h
    have := congrArg Prod.snd h
    exact absurd this he
theorem chu_no {me ta bo : ByteArray} {mi size : Int} {F T : List Fld} (hm : me.toList.isEmpty = false) (he : emC me ta ⟨#[]⟩ 0 mi F T = 0) (h : (chuS me ta ⟨#[]⟩ bo 0 mi F T size).2 ≠ 0) : mi = 0 := by
  unfold chuS at h
  rw [if_pos he] at h
  by_cases hmi : mi = 0
  · exact hmi
  · rw [if_neg (by rintro (hh | ⟨hh, _⟩); exact hmi hh; rw [hm] at hh; cases hh)] at h
    exact absurd rfl h
theorem reqS_no {me ta bo : ByteArray} {mi : Int} {F T : List Fld} (h : (reqS me ta ⟨#[]⟩ bo 0 mi F T).2 ≠ 0) : (reqS me ta ⟨#[]⟩ bo 0 mi F T).1 = ⟨#[]⟩ := by
  unfold reqS at h ⊢
  split
  · rename_i he
    rw [if_pos he] at h
    split
    · rfl
    · rename_i hm
      rw [if_neg hm] at h
      exact absurd rfl h
  · rfl
theorem first_req {me ta : ByteArray} {mi : Int} (h : rlOK me.data.toList ta.data.toList mi) : firstS false (ofL (rlT me.data.toList ta.data.toList mi)) = (⟨me, ta, ⟨#[]⟩, 0, mi, []⟩, 0) := by
  unfold firstS
  rw [if_neg (by decide), ofL_data, back_req h]
  rfl
theorem rlT_noEnd {me ta : List UInt8} {mi : Int} (h : rlOK me ta mi) : noEnd (rlT me ta mi) ∧ (rlT me ta mi).length = me.length + ta.length + 10 := by
  obtain ⟨h1, h2, h3, h4⟩ := h
  obtain ⟨j1, j2⟩ := itoa_noEnd01 h3 h4
  obtain ⟨l1, l2, l3⟩ := lit_noEnd
  unfold tokenS at h1
  unfold seenS at h2
  rw [Bool.and_eq_true] at h1 h2
  refine ⟨?_, ?_⟩
  · unfold rlT
    exact noEnd_app (noEnd_app (noEnd_app (noEnd_app (noEnd_app (noEnd_app (all_noEnd tch_noEnd h1.2) l3) (all_noEnd seen_noEnd h2.2)) l3) l1) l2) j1
  · unfold rlT
    simp only [List.length_append, j2]
    simp [httpV]
    omega
theorem rlT_ne {me ta : List UInt8} {mi : Int} : rlT me ta mi ≠ [] := by unfold rlT httpV; simp
def hB : Fld := (hostN, ⟨#[104]⟩)
theorem cl_host (v : ByteArray) : isN hostN (clB, v) = false := by show same clB.data.toList hostN.data.toList = false; decide +kernel
theorem te_host (v : ByteArray) : isN hostN (teB, v) = false := by show same teB.data.toList hostN.data.toList = false; decide +kernel
theorem host_ok {me ta : ByteArray} {mi : Int} {F G : List Fld} (h0 : allB F hostN = []) (hG : allB G hostN = []) : hostM ⟨me, ta, ⟨#[]⟩, 0, mi, (F ++ [hB]) ++ G⟩ = true := by
  unfold hostM
  simp only
  rw [allB_app, allB_app, h0, hG, allB_yes (show isN hostN hB = true by unfold isN same hB; simp)]
  show (true && ((⟨#[104]⟩ : ByteArray).toList.isEmpty || (portS [104]).2)) = true
  rw [show (portS [104]).2 = true by decide +kernel]
  simp

section
variable {me ta bo : ByteArray} {mi : Int} {F : List Fld}
theorem sumF_app (A B : List Fld) : sumF (A ++ B) = sumF A + sumF B := by unfold sumF; rw [List.map_append, List.sum_append]
theorem hB_sum : sumF [hB] = 5 := by decide +kernel
theorem teF_sum : sumF [teF] ≤ 30 := by decide +kernel
theorem clF_sum {n : Nat} (hn : n ≤ 400) : sumF [clF n] ≤ 30 := by
  have := clF_len ⟨n, by omega⟩
  unfold sumF
  simp only [List.map_cons, List.map_nil, List.sum_cons, List.sum_nil]
  simp only at this
  omega
theorem feed_req (s : ByteArray) (T : List Fld) (h : reqS me ta ⟨#[]⟩ bo 0 mi (F ++ [hB]) T = (s, 0)) (hh : allB F hostN = []) (z1 : me.size ≤ 40) (z2 : ta.size ≤ 200) (h2 : bo.size ≤ 400) (h3 : F.length ≤ 20) (h4 : sumF F ≤ 600) :
    s.size ≤ 100000 ∧ s.toList.isEmpty = false ∧ ∀ w b ak, PSt w b 2000 4000 40 1000 false ak ⟨#[]⟩ → Calls Tryz.prog 15 #[.pointer (some ⟨b, 0, none⟩), .string s] w fun e w' => e = .returned (.tuple #[.int .i64 (s.size : Int), .int .i64 0]) ∧
      DoneAt w' b 2000 4000 40 1000 false ⟨me, ta, ⟨#[]⟩, 0, mi, reqG me bo (F ++ [hB])⟩ bo [] ∧ But (fun k => k = b) w w' := by
  obtain ⟨hm, he, r1⟩ := req_read h
  obtain ⟨r2, _, r3, _, r4, r5⟩ := req_ok' hm he
  obtain ⟨x1, x2⟩ := rlT_noEnd r2
  have e1 : me.data.toList.length = me.size := by simp
  have e2 : ta.data.toList.length = ta.size := by simp
  have e3 : bo.data.toList.length = bo.size := by simp
  have hs5 : sumF (F ++ [hB]) ≤ 605 := by rw [sumF_app, hB_sum]; omega
  have hl5 : (F ++ [hB]).length ≤ 21 := by simp; omega
  have hgall : (reqG me bo (F ++ [hB])).all chkS = true := by
    unfold reqG
    split
    · rw [List.all_append, r3]
      simp only [List.all_cons, List.all_nil, Bool.and_true, Bool.true_and]
      exact clF_small ⟨bo.size, by omega⟩
    · exact r3
  have hg1 : (reqG me bo (F ++ [hB])).length ≤ 22 := by unfold reqG; split <;> simp <;> omega
  have hg2 : sumF (reqG me bo (F ++ [hB])) ≤ 640 := by
    unfold reqG
    split
    · rw [sumF_app]; have := clF_sum h2; omega
    · omega
  have hhost : hostM ⟨me, ta, ⟨#[]⟩, 0, mi, reqG me bo (F ++ [hB])⟩ = true := by
    unfold reqG
    split
    · exact host_ok hh (allB_no (cl_host _))
    · have := host_ok (me := me) (ta := ta) (mi := mi) (G := []) hh rfl
      rwa [List.append_nil] at this
  have hk : (∃ o, CLis (reqG me bo (F ++ [hB])) o ∧ ((o = none ∧ bo.size = 0) ∨ o = some bo.size)) ∧ TEis (reqG me bo (F ++ [hB])) false := by
    unfold reqG
    by_cases hn : postM me = true ∨ bo.toList.isEmpty = false
    · rw [if_pos hn]
      exact ⟨⟨some bo.size, CLis_of r4 h2, .inr rfl⟩, TEis_of r5⟩
    · rw [if_neg hn]
      refine ⟨⟨none, r4, .inl ⟨rfl, ?_⟩⟩, r5⟩
      rw [not_or] at hn
      have : bo.toList.isEmpty = true := by cases hb : bo.toList.isEmpty with
        | false => exact absurd hb hn.2
        | true => rfl
      rw [Lib.toList_data, List.isEmpty_iff] at this
      rw [← e3, this]; rfl
  have hgs : ∀ g ∈ reqG me bo (F ++ [hB]), g.1.size + g.2.size + 4 ≤ 2000 := fun g hg => by have := sumF_mem hg; omega
  have hfl := first_req r2
  have hxl : (rlT me.data.toList ta.data.toList mi).length + 2 ≤ 2000 := by omega
  have hHL : (headL (rlT me.data.toList ta.data.toList mi) (reqG me bo (F ++ [hB]))).length ≤ 4000 := by rw [headL_len, sumF_lines]; omega
  have hss : s.size = (headL (rlT me.data.toList ta.data.toList mi) (reqG me bo (F ++ [hB]))).length + bo.size := by rw [size_list r1, List.length_append, e3]
  have hsz : s.size ≤ 100000 := by omega
  have hfew : Few (reqG me bo (F ++ [hB])) := few_sum (by omega) (by omega)
  have hpart : ∀ k, k < (headL (rlT me.data.toList ta.data.toList mi) (reqG me bo (F ++ [hB]))).length → (hdS false 2000 4000 40 (s.extract 0 k).data.toList).2 = (0, 0) := fun k hk => by
    rw [ext_list, r1, List.take_append_of_le_length (by omega)]
    exact hdS_part _ _ _ k x1 rlT_ne hfl rfl hxl hgall hgs hHL (by omega) hk
  have hwhole : ∀ k, (headL (rlT me.data.toList ta.data.toList mi) (reqG me bo (F ++ [hB]))).length ≤ k → hdS false 2000 4000 40 (s.extract 0 k).data.toList = (⟨me, ta, ⟨#[]⟩, 0, mi, reqG me bo (F ++ [hB])⟩, (headL (rlT me.data.toList ta.data.toList mi) (reqG me bo (F ++ [hB]))).length, 0) := fun k hk => by
    rw [ext_list, r1, List.take_append, List.take_of_length_le (by omega)]
    exact hdS_whole _ _ _ _ x1 rlT_ne hfl rfl hxl hgall hgs hHL (by omega) (.inr hhost)
  have hel : ∀ k, k ≤ s.size → (s.extract 0 k).size = k := fun k hk => by rw [ByteArray.size_extract]; omega
  have hat : 0 < (headL (rlT me.data.toList ta.data.toList mi) (reqG me bo (F ++ [hB]))).length := by rw [headL_len]; omega
  obtain ⟨hl, hhl⟩ : ∃ hl, (headL (rlT me.data.toList ta.data.toList mi) (reqG me bo (F ++ [hB]))).length = hl := ⟨_, rfl⟩
  rw [hhl] at hpart hwhole hat hHL hss
  obtain ⟨⟨o, ho, hos⟩, hte⟩ := hk
  refine ⟨hsz, ?_, fun w b ak hp => ?_⟩
  · rw [Lib.toList_data]
    cases hn : s.data.toList with
    | nil => have h9 : s.size = 0 := size_list hn
             omega
    | cons a b => rfl
  refine feed_f s s.size (by omega) (Nat.le_refl _) hsz 2000 4000 40 1000 b ak _ _ _ w hp (fun k hk0 hkK w1 hp1 hu1 => ?_) (fun w1 hp1 hu1 => ?_)
  · rcases Nat.lt_or_ge k hl with hlt | hge
    · exact look_f_more (s.extract 0 k) 2000 4000 40 1000 b ak (by rw [hel k (by omega)]; omega) (by decide) (by decide) (by decide) w1 hp1 (hpart k hlt)
    · have hob : o = some bo.size := by rcases hos with ⟨_, h0⟩ | h0; omega; exact h0
      subst hob
      obtain ⟨n, hn⟩ : ∃ n, bo.size = n + 1 := ⟨bo.size - 1, by omega⟩
      have hfr : frS (some bo.size) false = (2, bo.size, true) := by rw [hn]; rfl
      exact look_f_part (s.extract 0 k) 2000 4000 40 1000 b ak (by rw [hel k (by omega)]; omega) (by decide) (by decide) (by decide) w1 hp1 _ _ _ _ _ _ hl (hwhole k hge) hat (by rw [hel k (by omega)]; exact hge) _ false hfew ho hte (by intro e; cases e) bo.size (by omega) (by decide) true hfr (by rw [hel k (by omega)]; omega)
  · rcases Nat.eq_zero_or_pos bo.size with h0 | hpos
    · have hbo : bo = ⟨#[]⟩ := by apply ba_eq; exact List.eq_nil_of_length_eq_zero (by rw [e3]; exact h0)
      obtain ⟨tt, hfr⟩ : ∃ tt, frS o false = (1, 0, tt) := by
        rcases hos with ⟨rfl, _⟩ | rfl
        · exact ⟨false, rfl⟩
        · exact ⟨true, by rw [h0]; rfl⟩
      have hq := look_f_none (s.extract 0 s.size) 2000 4000 40 1000 b ak (by rw [hel _ (Nat.le_refl _)]; omega) (by decide) (by decide) (by decide) w1 hp1 _ _ _ _ _ _ hl (hwhole _ (by omega)) hat (by rw [hel _ (Nat.le_refl _)]; omega) _ false hfew ho hte (by intro e; cases e) tt hfr
      have hbb : DoneAt = DoneAt := rfl
      refine hq.mono ?_
      rintro e w' ⟨g1, g2, g3⟩
      rw [← hbo] at g2
      refine ⟨g1, ?_, g3⟩
      clear hbb
      obtain ⟨a1, a2, a3, k1, k2, k3⟩ := g2
      exact ⟨a1, a2, a3, by rw [hbo] at k1 ⊢; exact k1, k2, k3⟩
    · have hob : o = some bo.size := by rcases hos with ⟨_, h0⟩ | h0; omega; exact h0
      subst hob
      obtain ⟨n, hn⟩ : ∃ n, bo.size = n + 1 := ⟨bo.size - 1, by omega⟩
      have hfr : frS (some bo.size) false = (2, bo.size, true) := by rw [hn]; rfl
      have hbx : (s.extract 0 s.size).extract hl (s.extract 0 s.size).size = bo := by
        apply ba_eq
        rw [Lib.extract_to_end, ext_list, r1, List.take_of_length_le (by rw [List.length_append, hhl, e3]; omega), ← hhl, List.drop_left]
      have hq := look_f_whole (s.extract 0 s.size) 2000 4000 40 1000 b ak (by rw [hel _ (Nat.le_refl _)]; omega) (by decide) (by decide) (by decide) w1 hp1 _ _ _ _ _ _ hl (hwhole _ (by omega)) hat (by rw [hel _ (Nat.le_refl _)]; omega) _ false hfew ho hte (by intro e; cases e) bo.size (by omega) (by decide) true hfr (by rw [hel _ (Nat.le_refl _)]; omega)
      rw [hbx] at hq
      exact hq
end
end Go.Proofs.YtbpopmbabckojaaGreatDoor.Sp
end

/- A request that emit wrote in chunks is fed to the reference's parser. -/
section
namespace Go.Proofs.YtbpopmbabckojaaGreatDoor.Sp
open Go.RowKit Sl

section
variable {me ta bo : ByteArray} {mi : Int} {F : List Fld}
theorem feed_chu (s : ByteArray) (size : Int) (T : List Fld) (hm : me.toList.isEmpty = false) (h : chuS me ta ⟨#[]⟩ bo 0 mi (F ++ [hB]) T size = (s, 0)) (hh : allB F hostN = []) (z1 : me.size ≤ 40) (z2 : ta.size ≤ 200) (h2 : bo.size ≤ 400) (h3 : F.length ≤ 20) (h4 : sumF F ≤ 600) (h5 : T.length ≤ 10) (h6 : sumF T ≤ 300) :
    s.size ≤ 100000 ∧ s.toList.isEmpty = false ∧ ∀ w b ak, PSt w b 2000 4000 40 1000 false ak ⟨#[]⟩ → Calls Tryz.prog 15 #[.pointer (some ⟨b, 0, none⟩), .string s] w fun e w' => e = .returned (.tuple #[.int .i64 (s.size : Int), .int .i64 0]) ∧
      DoneAt w' b 2000 4000 40 1000 false ⟨me, ta, ⟨#[]⟩, 0, mi, (F ++ [hB]) ++ [teF]⟩ bo T ∧ But (fun k => k = b) w w' := by
  obtain ⟨he, hmi, r1⟩ := chu_read hm h
  obtain ⟨r2, _, r3, r6, r4, r5⟩ := req_ok' hm he
  obtain ⟨x1, x2⟩ := rlT_noEnd r2
  have e1 : me.data.toList.length = me.size := by simp
  have e2 : ta.data.toList.length = ta.size := by simp
  have e3 : bo.data.toList.length = bo.size := by simp
  have hs5 : sumF (F ++ [hB]) ≤ 605 := by rw [sumF_app, hB_sum]; omega
  have hgall : ((F ++ [hB]) ++ [teF]).all chkS = true := by
    rw [List.all_append, r3]
    simp only [List.all_cons, List.all_nil, Bool.and_true, Bool.true_and]
    exact teF_chk
  have hg1 : ((F ++ [hB]) ++ [teF]).length ≤ 22 := by simp; omega
  have hg2 : sumF ((F ++ [hB]) ++ [teF]) ≤ 640 := by rw [sumF_app]; have := teF_sum; omega
  have hhost : hostM ⟨me, ta, ⟨#[]⟩, 0, mi, (F ++ [hB]) ++ [teF]⟩ = true := host_ok hh (allB_no (te_host _))
  have ho : CLis ((F ++ [hB]) ++ [teF]) none := by
    show allB ((F ++ [hB]) ++ [teF]) clB = []
    rw [allB_app, r4, List.nil_append]; exact allB_no (te_cl _)
  have hte : TEis ((F ++ [hB]) ++ [teF]) true := ⟨chB, by rw [allB_app, r5, List.nil_append]; exact allB_yes (te_te _), chB_split⟩
  have hgs : ∀ g ∈ (F ++ [hB]) ++ [teF], g.1.size + g.2.size + 4 ≤ 2000 := fun g hg => by have := sumF_mem hg; omega
  have hts : ∀ g ∈ T, g.1.size + g.2.size + 4 ≤ 2000 := fun g hg => by have := sumF_mem hg; omega
  have htl : (linesL T).length + 2 ≤ 4000 := by rw [sumF_lines]; omega
  have hfl := first_req r2
  have hxl : (rlT me.data.toList ta.data.toList mi).length + 2 ≤ 2000 := by omega
  have hHL : (headL (rlT me.data.toList ta.data.toList mi) ((F ++ [hB]) ++ [teF])).length ≤ 4000 := by rw [headL_len, sumF_lines]; omega
  have henl : (encL bo.data.toList size T).length ≤ 10000 := by
    unfold encL
    have h1 := chunksL_len (sizeU size bo.data.toList.length) _ bo.data.toList (Nat.le_refl _)
    simp only [List.length_append, List.length_cons, List.length_nil]
    omega
  have hen0 : 0 < (encL bo.data.toList size T).length := by unfold encL; simp only [List.length_append, List.length_cons, List.length_nil]; omega
  have hss : s.size = (headL (rlT me.data.toList ta.data.toList mi) ((F ++ [hB]) ++ [teF])).length + (encL bo.data.toList size T).length := by rw [size_list r1, List.length_append]
  have hsz : s.size ≤ 100000 := by omega
  have hfew : Few ((F ++ [hB]) ++ [teF]) := few_sum (by omega) (by omega)
  have hpart : ∀ k, k < (headL (rlT me.data.toList ta.data.toList mi) ((F ++ [hB]) ++ [teF])).length → (hdS false 2000 4000 40 (s.extract 0 k).data.toList).2 = (0, 0) := fun k hk => by
    rw [ext_list, r1, List.take_append_of_le_length (by omega)]
    exact hdS_part _ _ _ k x1 rlT_ne hfl rfl hxl hgall hgs hHL (by omega) hk
  have hwhole : ∀ k, (headL (rlT me.data.toList ta.data.toList mi) ((F ++ [hB]) ++ [teF])).length ≤ k → hdS false 2000 4000 40 (s.extract 0 k).data.toList = (⟨me, ta, ⟨#[]⟩, 0, mi, (F ++ [hB]) ++ [teF]⟩, (headL (rlT me.data.toList ta.data.toList mi) ((F ++ [hB]) ++ [teF])).length, 0) := fun k hk => by
    rw [ext_list, r1, List.take_append, List.take_of_length_le (by omega)]
    exact hdS_whole _ _ _ _ x1 rlT_ne hfl rfl hxl hgall hgs hHL (by omega) (.inr hhost)
  have hel : ∀ k, k ≤ s.size → (s.extract 0 k).size = k := fun k hk => by rw [ByteArray.size_extract]; omega
  have hat : 0 < (headL (rlT me.data.toList ta.data.toList mi) ((F ++ [hB]) ++ [teF])).length := by rw [headL_len]; omega
  obtain ⟨hl, hhl⟩ : ∃ hl, (headL (rlT me.data.toList ta.data.toList mi) ((F ++ [hB]) ++ [teF])).length = hl := ⟨_, rfl⟩
  rw [hhl] at hpart hwhole hat hHL hss
  have hrest : ∀ k, hl ≤ k → ((s.extract 0 k).extract hl (s.extract 0 k).size).data.toList = (encL bo.data.toList size T).take (k - hl) := fun k hk => by
    rw [Lib.extract_to_end, ext_list, r1, List.take_append, List.take_of_length_le (by omega), hhl, ← hhl, List.drop_left]
  have hpt : ∀ j, j < (encL bo.data.toList size T).length → (dkS 2000 4000 40 1000 ((encL bo.data.toList size T).take j)).1 = 0 ∧ (dkS 2000 4000 40 1000 ((encL bo.data.toList size T).take j)).2.1 = false := fun j hj =>
    dkS_part bo.data.toList size T j (by omega) (by omega) r6 hts htl (by omega) (by decide) hj
  have hall := dkS_enc (L := 2000) (H := 4000) (C := 40) (B := 1000) bo.data.toList size T (by omega) (by omega) r6 hts htl (by omega) (by decide)
  refine ⟨hsz, ?_, fun w b ak hp => ?_⟩
  · rw [Lib.toList_data]
    cases hn : s.data.toList with
    | nil => have h9 : s.size = 0 := size_list hn
             omega
    | cons a b => rfl
  refine feed_f s s.size (by omega) (Nat.le_refl _) hsz 2000 4000 40 1000 b ak _ _ _ w hp (fun k hk0 hkK w1 hp1 hu1 => ?_) (fun w1 hp1 hu1 => ?_)
  · rcases Nat.lt_or_ge k hl with hlt | hge
    · exact look_f_more (s.extract 0 k) 2000 4000 40 1000 b ak (by rw [hel k (by omega)]; omega) (by decide) (by decide) (by decide) w1 hp1 (hpart k hlt)
    · have hr := hrest k hge
      have hrs : ((s.extract 0 k).extract hl (s.extract 0 k).size).size = k - hl := by rw [size_list hr, List.length_take]; omega
      have hpj := hpt (k - hl) (by omega)
      refine look_f_cpart (s.extract 0 k) 2000 4000 40 1000 b ak (by rw [hel k (by omega)]; omega) (by decide) (by decide) (by decide) w1 hp1 _ _ _ _ _ _ hl (hwhole k hge) hat (by rw [hel k (by omega)]; exact hge) hfew ho hte hmi (by decide) (by decide) (fun j hj => ?_) (by rw [hr]; exact hpj.2) (by rw [hr]; exact hpj.1)
      rw [hrs] at hj
      rw [hr, List.take_take, Nat.min_eq_left (by omega)]
      exact hpt j (by omega)
  · have hr := hrest s.size (by omega)
    rw [show s.size - hl = (encL bo.data.toList size T).length by omega, List.take_length] at hr
    have hrs : ((s.extract 0 s.size).extract hl (s.extract 0 s.size).size).size = (encL bo.data.toList size T).length := size_list hr
    refine look_f_cwhole (s.extract 0 s.size) 2000 4000 40 1000 b ak (by rw [hel _ (Nat.le_refl _)]; omega) (by decide) (by decide) (by decide) w1 hp1 _ _ _ _ _ _ hl (hwhole _ (by omega)) hat (by rw [hel _ (Nat.le_refl _)]; omega) hfew ho hte hmi (by decide) (by decide) (fun j hj => ?_) bo T (by rw [hr]; exact hall)
    rw [hrs] at hj
    rw [hr]
    exact hpt j hj
end
end Go.Proofs.YtbpopmbabckojaaGreatDoor.Sp
end
