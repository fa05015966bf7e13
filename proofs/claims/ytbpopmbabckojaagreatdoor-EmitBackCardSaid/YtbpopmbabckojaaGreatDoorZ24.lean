/- Lemmas for the statement's proof, several texts in one: Q4, Q5. -/
import Derived.Test.YtbpopmbabckojaaGreatDoorZ16
import Derived.Test.YtbpopmbabckojaaGreatDoorZ18
import Derived.Test.YtbpopmbabckojaaGreatDoorZ23
import Derived.Test.YtbpopmbabckojaaGreatDoorZ09
set_option linter.unusedVariables false
set_option linter.unusedSimpArgs false
/- Plain: a response that emit wrote: its head, its fields, how long its content is. -/
section
namespace Go.Proofs.YtbpopmbabckojaaGreatDoor.Sp
open Go.RowKit Sl

def clF (n : Nat) : Fld := (clB, itoaB n)
theorem clN_line (bo : ByteArray) : clN bo ++ crlfB = line1 (clF bo.size) := rfl
theorem digs_small : ∀ n : Fin 401, splitS (Lib.itoa (n.val : Int)) = [Lib.itoa (n.val : Int)] ∧ numS (Lib.itoa (n.val : Int)) = ((n.val : Int), 0) ∧ (Lib.itoa (n.val : Int)).length ≤ 14 := by decide +kernel
theorem clF_small : ∀ n : Fin 401, chkS (clF n.val) = true := by
  unfold chkS
  simp only [Lib.toList_data]
  decide +kernel
/-- what Content-Length says, if it is there -/
def CLis (F : List Fld) : Option Nat → Prop
  | none => allB F clB = []
  | some n => ∃ v p : ByteArray, allB F clB = [v] ∧ splitB v = [p] ∧ p.size ≤ 14 ∧ numS p.data.toList = ((n : Int), 0)
def chB : ByteArray := ⟨#[99, 104, 117, 110, 107, 101, 100]⟩
/-- is the content in chunks? -/
def TEis (F : List Fld) : Bool → Prop
  | false => allB F teB = []
  | true => ∃ v : ByteArray, allB F teB = [v] ∧ splitB v = [chB]
theorem allB_app (F G : List Fld) (name : ByteArray) : allB (F ++ G) name = allB F name ++ allB G name := by unfold allB; rw [List.filter_append, List.map_append]
theorem cl_cl (v : ByteArray) : isN clB (clB, v) = true := by unfold isN same; simp
theorem te_te (v : ByteArray) : isN teB (teB, v) = true := by unfold isN same; simp
theorem cl_te (v : ByteArray) : isN teB (clB, v) = false := by show same clB.data.toList teB.data.toList = false; decide +kernel
theorem te_cl (v : ByteArray) : isN clB (teB, v) = false := by show same teB.data.toList clB.data.toList = false; decide +kernel
theorem allB_yes {name : ByteArray} {f : Fld} (h : isN name f = true) : allB [f] name = [f.2] := by unfold allB; rw [List.filter_cons_of_pos h]; rfl
theorem allB_no {name : ByteArray} {f : Fld} (h : isN name f = false) : allB [f] name = [] := by unfold allB; rw [List.filter_cons_of_neg (by rw [h]; decide)]; rfl
theorem itoaB_data (n : Int) : (itoaB n).data.toList = Lib.itoa n := rfl
theorem CLis_of {F : List Fld} {n : Nat} (h : allB F clB = []) (hn : n ≤ 400) : CLis (F ++ [clF n]) (some n) := by
  obtain ⟨d1, d2, d3⟩ := digs_small ⟨n, by omega⟩
  refine ⟨itoaB n, itoaB n, ?_, ?_, ?_, ?_⟩
  · rw [allB_app, h, List.nil_append]; exact allB_yes (cl_cl _)
  · unfold splitB; rw [itoaB_data, d1]; rfl
  · rw [size_list (itoaB_data n)]; exact d3
  · rw [itoaB_data]; exact d2
theorem TEis_of {F : List Fld} {n : Nat} (h : allB F teB = []) : TEis (F ++ [clF n]) false := by
  show allB (F ++ [clF n]) teB = []
  rw [allB_app, h, List.nil_append]; exact allB_no (cl_te _)

theorem allB_none {F : List Fld} {name : ByteArray} (h : allB F name = []) : ∀ f ∈ F, isN name f = false := by
  intro f hf
  cases hh : isN name f
  · rfl
  · have : f ∈ F.filter (isN name) := List.mem_filter.2 ⟨hf, hh⟩
    unfold allB at h
    rw [List.map_eq_nil_iff] at h
    rw [h] at this
    cases this
theorem delF_none {F : List Fld} {name : ByteArray} (h : allB F name = []) : delF F name = F := by
  unfold delF
  rw [List.filter_eq_self]
  intro f hf
  simp [allB_none h f hf]
theorem delF_app (F G : List Fld) (name : ByteArray) : delF (F ++ G) name = delF F name ++ delF G name := by unfold delF; rw [List.filter_append]
theorem delF_yes {name : ByteArray} {f : Fld} (h : isN name f = true) : delF [f] name = [] := by unfold delF; rw [List.filter_cons_of_neg (by simp [h])]; rfl
theorem delF_no {name : ByteArray} {f : Fld} (h : isN name f = false) : delF [f] name = [f] := by unfold delF; rw [List.filter_cons_of_pos (by simp [h])]; rfl
theorem del_cl {F : List Fld} {n : Nat} (h1 : allB F clB = []) (h2 : allB F teB = []) : delF (delF (F ++ [clF n]) clB) teB = F := by
  rw [delF_app, delF_none h1, delF_yes (f := clF n) (cl_cl _), List.append_nil, delF_none h2]
theorem del_nil {F : List Fld} (h1 : allB F clB = []) (h2 : allB F teB = []) : delF (delF F clB) teB = F := by rw [delF_none h1, delF_none h2]

/-- what emit.Check has told -/
theorem emC_ok' {me ta re : ByteArray} {st mi : Int} {F T : List Fld} (h : emC me ta re st mi F T = 0) : (lineS me ta re st mi).2 = 0 ∧ F.all chkS = true ∧ T.all chkS = true ∧ allB F clB = [] ∧ allB F teB = [] := by
  have h1 := emC_line h
  refine ⟨h1.1, h1.2.1, h1.2.2, ?_⟩
  unfold emC at h
  rw [if_pos h1] at h
  by_cases hh : (allB F clB).isEmpty = true ∧ (allB F teB).isEmpty = true
  · exact ⟨List.isEmpty_iff.1 hh.1, List.isEmpty_iff.1 hh.2⟩
  · rw [if_neg hh] at h; exact absurd h (by decide)
theorem mt_list : (⟨#[]⟩ : ByteArray).toList.isEmpty = true := by rw [Lib.toList_data]; rfl
/-- the fields of a response that was written, with its content's length -/
def resG (bo : ByteArray) (st : Int) (m : ByteArray) (F : List Fld) : List Fld := if noneI st = true ∨ (headB m = true ∧ bo.toList.isEmpty = true) then F else F ++ [clF bo.size]
def resBo (bo : ByteArray) (st : Int) (m : ByteArray) : ByteArray := if noneI st = true ∨ headB m = true then ⟨#[]⟩ else bo

theorem head_no (x : List UInt8) (F : List Fld) (body : ByteArray) : (putS (ofL x) (ofL (linesL F)) ⟨#[]⟩ body).data.toList = headL x F ++ body.data.toList := by
  unfold putS headL
  rw [if_pos mt_list]
  simp only [app_data, ofL_data]
  show ((((x ++ [13, 10]) ++ linesL F) ++ []) ++ [13, 10]) ++ _ = _
  simp
theorem head_more (x : List UInt8) (F : List Fld) (f : Fld) (more body : ByteArray) (hm : more ++ crlfB = line1 f) : (putS (ofL x) (ofL (linesL F)) more body).data.toList = headL x (F ++ [f]) ++ body.data.toList := by
  have hne : more.toList.isEmpty = false := by
    rw [Lib.toList_data]
    cases hh : more.data.toList with
    | nil =>
      have h1 := congrArg (fun b : ByteArray => b.data.toList.length) hm
      simp only [app_data, hh, line1_data] at h1
      simp [crlfB] at h1
      omega
    | cons a t => rfl
  have hl : linesL (F ++ [f]) = linesL F ++ (line1 f).data.toList := by unfold linesL; rw [List.flatMap_append]; simp
  unfold putS headL
  rw [if_neg (by rw [hne]; decide), hm, hl]
  simp only [app_data, ofL_data]
  show ((((x ++ [13, 10]) ++ linesL F) ++ _) ++ [13, 10]) ++ _ = _
  simp

theorem res_read {re bo m s : ByteArray} {st mi : Int} {F T : List Fld} (h : resS ⟨#[]⟩ ⟨#[]⟩ re bo st mi F T m = (s, 0)) :
    s.data.toList = headL (slT mi st re.data.toList) (resG bo st m F) ++ (resBo bo st m).data.toList ∧ slOK mi st re.data.toList ∧ F.all chkS = true ∧ allB F clB = [] ∧ allB F teB = [] := by
  unfold resS at h
  by_cases he : emC ⟨#[]⟩ ⟨#[]⟩ re st mi F T = 0
  · rw [if_pos he, if_pos mt_list] at h
    obtain ⟨h1, h2, h3, h4, h5⟩ := emC_ok' he
    have hl : lineS ⟨#[]⟩ ⟨#[]⟩ re st mi = slS mi st re.data.toList := by unfold lineS; rw [if_pos mt_list, if_pos mt_list]
    rw [hl] at h1
    have hok : slOK mi st re.data.toList := by
      unfold slS at h1
      by_cases hh : slOK mi st re.data.toList
      · exact hh
      · rw [if_neg hh] at h1; exact absurd h1 (by decide)
    refine ⟨?_, hok, h2, h4, h5⟩
    have hs := congrArg Prod.fst h
    simp only at hs
    rw [← hs]
    unfold headM resG resBo
    rw [hl]
    unfold slS
    rw [if_pos hok]
    simp only
    by_cases hn : noneI st = true ∨ (headB m = true ∧ bo.toList.isEmpty = true)
    · rw [if_pos hn, if_pos hn, head_no]
    · rw [if_neg hn, if_neg hn, head_more _ _ (clF bo.size) _ _ (clN_line bo)]
  · rw [if_neg he] at h
    have := congrArg Prod.snd h
    exact absurd this he
theorem first_res {re : ByteArray} {st mi : Int} (h : slOK mi st re.data.toList) : firstS true (ofL (slT mi st re.data.toList)) = (⟨⟨#[]⟩, ⟨#[]⟩, re, st, mi, []⟩, 0) := by
  unfold firstS
  rw [if_pos rfl, ofL_data, back_stat h, if_pos rfl, ofL_of]
theorem itoa_noEnd01 {n : Int} (h0 : 0 ≤ n) (h1 : n ≤ 1) : noEnd (Lib.itoa n) ∧ (Lib.itoa n).length = 1 := by
  have : n = 0 ∨ n = 1 := by omega
  rcases this with rfl | rfl <;> exact ⟨by unfold noEnd; decide +kernel, by decide +kernel⟩
theorem digB_noEnd : ∀ c : UInt8, digB c = true → c ≠ 10 ∧ c ≠ 13 := by
  intro c h
  have := byte_all (fun c => !digB c || (c != 10 && c != 13)) (by decide +kernel) c
  rw [h] at this
  simpa using this
theorem lit_noEnd : noEnd httpV ∧ noEnd [49, 46] ∧ noEnd [32] := ⟨by unfold noEnd; decide +kernel, by unfold noEnd; decide +kernel, by unfold noEnd; decide +kernel⟩
theorem slT_noEnd {re : List UInt8} {st mi : Int} (h : slOK mi st re) : noEnd (slT mi st re) ∧ (slT mi st re).length = re.length + 13 := by
  obtain ⟨h1, h2, h3, h4, h5⟩ := h
  obtain ⟨i1, i2, i3⟩ := itoa_st h3 h4
  obtain ⟨j1, j2⟩ := itoa_noEnd01 h1 h2
  obtain ⟨l1, l2, l3⟩ := lit_noEnd
  refine ⟨?_, ?_⟩
  · unfold slT
    exact noEnd_app (noEnd_app (noEnd_app (noEnd_app (noEnd_app (noEnd_app l1 l2) j1) l3) (all_noEnd digB_noEnd i2)) l3) (all_noEnd chr_noEnd h5)
  · unfold slT
    simp only [List.length_append, j2, i1]
    simp [httpV]
    omega
theorem slT_ne {re : List UInt8} {st mi : Int} : slT mi st re ≠ [] := by unfold slT httpV; simp
/-- content behind a status and a method that have none -/
theorem bare_none {m : ByteArray} {st : Int} (h0 : 100 ≤ st) (h : noneI st = true ∨ headB m = true) : bareB m st = true := by
  unfold noneI headB at h
  unfold bareB
  simp only [Bool.or_eq_true, Bool.and_eq_true, decide_eq_true_eq, beq_iff_eq] at h ⊢
  rcases h with ((h | h) | h) | h
  · exact .inl (.inl (.inl (.inr ⟨h0, by omega⟩)))
  · exact .inl (.inl (.inr h))
  · exact .inl (.inr h)
  · exact .inl (.inl (.inl (.inl h)))
def conB (m : ByteArray) (st : Int) : Bool := m.toList == [67, 79, 78, 78, 69, 67, 84] && (decide (200 ≤ st) && decide (st ≤ 299))
theorem bare_some {m : ByteArray} {st : Int} (h : bareB m st = true) (hc : conB m st = false) : noneI st = true ∨ headB m = true := by
  unfold bareB at h
  unfold conB at hc
  unfold noneI headB
  rw [Bool.and_assoc, hc, Bool.or_false] at h
  simp only [Bool.or_eq_true, Bool.and_eq_true, decide_eq_true_eq, beq_iff_eq] at h ⊢
  rcases h with ((h | h) | h) | h
  · exact .inr h
  · exact .inl (.inl (.inl (by omega)))
  · exact .inl (.inl (.inr h))
  · exact .inl (.inr h)
theorem sumF_lines : ∀ F : List Fld, (linesL F).length = sumF F + 4 * F.length
  | [] => rfl
  | f :: F => by
    have := sumF_lines F
    have hz : (lineZ f).data.toList.length = f.1.size + f.2.size + 2 := by rw [← lineZ_size f]; simp
    have hs : sumF (f :: F) = f.1.size + f.2.size + sumF F := by unfold sumF; simp
    rw [linesL_cons, hs]
    simp only [List.length_append, hz, List.length_cons, List.length_nil]
    omega
end Go.Proofs.YtbpopmbabckojaaGreatDoor.Sp
end

/- The reference's framing: Length, Coded, frame, Request, Response, of lists in which Content-Length is one number, or none. -/
section
namespace Go.Proofs.YtbpopmbabckojaaGreatDoor.Sp
open Go.RowKit Sl

/-- the kind, the length, whether it is told -/
def frS (o : Option Nat) (c : Bool) : Int × Nat × Bool :=
  match c, o with
  | true, _ => (3, 0, true)
  | false, none => (1, 0, false)
  | false, some 0 => (1, 0, true)
  | false, some (n + 1) => (2, n + 1, true)
theorem CLis.len {F : List Fld} {o : Option Nat} (h : CLis F o) (n : Nat) (ho : o = some n) : n ≤ 99999999999999 := by
  subst ho
  obtain ⟨v, p, _, _, h3, h4⟩ := h
  unfold numS at h4
  by_cases hd : digsS p.data.toList = true
  · rw [if_pos hd] at h4
    by_cases hv : valN p.data.toList ≤ 9007199254740991
    · rw [if_pos hv] at h4
      have e : ((valN p.data.toList : Nat) : Int) = n := congrArg Prod.fst h4
      have hl : p.data.toList.length = p.size := by simp
      obtain ⟨_, _, _, _, hall⟩ := digsS_cons hd
      have := valF_lt p.data.toList 0 hall
      have h3' : 10 ^ p.data.toList.length ≤ 10 ^ 14 := Nat.pow_le_pow_right (by decide) (by omega)
      unfold valN at e
      omega
    · rw [if_neg hv] at h4; exact absurd (show (3 : Int) = 0 from congrArg Prod.snd h4) (by decide)
  · rw [if_neg hd] at h4; exact absurd (show (4 : Int) = 0 from congrArg Prod.snd h4) (by decide)

set_option maxRecDepth 100000 in
set_option maxHeartbeats 2000000 in
theorem length_any (v : Value) (F : List Fld) (o : Option Nat) (hF : Few F) (ho : CLis F o) (w : World) (hv : Rd w v F.length 2 (fldV F)) :
    Calls Tryz.prog 128 #[v] w fun e w' => e = .returned (.tuple #[.int .i64 ((o.getD 0 : Nat) : Int), .bool o.isSome, .int .i64 0]) ∧ Below w.heap.size w w' := by
  obtain ⟨ao, cap, rfl⟩ := hv.form
  have hc := hide (rall_any _ F clB hF (by decide) w hv)
  have hl := hide (fun w1 (hb : Below w.heap.size w w1) => rlist_any _ F clB hF (by decide) w1 (hv.below hb))
  have hn14 := ho.len
  clear hv hF
  unfold clB at hc hl
  cases o with
  | none =>
    have h0 : allB F ⟨#[67, 111, 110, 116, 101, 110, 116, 45, 76, 101, 110, 103, 116, 104]⟩ = [] := ho
    rw [h0] at hc
    clear ho h0 hl hn14
    go_enter Tryz.func128, Tryz.ntmps128
    go_wp2_with fail
    refine (unhide hc).mono ?_; rintro e w1 ⟨v1, rfl, ho1, hb1⟩; obtain ⟨bo, cp, rfl⟩ := (Rd.own ho1).form
    have B1 := hide hb1
    clear ho1 hb1
    go_wp2_with fail
    go_ret3
    exact ⟨rfl, unhide B1⟩
  | some n =>
    obtain ⟨vv, p, h1, h2, h3, h4⟩ := ho
    unfold clB at h1
    have hL : listB F ⟨#[67, 111, 110, 116, 101, 110, 116, 45, 76, 101, 110, 103, 116, 104]⟩ = [p] := by unfold listB flatB; rw [h1]; simp [h2]
    have hn := hn14 n rfl
    have hq := hide (fun w => rnumber_any p h3 w)
    rw [h4] at hq
    rw [h1] at hc
    rw [hL] at hl
    clear h1 h2 h3 h4 hL hn14
    go_enter Tryz.func128, Tryz.ntmps128
    go_wp2_with fail
    refine (unhide hc).mono ?_; rintro e w1 ⟨v1, rfl, ho1, hb1⟩; obtain ⟨bo, cp, rfl⟩ := (Rd.own ho1).form
    have B1 := hide hb1
    clear ho1 hb1
    go_wp2_with fail
    refine (unhide hl _ (unhide B1)).mono ?_; rintro e w2 ⟨v2, rfl, ho2, hb2⟩; obtain ⟨co, cq, rfl⟩ := (Rd.own ho2).form
    have B2 := hide ((unhide B1).trans (hb2.mono (unhide B1).size))
    have R2 := hide (Rd.own ho2)
    clear ho2 hb2 B1
    go_wp2_with fail
    go_loop [6, 7] (fun fst i => (i = .int .i64 0 ∧ fst = .int .i64 0) ∨ (i = .int .i64 1 ∧ fst = .int .i64 (n : Int))) (fun _ i => 1 - (intOf i).toNat)
    case atStart => exact .inl ⟨rfl, rfl⟩
    case round =>
      rcases hrel with ⟨rfl, rfl⟩ | ⟨rfl, rfl⟩
      · obtain ⟨b, off, rfl, hb, c1⟩ := str_cell (unhide R2) 0 (by simp)
        simp only [List.getElem_cons_zero, Nat.add_zero] at c1
        go_wp2_with fail
        refine (unhide hq _).mono ?_; rintro e w3 ⟨rfl, rfl⟩
        go_wp2_with fail
        go_round
        case rel => exact .inr ⟨rfl, rfl⟩
        case measure => simp [intOf]
      · go_wp2_with fail
        go_ret3
        exact ⟨rfl, unhide B2⟩

set_option maxRecDepth 100000 in
set_option maxHeartbeats 2000000 in
theorem coded_any (v : Value) (F : List Fld) (c : Bool) (hF : Few F) (hc0 : TEis F c) (w : World) (hv : Rd w v F.length 2 (fldV F)) :
    Calls Tryz.prog 129 #[v] w fun e w' => e = .returned (.tuple #[.bool c, .int .i64 0]) ∧ Below w.heap.size w w' := by
  obtain ⟨ao, cap, rfl⟩ := hv.form
  have hc := hide (rall_any _ F teB hF (by decide) w hv)
  have hl := hide (fun w1 (hb : Below w.heap.size w w1) => rlist_any _ F teB hF (by decide) w1 (hv.below hb))
  clear hv hF
  unfold teB at hc hl
  cases c with
  | false =>
    have h0 : allB F ⟨#[84, 114, 97, 110, 115, 102, 101, 114, 45, 69, 110, 99, 111, 100, 105, 110, 103]⟩ = [] := hc0
    rw [h0] at hc
    clear hc0 h0 hl
    go_enter Tryz.func129, Tryz.ntmps129
    go_wp2_with fail
    refine (unhide hc).mono ?_; rintro e w1 ⟨v1, rfl, ho1, hb1⟩; obtain ⟨bo, cp, rfl⟩ := (Rd.own ho1).form
    have B1 := hide hb1
    clear ho1 hb1
    go_wp2_with fail
    go_ret2
    exact ⟨rfl, unhide B1⟩
  | true =>
    obtain ⟨vv, h1, h2⟩ := hc0
    unfold teB at h1
    have hL : listB F ⟨#[84, 114, 97, 110, 115, 102, 101, 114, 45, 69, 110, 99, 111, 100, 105, 110, 103]⟩ = [chB] := by unfold listB flatB; rw [h1]; simp [h2]
    have hs := hide (fun w => rsame_any chB chB (by decide) (by decide) w)
    have e1 : same chB.data.toList chB.data.toList = true := by unfold same; simp
    rw [e1] at hs
    unfold chB at hs hL
    rw [h1] at hc
    rw [hL] at hl
    clear h1 h2 hL e1
    go_enter Tryz.func129, Tryz.ntmps129
    go_wp2_with fail
    refine (unhide hc).mono ?_; rintro e w1 ⟨v1, rfl, ho1, hb1⟩; obtain ⟨bo, cp, rfl⟩ := (Rd.own ho1).form
    have B1 := hide hb1
    clear ho1 hb1
    go_wp2_with fail
    refine (unhide hl _ (unhide B1)).mono ?_; rintro e w2 ⟨v2, rfl, ho2, hb2⟩; obtain ⟨co, cq, rfl⟩ := (Rd.own ho2).form
    have B2 := hide ((unhide B1).trans (hb2.mono (unhide B1).size))
    have R2 := hide (Rd.own ho2)
    clear ho2 hb2 B1
    obtain ⟨b, off, rfl, hb, c1⟩ := str_cell (unhide R2) 0 (by simp)
    simp only [List.getElem_cons_zero, Nat.add_zero] at c1
    go_wp2_with fail
    refine (unhide hs _).mono ?_; rintro e w3 ⟨rfl, hb3⟩
    have B3 := hide ((unhide B2).trans (hb3.mono (unhide B2).size))
    clear hb3
    go_wp2_with fail
    go_ret2
    exact ⟨rfl, unhide B3⟩
end Go.Proofs.YtbpopmbabckojaaGreatDoor.Sp
end
