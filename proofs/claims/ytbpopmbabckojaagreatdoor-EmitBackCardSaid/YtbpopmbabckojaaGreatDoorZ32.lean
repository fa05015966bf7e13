/- Lemmas for the statement's proof, several texts in one: M8, M10. -/
import Derived.Test.YtbpopmbabckojaaGreatDoorZ22
import Derived.Test.YtbpopmbabckojaaGreatDoorZ31
import Derived.Test.YtbpopmbabckojaaGreatDoorZ06
set_option linter.unusedVariables false
set_option linter.unusedSimpArgs false
/- Content in chunks: chunk.Encode, the reference's Encode. -/
section
namespace Go.Proofs.YtbpopmbabckojaaGreatDoor.Sp
open Go.RowKit Sl

def EncO (bo : ByteArray) (size : Int) (T : List Fld) (e : Ending) : Prop := e = .returned (.tuple #[.string (if T.all chkS = true then ofL (encL bo.data.toList size T) else ⟨#[]⟩), .int .i64 (errI (T.all chkS))])
theorem chunksL_nil (k : Nat) : chunksL k [] = [] := by rw [chunksL, dif_pos (.inl rfl)]
theorem chunksL_more (k : Nat) (s : List UInt8) (hs : s ≠ []) (hk : k ≠ 0) : chunksL k s = chunkL (s.take k) ++ chunksL k (s.drop k) := by rw [chunksL, dif_neg (by simp [hs, hk])]
theorem sizeU_pos (size : Int) (n : Nat) : sizeU size n ≠ 0 := by
  unfold sizeU
  split
  · split <;> omega
  · omega

set_option maxRecDepth 100000 in
set_option maxHeartbeats 2000000 in
theorem encode_any (bo : ByteArray) (size : Int) (tr : Value) (T : List Fld) (hb : bo.size < 4096) (hs0 : -9223372036854775808 ≤ size) (hs1 : size ≤ 9223372036854775807) (hTr : Few T) (w : World) (hv : Rd w tr T.length 2 (fldV T)) (hR : Bru w) :
    Calls Tryz.prog 51 #[.string bo, .int .i64 size, tr] w fun e w' => EncO bo size T e ∧ Below w.heap.size w w' := by
  have q1 := hide (bytes_any _ T (by have := hTr.1; omega) (fun f hf => by have := hTr.2 f hf; omega) w hv)
  have hT4 := linesL_len 4004 T (fun f hf => by have := hTr.2 f hf; omega)
  have hT5 : (linesL T).length ≤ 400400 := by have := hTr.1; omega
  have HR := hide hR
  obtain ⟨ao, c1, rfl⟩ := hv.form
  clear hv hR hT4 hTr
  unfold EncO
  unfold BytesO at q1
  obtain ⟨tb, htb⟩ : ∃ b, T.all chkS = b := ⟨_, rfl⟩
  rw [htb] at q1 ⊢
  cases tb
  · simp only [Bool.false_eq_true, if_false, errI] at q1 ⊢
    go_enter Tryz.func51, Tryz.ntmps51
    go_wp2_with fail
    refine (unhide q1).mono ?_; rintro e w1 ⟨rfl, hb1⟩
    have HB1 := hide hb1
    clear hb1
    go_wp2_with fail
    go_ret2
    exact ⟨rfl, unhide HB1⟩
  simp only [if_true, errI] at q1 ⊢
  unfold encL
  generalize hK : sizeU size bo.data.toList.length = K
  have hK0 : K ≠ 0 := by rw [← hK]; exact sizeU_pos _ _
  have hKs : (decide (size < 1) = true ∧ max 1 (bo.size : Int) = K) ∨ (decide (size < 1) = false ∧ size = K) := by
    have hl : bo.data.toList.length = bo.size := by simp
    rw [hl] at hK
    unfold sizeU at hK
    by_cases h : size < 1
    · rw [if_pos h] at hK
      refine .inl ⟨decide_eq_true h, ?_⟩
      split at hK <;> omega
    · rw [if_neg h] at hK
      exact .inr ⟨decide_eq_false h, by omega⟩
  generalize hy : linesL T = y at *
  clear hK hy htb
  obtain ⟨t, ht⟩ : ∃ t : ByteArray, t = ofL y := ⟨_, rfl⟩
  have hty : t.data.toList = y := by rw [ht]; rfl
  have hts : t.size = y.length := by rw [ht]; simp [ofL, ByteArray.size]
  rw [← ht] at q1
  have HTY := Lib.hid hty
  clear ht hty
  have HBo := hide hb
  clear hb
  rcases hKs with ⟨hs2, hmx⟩ | ⟨hs2, rfl⟩
  all_goals
    go_enter Tryz.func51, Tryz.ntmps51
    go_wp2_with fail
    refine (unhide q1).mono ?_; rintro e w1 ⟨rfl, hb1⟩
    have HB1 := hide hb1
    clear hb1 q1
    go_wp2_with fail
    have HI := hide (Lib.fresh_isBuilder 68 5 w1)
    have HB2 := hide ((unhide HB1).alloc (unhide HB1).size (.cells #[.pointer none, .slice none 0 0] 68))
    have hB1 := (unhide HB1).size
    have hlt : w1.heap.size ≤ (w1.alloc (.cells #[.pointer none, .slice none 0 0] 68)).heap.size := by simp
    generalize w1.alloc (.cells #[.pointer none, .slice none 0 0] 68) = w2 at *
    generalize w1.heap.size = b at *
    clear HB1
    try clear hs2 hmx
    go_loopw [0] (fun i wr => ∃ (s : ByteArray) (l : List UInt8), i = .string s ∧ s.size ≤ bo.size ∧ l ++ chunksL K s.data.toList = chunksL K bo.data.toList ∧ l.length ≤ 10 * (bo.size - s.size) ∧ Lib.IsBuilder 68 5 b b (Lib.byteCells l) wr ∧ Below w.heap.size w wr ∧ b ≤ wr.heap.size) (fun i _ => strLen i)
    case atStart => exact ⟨bo, [], rfl, Nat.le_refl _, rfl, Nat.zero_le _, unhide HI, unhide HB2, hlt⟩
    case round =>
      clear HI HB2 hlt
      obtain ⟨s, l, rfl, hsb, heq, hl, hi, hbel, hbb⟩ := hrel
      have HQ := Lib.hid heq
      have HI := hide hi
      have HBe := hide hbel
      have hbo4 := unhide HBo
      clear heq hi hbel
      cases em : s.toList.isEmpty
      · have hne : s.data.toList ≠ [] := by
          intro e
          rw [Lib.toList_data, e] at em
          cases em
        have hs1' : 0 < s.size := by
          rcases Nat.eq_zero_or_pos s.size with h0 | h0
          · exact absurd (List.eq_nil_of_length_eq_zero (by simpa using h0)) hne
          · exact h0
        obtain ⟨m, hm⟩ : ∃ m, min K s.size = m := ⟨_, rfl⟩
        have hm1 : m ≤ s.size := by omega
        have hm0 : 0 < m := by omega
        have hmi : min (K : Int) (s.size : Int) = (m : Int) := by omega
        have hps : (s.extract 0 m).size = m := by rw [ByteArray.size_extract]; omega
        have hp : (s.extract 0 m).data.toList = s.data.toList.take m := by rw [Lib.extract_data]; simp
        have hr : (s.extract m s.size).data.toList = s.data.toList.drop m := Lib.extract_to_end s m
        have hrs : (s.extract m s.size).size = s.size - m := by rw [ByteArray.size_extract]; omega
        have hck : chunksL K s.data.toList = hxL m ++ [13, 10] ++ s.data.toList.take m ++ [13, 10] ++ chunksL K (s.data.toList.drop m) := by
          have e1 : s.data.toList.take K = s.data.toList.take m := by
            rw [← hm]
            rcases Nat.le_total K s.size with h | h
            · rw [Nat.min_eq_left h]
            · rw [Nat.min_eq_right h, List.take_of_length_le (by simpa using h), List.take_of_length_le (by simp)]
          have e2 : s.data.toList.drop K = s.data.toList.drop m := by
            rw [← hm]
            rcases Nat.le_total K s.size with h | h
            · rw [Nat.min_eq_left h]
            · rw [Nat.min_eq_right h, List.drop_of_length_le (by simpa using h), List.drop_of_length_le (by simp)]
          rw [chunksL_more K _ hne hK0, e1, e2]
          unfold chunkL
          rw [List.length_take, Nat.min_eq_left (by simpa using hm1)]
        rw [← hp, ← hr] at hck
        have hxs := hxB_size m
        have hx := fun w hb => fmt16_any m (by omega) w hb
        have HX := hide hx
        have HRR := hide ((unhide HR).below (unhide HBe))
        have HK := Lib.hid hck
        have hem : (⟨#[13, 10]⟩ : ByteArray).size = 2 := rfl
        obtain ⟨x, hxx⟩ : ∃ x, hxB m = x := ⟨_, rfl⟩
        rw [hxx] at hxs HX
        have HXX := Lib.hid hxx
        clear hx hck hp hr hxx hm hne
        go_wp2_with fail
        generalize s.extract 0 m = p at *
        generalize s.extract m s.size = r at *
        refine (unhide HX _ (unhide HRR)).mono ?_; rintro e w3 ⟨rfl, hb3⟩
        have HI3 := hide (isB_call (unhide HI) hb3)
        have HB3 := hide ((unhide HBe).trans (hb3.mono (unhide HBe).size))
        have hbb3 : b ≤ w3.heap.size := Nat.le_trans hbb hb3.size
        clear hb3
        go_wp2_with fail
        have hz3 : l.length + (x ++ (⟨#[13, 10]⟩ : ByteArray) ++ p ++ (⟨#[13, 10]⟩ : ByteArray)).size ≤ 140737488355328 := by simp; omega
        have hW := write_any b b l (x ++ (⟨#[13, 10]⟩ : ByteArray) ++ p ++ (⟨#[13, 10]⟩ : ByteArray)) _ (unhide HI3) hz3 hbb3
        refine hW.mono ?_
        clear hW
        rintro e w4 ⟨rfl, hi4, hb4⟩
        have HI4 := hide hi4
        have HB4 := hide ((unhide HB3).trans (hb4.mono hB1))
        have hbb4 : b ≤ w4.heap.size := Nat.le_trans hbb3 hb4.size
        clear hi4 hb4
        go_wp2_with fail
        go_roundw
        case rel =>
          refine ⟨r, l ++ (x ++ (⟨#[13, 10]⟩ : ByteArray) ++ p ++ (⟨#[13, 10]⟩ : ByteArray)).data.toList, rfl, by omega, ?_, ?_, unhide HI4, unhide HB4, hbb4⟩
          · rw [← HQ.out, HK.out, ← HXX.out, app_data, app_data, app_data]
            show _ = l ++ ((hxB m).data.toList ++ [13, 10] ++ p.data.toList ++ [13, 10] ++ _)
            simp only [List.append_assoc]
          · have h1 : (x ++ (⟨#[13, 10]⟩ : ByteArray) ++ p ++ (⟨#[13, 10]⟩ : ByteArray)).data.toList.length = x.size + 2 + p.size + 2 := by simp [ByteArray.size_append]; omega
            rw [List.length_append, h1]
            omega
        case measure => simp [strLen]; omega
      · have he : s.data.toList = [] := by
          rw [Lib.toList_data] at em
          exact List.isEmpty_iff.1 em
        have HL := Lib.hid (show l = chunksL K bo.data.toList by rw [← HQ.out, he, chunksL_nil, List.append_nil])
        clear he
        go_wp2_with fail
        have y1 : (⟨#[48, 13, 10]⟩ : ByteArray).size = 3 := rfl
        have y2 : (⟨#[13, 10]⟩ : ByteArray).size = 2 := rfl
        have hz3 : l.length + ((⟨#[48, 13, 10]⟩ : ByteArray) ++ t ++ (⟨#[13, 10]⟩ : ByteArray)).size ≤ 140737488355328 := by simp; omega
        have hW := write_any b b l ((⟨#[48, 13, 10]⟩ : ByteArray) ++ t ++ (⟨#[13, 10]⟩ : ByteArray)) _ (unhide HI) hz3 hbb
        refine hW.mono ?_
        clear hW
        rintro e w4 ⟨rfl, hi4, hb4⟩
        have HI4 := hide hi4
        have HB4 := hide ((unhide HBe).trans (hb4.mono hB1))
        have hbb4 : b ≤ w4.heap.size := Nat.le_trans hbb hb4.size
        clear hi4 hb4
        go_wp2_with fail
        refine (Tryz.Builder_String_any b b _ _ (unhide HI4) hbb4).mono ?_; rintro e w5 ⟨rfl, hb5⟩
        have HB5 := hide ((unhide HB4).trans (hb5.mono hB1))
        clear hb5
        go_wp2_with fail
        go_ret2
        refine ⟨?_, unhide HB5⟩
        have he2 : ofL (chunksL K bo.data.toList ++ [48, 13, 10] ++ y ++ [13, 10]) = ⟨(l ++ ((⟨#[48, 13, 10]⟩ : ByteArray) ++ t ++ (⟨#[13, 10]⟩ : ByteArray)).data.toList).toArray⟩ := by
          rw [← HL.out, app_data, app_data, HTY.out]
          show ofL _ = ofL _
          congr 1
          simp
        rw [he2]
        rfl
end Go.Proofs.YtbpopmbabckojaaGreatDoor.Sp
end

/- emit.Request. -/
section
namespace Go.Proofs.YtbpopmbabckojaaGreatDoor.Sp
open Go.RowKit Sl

def OutS (X : ByteArray × Int) (w : World) (e : Ending) (w' : World) : Prop := e = .returned (.tuple #[.string X.1, .int .i64 X.2]) ∧ Below w.heap.size w w'
theorem moreB_cl (v : ByteArray) : moreB clB v = clB ++ ⟨#[58, 32]⟩ ++ v := by unfold moreB; rw [if_neg (by rw [Lib.toList_data]; decide)]
theorem moreB_te (v : ByteArray) : moreB teB v = teB ++ ⟨#[58, 32]⟩ ++ v := by unfold moreB; rw [if_neg (by rw [Lib.toList_data]; decide)]
theorem moreB_no (v : ByteArray) : moreB ⟨#[]⟩ v = ⟨#[]⟩ := by unfold moreB; rw [if_pos (by rw [Lib.toList_data]; rfl)]
theorem out_at {X : ByteArray × Int} {x : ByteArray} {n : Int} {w w' : World} (h : X = (x, n)) (hb : Below w.heap.size w w') : OutS X w (.returned (.tuple #[.string x, .int .i64 n])) w' := by unfold OutS; rw [h]; exact ⟨rfl, hb⟩

/-- the world's part of a message that may be told: its line and its fields, in worlds to come -/
theorem put_of (me ta re bo : ByteArray) (st mi : Int) (fs tr : Value) (F T : List Fld) (h1 : me.size ≤ 1000000) (h2 : ta.size ≤ 1000000) (h3 : re.size ≤ 1000000) (hF : Few F) (ao bo' : Option Addr) (c1 n2 c2 : Nat) (w : World) (hT : Pow10 w)
    (hv : Rd w (.slice ao F.length c1) F.length 2 (fldV F)) (hok : (lineS me ta re st mi).2 = 0 ∧ F.all chkS = true ∧ T.all chkS = true) (name value body : ByteArray) (zn : name.size ≤ 1000000) (zv : value.size ≤ 1000000) (zb : body.size ≤ 1000000) (zl : (ofL (lineS me ta re st mi).1).size ≤ 100000000)
    (B bb : Nat) (w1 : World) (hb1 : Below w.heap.size w w1) (hB : B ≤ w1.heap.size) (hI : Lib.IsBuilder 68 5 B bb (Lib.byteCells []) w1) :
    Calls Tryz.prog 39 #[.pointer (some ⟨bb, 0, none⟩), .agg (msgV me ta st re mi (.slice ao F.length c1) bo (.slice bo' n2 c2)), .string name, .string value, .string body] w1 (Puts B bb (headM me ta re st mi F (moreB name value) body).data.toList w1) := by
  have hl1 := linesL_len 4004 F (fun f hf => by have := hF.2 f hf; omega)
  have hl2 : (linesL F).length ≤ 400400 := by have := hF.1; omega
  have hl3 : (ofL (linesL F)).size ≤ 100000000 := by
    have e : (ofL (linesL F)).size = (linesL F).length := by simp [ofL, ByteArray.size]
    omega
  refine eput_any me ta re bo name value body _ _ st mi 0 0 ao bo' F.length c1 n2 c2 B bb w1 hB hI (fun w2 hb2 => ?_) (fun w2 hb2 => ?_) zl hl3 zn zv zb
  · refine (eline_any me ta re bo st mi ao bo' F.length c1 n2 c2 h1 h2 h3 w2 (hT.below (hb1.trans (hb2.mono hb1.size)))).mono ?_
    rintro e w3 ⟨rfl, hb3⟩
    rw [hok.1]
    exact ⟨rfl, hb3⟩
  · refine (bytes_any _ F (by have := hF.1; omega) (fun f hf => by have := hF.2 f hf; omega) w2 (hv.below (hb1.trans (hb2.mono hb1.size)))).mono ?_
    rintro e w3 ⟨he, hb3⟩
    unfold BytesO errI at he
    rw [hok.2.1] at he
    exact ⟨he, hb3⟩

set_option maxRecDepth 100000 in
set_option maxHeartbeats 4000000 in
theorem ereq_any (me ta re bo : ByteArray) (st mi : Int) (fs tr : Value) (F T : List Fld) (h1 : me.size ≤ 1000000) (h2 : ta.size ≤ 1000000) (h3 : re.size ≤ 1000000) (h4 : bo.size ≤ 1000000) (zl : (ofL (lineS me ta re st mi).1).size ≤ 100000000) (hF : Few F) (hTr : Few T) (w : World) (hT : Pow10 w)
    (hv : Rd w fs F.length 2 (fldV F)) (hu : Rd w tr T.length 2 (fldV T)) :
    Calls Tryz.prog 27 #[.agg (msgV me ta st re mi fs bo tr)] w (OutS (reqS me ta re bo st mi F T) w) := by
  obtain ⟨ao, c1, rfl⟩ := hv.form
  obtain ⟨bo', c2, rfl⟩ := hu.form
  have q0 := hide (fun w1 (hb : Below w.heap.size w w1) => echeck_any me ta re bo st mi _ _ F T h1 h2 h3 hF hTr w1 (hT.below hb) (hv.below hb) (hu.below hb))
  have q1 := hide (fun w1 (hb : Below w.heap.size w w1) => itoa_any bo.size (by omega) (by omega) w1 (hT.below hb))
  have q2 := hide (fun hok name value body zn zv zb B bb w1 hb1 hB hI => put_of me ta re bo st mi (.slice ao F.length c1) (.slice bo' T.length c2) F T h1 h2 h3 hF ao bo' c1 T.length c2 w hT hv hok name value body zn zv zb zl B bb w1 hb1 hB hI)
  have hi20 := itoa_size bo.size (by omega) (by omega)
  clear hv hu hT
  have HB := hide ((Below.refl w.heap.size w).alloc (Nat.le_refl _) (.cells #[.string me, .string ta, .int .i64 st, .string re, .int .i64 mi, .slice ao F.length c1, .string bo, .slice bo' T.length c2] 24))
  have H := hide (Reg.Has.at w w.heap.size [.string me, .string ta, .int .i64 st, .string re, .int .i64 mi, .slice ao F.length c1, .string bo, .slice bo' T.length c2] 24 rfl)
  unfold msgV at q0 q2 ⊢
  by_cases hem : emC me ta re st mi F T = 0
  rotate_left
  · have hE := Lib.hid (show reqS me ta re bo st mi F T = (⟨#[]⟩, emC me ta re st mi F T) by unfold reqS; rw [if_neg hem])
    have hne : (emC me ta re st mi F T != 0) = true := by rw [bne_iff_ne]; exact hem
    generalize emC me ta re st mi F T = em at *
    clear hem
    go_enter Tryz.func27, Tryz.ntmps27
    go_wp2_with fail
    refine (unhide q0 _ (unhide HB)).mono ?_; rintro e w1 ⟨rfl, hb1⟩
    have HB1 := hide ((unhide HB).trans (hb1.mono (unhide HB).size))
    clear hb1
    go_wp2_with fail
    go_ret2
    exact out_at hE.out (unhide HB1)
  have hok := hide (emC_line hem)
  have hE := Lib.hid (show reqS me ta re bo st mi F T = if me.toList.isEmpty = true then (⟨#[]⟩, 4) else (headM me ta re st mi F (if postM me = true ∨ bo.toList.isEmpty = false then clN bo else ⟨#[]⟩) bo, 0) by unfold reqS; rw [if_pos hem])
  rw [hem] at q0
  clear hem
  cases em : me.toList.isEmpty
  rotate_left
  · have hE2 := Lib.hid (show reqS me ta re bo st mi F T = (⟨#[]⟩, 4) by rw [hE.out, if_pos em])
    go_enter Tryz.func27, Tryz.ntmps27
    go_wp2_with fail
    refine (unhide q0 _ (unhide HB)).mono ?_; rintro e w1 ⟨rfl, hb1⟩
    have HB1 := hide ((unhide HB).trans (hb1.mono (unhide HB).size))
    have p0 := ((unhide H).call hb1).cell 0 _ rfl
    clear hb1
    go_wp2_with fail
    go_ret2
    exact out_at hE2.out (unhide HB1)
  have hE2 := Lib.hid (show reqS me ta re bo st mi F T = (headM me ta re st mi F (if postM me = true ∨ bo.toList.isEmpty = false then clN bo else ⟨#[]⟩) bo, 0) by rw [hE.out, if_neg (by rw [em]; decide)])
  clear hE
  have q2a := hide (unhide q2 (unhide hok))
  clear q2 hok
  have hcases : ((me.toList == [80, 79, 83, 84]) = true) ∨ ((me.toList == [80, 79, 83, 84]) = false ∧ (me.toList == [80, 85, 84]) = true) ∨ ((me.toList == [80, 79, 83, 84]) = false ∧ (me.toList == [80, 85, 84]) = false ∧ (me.toList == [80, 65, 84, 67, 72]) = true) ∨ ((me.toList == [80, 79, 83, 84]) = false ∧ (me.toList == [80, 85, 84]) = false ∧ (me.toList == [80, 65, 84, 67, 72]) = false) := by
    cases me.toList == [80, 79, 83, 84] <;> cases me.toList == [80, 85, 84] <;> cases me.toList == [80, 65, 84, 67, 72] <;> simp
  by_cases hN : postM me = true ∨ bo.toList.isEmpty = false
  · have hE3 := Lib.hid (show reqS me ta re bo st mi F T = (headM me ta re st mi F (moreB clB (itoaB bo.size)) bo, 0) by rw [hE2.out, moreB_cl, if_pos hN]; rfl)
    have hN2 : (postM me = false ∧ bo.toList.isEmpty = true) → False := by rintro ⟨a, b⟩; rw [a, b] at hN; simp at hN
    clear hE2 hN
    unfold postM at hN2
    rcases hcases with g1 | ⟨g1, g2⟩ | ⟨g1, g2, g3⟩ | ⟨g1, g2, g3⟩
    all_goals cases eb : bo.toList.isEmpty
    rotate_right
    · exact absurd ⟨by rw [g1, g2, g3]; rfl, eb⟩ hN2
    all_goals clear hN2
    all_goals
      go_enter Tryz.func27, Tryz.ntmps27
      go_wp2_with fail
      refine (unhide q0 _ (unhide HB)).mono ?_; rintro e w1 ⟨rfl, hb1⟩
      have HB1 := hide ((unhide HB).trans (hb1.mono (unhide HB).size))
      have H1 := hide ((unhide H).call hb1)
      have p0 := (unhide H1).cell 0 _ rfl
      have p6 := (unhide H1).cell 6 _ rfl
      clear hb1
      go_upto_region 15 with fail
      have HI := hide (Lib.fresh_isBuilder 68 5 w1)
      have HB2 := hide ((unhide HB1).alloc (unhide HB1).size (.cells #[.pointer none, .slice none 0 0] 68))
      have H2 := (unhide H1).alloc (.cells #[.pointer none, .slice none 0 0] 68)
      have hlt : w1.heap.size ≤ (w1.alloc (.cells #[.pointer none, .slice none 0 0] 68)).heap.size := by simp
      have hB1 := (unhide HB1).size
      generalize w1.alloc (.cells #[.pointer none, .slice none 0 0] 68) = w2 at *
      generalize w1.heap.size = b at *
      clear p0 p6 H1 HB1
      have pq0 := H2.cell 0 _ rfl; have pq1 := H2.cell 1 _ rfl; have pq2 := H2.cell 2 _ rfl; have pq3 := H2.cell 3 _ rfl; have pq4 := H2.cell 4 _ rfl; have pq5 := H2.cell 5 _ rfl; have pq6 := H2.cell 6 _ rfl; have pq7 := H2.cell 7 _ rfl; have zq := H2.lt
      refine Reg.region_more_barT 8 (by kernel_rfl) (by kernel_rfl) (by intro c a d v w h; cases d <;> exact h) ?_
      simp only [List.take_succ_cons, List.take_zero, List.drop_succ_cons, List.drop_zero]
      repeat (go_big_quiet_step ((go_at_call 40; exact Reg.Calls.more (unhide q1 _ ((unhide HB2).trans ((Reg.More.hb _).mono (unhide HB2).size))))))
      refine wpQuiet_nil ?_
      intro w3 hb3; obtain ⟨hc3, hf3, hz3⟩ := bcell hb3; (try simp at hz3)
      have HI3 := hide (isB_call (unhide HI) hb3)
      have HB3 := hide ((unhide HB2).trans (hb3.mono (unhide HB2).size))
      have hbb3 : b ≤ w3.heap.size := Nat.le_trans hlt hb3.size
      clear hb3 hc3 hf3 H2
      go_wp2_with fail
      refine (unhide q2a _ _ _ (by decide) (by omega) h4 b b w3 (unhide HB3) hbb3 (unhide HI3)).mono ?_; rintro e w4 ⟨rfl, hi4, hb4⟩
      have HI4 := hide hi4
      have HB4 := hide ((unhide HB3).trans (hb4.mono hB1))
      have hbb4 : b ≤ w4.heap.size := Nat.le_trans hbb3 hb4.size
      clear hi4 hb4
      go_wp2_with fail
      refine (Tryz.Builder_String_any b b _ _ (unhide HI4) hbb4).mono ?_; rintro e w5 ⟨rfl, hb5⟩
      have HB5 := hide ((unhide HB4).trans (hb5.mono hB1))
      clear hb5
      go_wp2_with fail
      go_ret2
      exact out_at hE3.out (unhide HB5)
  · have hE3 := Lib.hid (show reqS me ta re bo st mi F T = (headM me ta re st mi F (moreB ⟨#[]⟩ (itoaB bo.size)) bo, 0) by rw [hE2.out, moreB_no, if_neg hN])
    have g : ((me.toList == [80, 79, 83, 84]) = false ∧ (me.toList == [80, 85, 84]) = false ∧ (me.toList == [80, 65, 84, 67, 72]) = false) ∧ bo.toList.isEmpty = true := by
      rw [not_or] at hN
      obtain ⟨a, c⟩ := hN
      unfold postM at a
      refine ⟨?_, by simpa using c⟩
      rcases hcases with g1 | ⟨g1, g2⟩ | ⟨g1, g2, g3⟩ | ⟨g1, g2, g3⟩
      · rw [g1] at a; simp at a
      · rw [g2] at a; simp at a
      · rw [g3] at a; simp at a
      · exact ⟨g1, g2, g3⟩
    obtain ⟨⟨g1, g2, g3⟩, eb⟩ := g
    clear hE2 hN hcases
    go_enter Tryz.func27, Tryz.ntmps27
    go_wp2_with fail
    refine (unhide q0 _ (unhide HB)).mono ?_; rintro e w1 ⟨rfl, hb1⟩
    have HB1 := hide ((unhide HB).trans (hb1.mono (unhide HB).size))
    have H1 := hide ((unhide H).call hb1)
    have p0 := (unhide H1).cell 0 _ rfl
    have p6 := (unhide H1).cell 6 _ rfl
    clear hb1
    go_upto_region 15 with fail
    have HI := hide (Lib.fresh_isBuilder 68 5 w1)
    have HB2 := hide ((unhide HB1).alloc (unhide HB1).size (.cells #[.pointer none, .slice none 0 0] 68))
    have H2 := (unhide H1).alloc (.cells #[.pointer none, .slice none 0 0] 68)
    have hlt : w1.heap.size ≤ (w1.alloc (.cells #[.pointer none, .slice none 0 0] 68)).heap.size := by simp
    have hB1 := (unhide HB1).size
    generalize w1.alloc (.cells #[.pointer none, .slice none 0 0] 68) = w2 at *
    generalize w1.heap.size = b at *
    clear p0 p6 H1 HB1
    have pq0 := H2.cell 0 _ rfl; have pq1 := H2.cell 1 _ rfl; have pq2 := H2.cell 2 _ rfl; have pq3 := H2.cell 3 _ rfl; have pq4 := H2.cell 4 _ rfl; have pq5 := H2.cell 5 _ rfl; have pq6 := H2.cell 6 _ rfl; have pq7 := H2.cell 7 _ rfl; have zq := H2.lt
    refine Reg.region_more_barT 8 (by kernel_rfl) (by kernel_rfl) (by intro c a d v w h; cases d <;> exact h) ?_
    simp only [List.take_succ_cons, List.take_zero, List.drop_succ_cons, List.drop_zero]
    repeat (go_big_quiet_step ((go_at_call 40; exact Reg.Calls.more (unhide q1 _ ((unhide HB2).trans ((Reg.More.hb _).mono (unhide HB2).size))))))
    refine wpQuiet_nil ?_
    intro w3 hb3; obtain ⟨hc3, hf3, hz3⟩ := bcell hb3; (try simp at hz3)
    have HI3 := hide (isB_call (unhide HI) hb3)
    have HB3 := hide ((unhide HB2).trans (hb3.mono (unhide HB2).size))
    have hbb3 : b ≤ w3.heap.size := Nat.le_trans hlt hb3.size
    clear hb3 hc3 hf3 H2
    go_wp2_with fail
    refine (unhide q2a _ _ _ (by decide) (by omega) h4 b b w3 (unhide HB3) hbb3 (unhide HI3)).mono ?_; rintro e w4 ⟨rfl, hi4, hb4⟩
    have HI4 := hide hi4
    have HB4 := hide ((unhide HB3).trans (hb4.mono hB1))
    have hbb4 : b ≤ w4.heap.size := Nat.le_trans hbb3 hb4.size
    clear hi4 hb4
    go_wp2_with fail
    refine (Tryz.Builder_String_any b b _ _ (unhide HI4) hbb4).mono ?_; rintro e w5 ⟨rfl, hb5⟩
    have HB5 := hide ((unhide HB4).trans (hb5.mono hB1))
    clear hb5
    go_wp2_with fail
    go_ret2
    exact out_at hE3.out (unhide HB5)
end Go.Proofs.YtbpopmbabckojaaGreatDoor.Sp
end
