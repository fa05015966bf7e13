/- Lemmas for the statement's proof, several texts in one: M12, M9, M15, M18. -/
import Derived.Test.YtbpopmbabckojaaGreatDoorZ32
import Derived.Test.YtbpopmbabckojaaGreatDoorZ20
import Derived.Test.YtbpopmbabckojaaGreatDoorZ34
import Derived.Test.YtbpopmbabckojaaGreatDoorZ36
import Derived.Test.YtbpopmbabckojaaGreatDoorZ35
import Derived.Test.YtbpopmbabckojaaGreatDoorZ23
set_option linter.unusedVariables false
set_option linter.unusedSimpArgs false
/- emit.Chunked. -/
section
namespace Go.Proofs.YtbpopmbabckojaaGreatDoor.Sp
open Go.RowKit Sl

theorem chunksL_len (k : Nat) : ∀ (n : Nat) (s : List UInt8), s.length ≤ n → (chunksL k s).length ≤ 10 * s.length := by
  intro n
  induction n with
  | zero => intro s hs; rw [List.eq_nil_of_length_eq_zero (by omega : s.length = 0), chunksL_nil]; simp
  | succ n ih =>
    intro s hs
    rw [chunksL]
    split
    · simp
    · rename_i h
      rw [not_or] at h
      have h1 := List.length_pos_iff.2 h.1
      have h2 := ih (s.drop k) (by rw [List.length_drop]; omega)
      have h3 := hxL_len (s.take k).length
      unfold chunkL
      rw [List.length_drop] at h2
      simp only [List.length_append, List.length_cons, List.length_nil, List.length_take] at h3 ⊢
      omega
theorem encL_len (bo : ByteArray) (size : Int) (T : List Fld) (hb : bo.size < 4096) (hT : Few T) : (ofL (encL bo.data.toList size T)).size ≤ 1000000 := by
  have e : (ofL (encL bo.data.toList size T)).size = (encL bo.data.toList size T).length := by simp [ofL, ByteArray.size]
  rw [e]
  unfold encL
  have h1 := chunksL_len (sizeU size bo.data.toList.length) _ bo.data.toList (Nat.le_refl _)
  have h2 := linesL_len 4004 T (fun f hf => by have := hT.2 f hf; omega)
  have h3 := hT.1
  have h4 : bo.data.toList.length = bo.size := by simp
  simp only [List.length_append, List.length_cons, List.length_nil]
  omega

set_option maxRecDepth 100000 in
set_option maxHeartbeats 4000000 in
theorem echu_any (me ta re bo : ByteArray) (st mi size : Int) (fs tr : Value) (F T : List Fld) (h1 : me.size ≤ 1000000) (h2 : ta.size ≤ 1000000) (h3 : re.size ≤ 1000000) (h4 : bo.size < 4096) (hs0 : -9223372036854775808 ≤ size) (hs1 : size ≤ 9223372036854775807) (zl : (ofL (lineS me ta re st mi).1).size ≤ 100000000) (hF : Few F) (hTr : Few T) (w : World) (hT : Pow10 w) (hR : Bru w)
    (hv : Rd w fs F.length 2 (fldV F)) (hu : Rd w tr T.length 2 (fldV T)) :
    Calls Tryz.prog 29 #[.agg (msgV me ta st re mi fs bo tr), .int .i64 size] w (OutS (chuS me ta re bo st mi F T size) w) := by
  obtain ⟨ao, c1, rfl⟩ := hv.form
  obtain ⟨bo', c2, rfl⟩ := hu.form
  have q0 := hide (fun w1 (hb : Below w.heap.size w w1) => echeck_any me ta re bo st mi _ _ F T h1 h2 h3 hF hTr w1 (hT.below hb) (hv.below hb) (hu.below hb))
  have qe := hide (fun w1 (hb : Below w.heap.size w w1) => encode_any bo size _ T h4 hs0 hs1 hTr w1 (hu.below hb) (hR.below hb))
  have qt := hide (fun hok name value body zn zv zb B bb w1 hb1 hB hI => put_of me ta re bo st mi (.slice ao F.length c1) (.slice bo' T.length c2) F T h1 h2 h3 hF ao bo' c1 T.length c2 w hT hv hok name value body zn zv zb zl B bb w1 hb1 hB hI)
  clear hv hu hT hR
  have HB := hide ((Below.refl w.heap.size w).alloc (Nat.le_refl _) (.cells #[.string me, .string ta, .int .i64 st, .string re, .int .i64 mi, .slice ao F.length c1, .string bo, .slice bo' T.length c2] 24))
  have H := hide (Reg.Has.at w w.heap.size [.string me, .string ta, .int .i64 st, .string re, .int .i64 mi, .slice ao F.length c1, .string bo, .slice bo' T.length c2] 24 rfl)
  unfold msgV at q0 qt ⊢
  by_cases hem : emC me ta re st mi F T = 0
  rotate_left
  · have hE := Lib.hid (show chuS me ta re bo st mi F T size = (⟨#[]⟩, emC me ta re st mi F T) by unfold chuS; rw [if_neg hem])
    have hne : (emC me ta re st mi F T != 0) = true := by rw [bne_iff_ne]; exact hem
    generalize emC me ta re st mi F T = em at *
    clear hem
    go_enter Tryz.func29, Tryz.ntmps29
    go_wp2_with fail
    refine (unhide q0 _ (unhide HB)).mono ?_; rintro e w1 ⟨rfl, hb1⟩
    have HB1 := hide ((unhide HB).trans (hb1.mono (unhide HB).size))
    clear hb1
    go_wp2_with fail
    go_ret2
    exact out_at hE.out (unhide HB1)
  have hok := hide (emC_line hem)
  have hE := Lib.hid (show chuS me ta re bo st mi F T size = if mi = 0 ∨ (me.toList.isEmpty = true ∧ noneI st = true) then (⟨#[]⟩, 4) else (headM me ta re st mi F teN (ofL (encL bo.data.toList size T)), 0) by unfold chuS; rw [if_pos hem])
  rw [hem] at q0
  clear hem
  by_cases hmi : mi = 0
  · have hE2 := Lib.hid (show chuS me ta re bo st mi F T size = (⟨#[]⟩, 4) by rw [hE.out, if_pos (.inl hmi)])
    have hmb : (mi == 0) = true := by simpa using hmi
    clear hmi hE
    go_enter Tryz.func29, Tryz.ntmps29
    go_wp2_with fail
    refine (unhide q0 _ (unhide HB)).mono ?_; rintro e w1 ⟨rfl, hb1⟩
    have HB1 := hide ((unhide HB).trans (hb1.mono (unhide HB).size))
    have H1 := (unhide H).call hb1
    clear hb1
    have pq0 := H1.cell 0 _ rfl; have pq1 := H1.cell 1 _ rfl; have pq2 := H1.cell 2 _ rfl; have pq3 := H1.cell 3 _ rfl; have pq4 := H1.cell 4 _ rfl; have pq5 := H1.cell 5 _ rfl; have pq6 := H1.cell 6 _ rfl; have pq7 := H1.cell 7 _ rfl; have zq := H1.lt
    go_wp2_with fail
    go_ret2
    exact out_at hE2.out (unhide HB1)
  have hmb : (mi == 0) = false := by simpa using hmi
  cases em : me.toList.isEmpty
  rotate_left
  · obtain ⟨s0, s1⟩ := lineS_status em (unhide hok).1
    have qn := hide (fun w => none_any st s0 s1 w)
    clear s0 s1
    obtain ⟨ni, hni⟩ : ∃ b, noneI st = b := ⟨_, rfl⟩
    rw [hni] at qn
    cases ni
    rotate_left
    · have hE2 := Lib.hid (show chuS me ta re bo st mi F T size = (⟨#[]⟩, 4) by rw [hE.out, if_pos (.inr ⟨em, hni⟩)])
      clear hmi hE hni
      go_enter Tryz.func29, Tryz.ntmps29
      go_wp2_with fail
      refine (unhide q0 _ (unhide HB)).mono ?_; rintro e w1 ⟨rfl, hb1⟩
      have HB1 := hide ((unhide HB).trans (hb1.mono (unhide HB).size))
      have H1 := (unhide H).call hb1
      clear hb1
      have pq0 := H1.cell 0 _ rfl; have pq1 := H1.cell 1 _ rfl; have pq2 := H1.cell 2 _ rfl; have pq3 := H1.cell 3 _ rfl; have pq4 := H1.cell 4 _ rfl; have pq5 := H1.cell 5 _ rfl; have pq6 := H1.cell 6 _ rfl; have pq7 := H1.cell 7 _ rfl; have zq := H1.lt
      go_wp2_with (go_at_call 38; refine (unhide qn _).mono ?_; rintro e w' ⟨rfl, rfl⟩)
      go_ret2
      exact out_at hE2.out (unhide HB1)
    have hE2 := Lib.hid (show chuS me ta re bo st mi F T size = (headM me ta re st mi F (moreB teB ⟨#[99, 104, 117, 110, 107, 101, 100]⟩) (ofL (encL bo.data.toList size T)), 0) by rw [hE.out, moreB_te, if_neg (fun h => h.elim hmi (fun h => by have h := h.2; rw [hni] at h; cases h))]; rfl)
    have hel := encL_len bo size T h4 hTr
    unfold EncO errI at qe
    rw [(unhide hok).2.2] at qe
    simp only [if_true] at qe
    generalize ofL (encL bo.data.toList size T) = z at *
    have q2a := hide (unhide qt (unhide hok))
    clear qt hok hmi hE hni
    go_enter Tryz.func29, Tryz.ntmps29
    go_wp2_with fail
    refine (unhide q0 _ (unhide HB)).mono ?_; rintro e w1 ⟨rfl, hb1⟩
    have HB1 := hide ((unhide HB).trans (hb1.mono (unhide HB).size))
    have H1 := (unhide H).call hb1
    clear hb1
    have pq0 := H1.cell 0 _ rfl; have pq1 := H1.cell 1 _ rfl; have pq2 := H1.cell 2 _ rfl; have pq3 := H1.cell 3 _ rfl; have pq4 := H1.cell 4 _ rfl; have pq5 := H1.cell 5 _ rfl; have pq6 := H1.cell 6 _ rfl; have pq7 := H1.cell 7 _ rfl; have zq := H1.lt
    go_wp2_with (go_at_call 38; refine (unhide qn _).mono ?_; rintro e w' ⟨rfl, rfl⟩)
    refine (unhide qe _ (unhide HB1)).mono ?_; rintro e w6 ⟨rfl, hb6⟩
    have H6 := H1.call hb6
    have HB6 := hide ((unhide HB1).trans (hb6.mono (unhide HB1).size))
    clear hb6 H1 pq0 pq1 pq2 pq3 pq4 pq5 pq6 pq7 zq
    go_upto_region 10 with fail
    have HI := hide (Lib.fresh_isBuilder 68 5 w6)
    have HB2 := hide ((unhide HB6).alloc (unhide HB6).size (.cells #[.pointer none, .slice none 0 0] 68))
    have H2 := H6.alloc (.cells #[.pointer none, .slice none 0 0] 68)
    have hlt : w6.heap.size ≤ (w6.alloc (.cells #[.pointer none, .slice none 0 0] 68)).heap.size := by simp
    have hB1 := (unhide HB6).size
    generalize w6.alloc (.cells #[.pointer none, .slice none 0 0] 68) = w2 at *
    generalize w6.heap.size = b at *
    clear H6 HB6
    have pq0 := H2.cell 0 _ rfl; have pq1 := H2.cell 1 _ rfl; have pq2 := H2.cell 2 _ rfl; have pq3 := H2.cell 3 _ rfl; have pq4 := H2.cell 4 _ rfl; have pq5 := H2.cell 5 _ rfl; have pq6 := H2.cell 6 _ rfl; have pq7 := H2.cell 7 _ rfl; have zq := H2.lt
    go_wp2_with fail
    refine (unhide q2a _ _ _ (by decide) (by decide) hel b b w2 (unhide HB2) hlt (unhide HI)).mono ?_; rintro e w4 ⟨rfl, hi4, hb4⟩
    have HI4 := hide hi4
    have HB4 := hide ((unhide HB2).trans (hb4.mono hB1))
    have hbb4 : b ≤ w4.heap.size := Nat.le_trans hlt hb4.size
    clear hi4 hb4 H2 pq0 pq1 pq2 pq3 pq4 pq5 pq6 pq7 zq
    go_wp2_with fail
    refine (Tryz.Builder_String_any b b _ _ (unhide HI4) hbb4).mono ?_; rintro e w5 ⟨rfl, hb5⟩
    have HB5 := hide ((unhide HB4).trans (hb5.mono hB1))
    clear hb5
    go_wp2_with fail
    go_ret2
    exact out_at hE2.out (unhide HB5)
  have hE2 := Lib.hid (show chuS me ta re bo st mi F T size = (headM me ta re st mi F (moreB teB ⟨#[99, 104, 117, 110, 107, 101, 100]⟩) (ofL (encL bo.data.toList size T)), 0) by rw [hE.out, moreB_te, if_neg (fun h => h.elim hmi (fun h => by have h := h.1; rw [em] at h; cases h))]; rfl)
  have hel := encL_len bo size T h4 hTr
  unfold EncO errI at qe
  rw [(unhide hok).2.2] at qe
  simp only [if_true] at qe
  generalize ofL (encL bo.data.toList size T) = z at *
  have q2a := hide (unhide qt (unhide hok))
  clear qt hok hmi hE
  go_enter Tryz.func29, Tryz.ntmps29
  go_wp2_with fail
  refine (unhide q0 _ (unhide HB)).mono ?_; rintro e w1 ⟨rfl, hb1⟩
  have HB1 := hide ((unhide HB).trans (hb1.mono (unhide HB).size))
  have H1 := (unhide H).call hb1
  clear hb1
  have pq0 := H1.cell 0 _ rfl; have pq1 := H1.cell 1 _ rfl; have pq2 := H1.cell 2 _ rfl; have pq3 := H1.cell 3 _ rfl; have pq4 := H1.cell 4 _ rfl; have pq5 := H1.cell 5 _ rfl; have pq6 := H1.cell 6 _ rfl; have pq7 := H1.cell 7 _ rfl; have zq := H1.lt
  go_wp2_with fail
  refine (unhide qe _ (unhide HB1)).mono ?_; rintro e w6 ⟨rfl, hb6⟩
  have H6 := H1.call hb6
  have HB6 := hide ((unhide HB1).trans (hb6.mono (unhide HB1).size))
  clear hb6 H1 pq0 pq1 pq2 pq3 pq4 pq5 pq6 pq7 zq
  go_upto_region 10 with fail
  have HI := hide (Lib.fresh_isBuilder 68 5 w6)
  have HB2 := hide ((unhide HB6).alloc (unhide HB6).size (.cells #[.pointer none, .slice none 0 0] 68))
  have H2 := H6.alloc (.cells #[.pointer none, .slice none 0 0] 68)
  have hlt : w6.heap.size ≤ (w6.alloc (.cells #[.pointer none, .slice none 0 0] 68)).heap.size := by simp
  have hB1 := (unhide HB6).size
  generalize w6.alloc (.cells #[.pointer none, .slice none 0 0] 68) = w2 at *
  generalize w6.heap.size = b at *
  clear H6 HB6
  have pq0 := H2.cell 0 _ rfl; have pq1 := H2.cell 1 _ rfl; have pq2 := H2.cell 2 _ rfl; have pq3 := H2.cell 3 _ rfl; have pq4 := H2.cell 4 _ rfl; have pq5 := H2.cell 5 _ rfl; have pq6 := H2.cell 6 _ rfl; have pq7 := H2.cell 7 _ rfl; have zq := H2.lt
  go_wp2_with fail
  refine (unhide q2a _ _ _ (by decide) (by decide) hel b b w2 (unhide HB2) hlt (unhide HI)).mono ?_; rintro e w4 ⟨rfl, hi4, hb4⟩
  have HI4 := hide hi4
  have HB4 := hide ((unhide HB2).trans (hb4.mono hB1))
  have hbb4 : b ≤ w4.heap.size := Nat.le_trans hlt hb4.size
  clear hi4 hb4 H2 pq0 pq1 pq2 pq3 pq4 pq5 pq6 pq7 zq
  go_wp2_with fail
  refine (Tryz.Builder_String_any b b _ _ (unhide HI4) hbb4).mono ?_; rintro e w5 ⟨rfl, hb5⟩
  have HB5 := hide ((unhide HB4).trans (hb5.mono hB1))
  clear hb5
  go_wp2_with fail
  go_ret2
  exact out_at hE2.out (unhide HB5)
end Go.Proofs.YtbpopmbabckojaaGreatDoor.Sp
end

/- The reference's Encode. -/
section
namespace Go.Proofs.YtbpopmbabckojaaGreatDoor.Sp
open Go.RowKit Sl

set_option maxRecDepth 100000 in
set_option maxHeartbeats 2000000 in
theorem rencode_any (bo : ByteArray) (size : Int) (tr : Value) (T : List Fld) (hb : bo.size < 4096) (hs0 : -9223372036854775808 ≤ size) (hs1 : size ≤ 9223372036854775807) (hTr : Few T) (w : World) (hv : Rd w tr T.length 2 (fldV T)) :
    Calls Tryz.prog 55 #[.string bo, .int .i64 size, tr] w fun e w' => EncO bo size T e ∧ Below w.heap.size w w' := by
  have q1 := hide (rbytes_any _ T (by have := hTr.1; omega) (fun f hf => by have := hTr.2 f hf; omega) w hv)
  have hT4 := linesL_len 4004 T (fun f hf => by have := hTr.2 f hf; omega)
  have hT5 : (linesL T).length ≤ 400400 := by have := hTr.1; omega
  obtain ⟨ao, c1, rfl⟩ := hv.form
  clear hv hT4 hTr
  unfold EncO
  unfold BytesO at q1
  obtain ⟨tb, htb⟩ : ∃ b, T.all chkS = b := ⟨_, rfl⟩
  rw [htb] at q1 ⊢
  cases tb
  · simp only [Bool.false_eq_true, if_false, errI] at q1 ⊢
    go_enter Tryz.func55, Tryz.ntmps55
    go_wp2_with fail
    refine (unhide q1).mono ?_; rintro e w1 ⟨rfl, hb1⟩
    have HB1 := hide hb1
    clear hb1
    go_wp2_with fail
    go_ret2
    exact ⟨rfl, unhide HB1⟩
  simp only [if_true, errI] at q1 ⊢
  unfold encL
  generalize hK : sizeU size bo.data.toList.length = K
  have hK0 : K ≠ 0 := by rw [← hK]; exact sizeU_pos _ _
  have hKs : (decide (size < 1) = true ∧ max 1 (bo.size : Int) = K) ∨ (decide (size < 1) = false ∧ size = K) := by
    have hl : bo.data.toList.length = bo.size := by simp
    rw [hl] at hK
    unfold sizeU at hK
    by_cases h : size < 1
    · rw [if_pos h] at hK
      refine .inl ⟨decide_eq_true h, ?_⟩
      split at hK <;> omega
    · rw [if_neg h] at hK
      exact .inr ⟨decide_eq_false h, by omega⟩
  generalize hy : linesL T = y at *
  clear hK hy htb
  obtain ⟨t, ht⟩ : ∃ t : ByteArray, t = ofL y := ⟨_, rfl⟩
  have hty : t.data.toList = y := by rw [ht]; rfl
  have hts : t.size = y.length := by rw [ht]; simp [ofL, ByteArray.size]
  rw [← ht] at q1
  have HTY := Lib.hid hty
  clear ht hty
  rcases hKs with ⟨hs2, hmx⟩ | ⟨hs2, rfl⟩
  all_goals
    go_enter Tryz.func55, Tryz.ntmps55
    go_wp2_with fail
    refine (unhide q1).mono ?_; rintro e w1 ⟨rfl, hb1⟩
    have HB1 := hide hb1
    clear hb1 q1
    go_wp2_with fail
    try clear hs2 hmx
    go_loopw [10, 11] (fun o i wr => ∃ (x : ByteArray) (k : Nat), o = .string x ∧ i = .int .i64 k ∧ k ≤ bo.size ∧ x.data.toList ++ chunksL K (bo.data.toList.drop k) = chunksL K bo.data.toList ∧ x.size ≤ 10 * k ∧ Below w.heap.size w wr) (fun _ i _ => bo.size - (intOf i).toNat)
    case atStart => exact ⟨⟨#[]⟩, 0, rfl, rfl, Nat.zero_le _, rfl, Nat.zero_le _, unhide HB1⟩
    case round =>
      clear HB1
      obtain ⟨x, k, rfl, rfl, hk, heq, hx, hbel⟩ := hrel
      have HQ := Lib.hid heq
      have HBe := hide hbel
      clear heq hbel
      rcases Nat.lt_or_ge k bo.size with hlt | hge
      · obtain ⟨m, hm⟩ : ∃ m, min K (bo.size - k) = m := ⟨_, rfl⟩
        have hm1 : k + m ≤ bo.size := by omega
        have hm0 : 0 < m := by omega
        have hmi : min (K : Int) ((bo.size : Int) - (k : Int)) = (m : Int) := by omega
        have hps : (bo.extract k (k + m)).size = m := by rw [ByteArray.size_extract]; omega
        have hp : (bo.extract k (k + m)).data.toList = (bo.data.toList.drop k).take m := by
          rw [Lib.extract_data]
          simp [List.drop_take]
        have hck : chunksL K (bo.data.toList.drop k) = hxL m ++ [13, 10] ++ (bo.data.toList.drop k).take m ++ [13, 10] ++ chunksL K (bo.data.toList.drop (k + m)) := by
          have hl : (bo.data.toList.drop k).length = bo.size - k := by simp
          have hne : bo.data.toList.drop k ≠ [] := by intro e; rw [e] at hl; simp at hl; omega
          have e1 : (bo.data.toList.drop k).take K = (bo.data.toList.drop k).take m := by
            rw [← hm]
            rcases Nat.le_total K (bo.size - k) with h | h
            · rw [Nat.min_eq_left h]
            · rw [Nat.min_eq_right h, List.take_of_length_le (by omega), List.take_of_length_le (by omega)]
          have e2 : (bo.data.toList.drop k).drop K = bo.data.toList.drop (k + m) := by
            rw [List.drop_drop]
            rcases Nat.le_total K (bo.size - k) with h | h
            · rw [← hm, Nat.min_eq_left h]
            · rw [List.drop_of_length_le (by simp; omega), List.drop_of_length_le (by simp; omega)]
          rw [chunksL_more K _ hne hK0, e1, e2]
          unfold chunkL
          rw [List.length_take, Nat.min_eq_left (by omega)]
        rw [← hp] at hck
        have hxs := hxB_size m
        have hxd := fun w => rdigits_any m (by omega) w
        have HX := hide hxd
        have HK := Lib.hid hck
        obtain ⟨d, hxx⟩ : ∃ x, hxB m = x := ⟨_, rfl⟩
        rw [hxx] at hxs HX
        have HXX := Lib.hid hxx
        have y2 : (⟨#[13, 10]⟩ : ByteArray).size = 2 := rfl
        clear hxd hck hp hxx hm
        go_upto_region 10 with fail
        have BW := hide (Below.drew (Below.refl wr.heap.size wr))
        refine Reg.region_mix [0, 1, 5, 6, 7, 8, 9, 10, 2, 3, 4, 11, 12, 13] (by kernel_rfl) (by kernel_rfl) (by kernel_rfl) (by decide) (by intro c a d v w h; cases d <;> exact h) ?_
        simp only [Reg.pickL, List.getElem?_cons_zero, List.getElem?_cons_succ]
        refine Reg.mix_take 8 (by kernel_rfl) ?_
        simp only [List.take_succ_cons, List.take_zero, List.drop_succ_cons, List.drop_zero]
        repeat (go_big_quiet_step (fail))
        refine wpQuiet_nil ?_
        refine Reg.mix_one (by kernel_rfl) ?_
        go_wp2_with ((go_at_call 75; refine (unhide HX _).mono ?_; rintro e w4 ⟨rfl, rfl⟩))
        refine ⟨rfl, ⟨⟨_, unhide BW⟩, rfl⟩, ?_⟩
        refine Reg.mix_take 5 (by kernel_rfl) ?_
        simp only [List.take_succ_cons, List.take_zero, List.drop_succ_cons, List.drop_zero]
        repeat (go_big_quiet_step (fail))
        refine wpQuiet_nil ?_
        refine Reg.mix_nil ?_
        go_wp2_with fail
        go_roundw
        case rel =>
          refine ⟨x ++ d ++ (⟨#[13, 10]⟩ : ByteArray) ++ bo.extract k (k + m) ++ (⟨#[13, 10]⟩ : ByteArray), k + m, rfl, by go_num, hm1, ?_, ?_, (unhide HBe).trans ((unhide BW).mono (unhide HBe).size)⟩
          · rw [← HQ.out, HK.out, ← HXX.out, app_data, app_data, app_data, app_data]
            show _ = x.data.toList ++ ((hxB m).data.toList ++ [13, 10] ++ (bo.extract k (k + m)).data.toList ++ [13, 10] ++ _)
            simp only [List.append_assoc]
          · rw [ByteArray.size_append, ByteArray.size_append, ByteArray.size_append, ByteArray.size_append]
            omega
        case measure => simp [intOf]; omega
      · have he : bo.data.toList.drop k = [] := List.drop_of_length_le (by simp; omega)
        have HL := Lib.hid (show x.data.toList = chunksL K bo.data.toList by rw [← HQ.out, he, chunksL_nil, List.append_nil])
        have y2 : (⟨#[13, 10]⟩ : ByteArray).size = 2 := rfl
        have y3 : (⟨#[48, 13, 10]⟩ : ByteArray).size = 3 := rfl
        clear he
        go_wp2_with fail
        go_ret2
        refine ⟨?_, unhide HBe⟩
        have he2 : ofL (chunksL K bo.data.toList ++ [48, 13, 10] ++ y ++ [13, 10]) = x ++ (⟨#[48, 13, 10]⟩ : ByteArray) ++ t ++ (⟨#[13, 10]⟩ : ByteArray) := by
          refine (ba_eq ?_).symm
          rw [app_data, app_data, app_data, HL.out, HTY.out]
        rw [he2]
        rfl
end Go.Proofs.YtbpopmbabckojaaGreatDoor.Sp
end

/- halfwayhouse/halfwayhouseref08.Chunked. -/
section
namespace Go.Proofs.YtbpopmbabckojaaGreatDoor.Sp
open Go.RowKit Sl

set_option maxRecDepth 100000 in
set_option maxHeartbeats 4000000 in
theorem rchu_any (me ta re bo : ByteArray) (st mi size : Int) (fs tr : Value) (F T : List Fld) (h1 : me.size ≤ 1000000) (h2 : ta.size ≤ 1000000) (h3 : re.size ≤ 1000000)  (h4 : bo.size < 4096) (hs0 : -9223372036854775808 ≤ size) (hs1 : size ≤ 9223372036854775807) (zl : (ofL (lineS me ta re st mi).1).size ≤ 100000000) (hF : Few F) (hTr : Few T) (w : World)
    (hv : Rd w fs F.length 2 (fldV F)) (hu : Rd w tr T.length 2 (fldV T)) :
    Calls Tryz.prog 32 #[.agg (msgV me ta st re mi fs bo tr), .int .i64 size] w (OutS (chuS me ta re bo st mi F T size) w) := by
  obtain ⟨ao, c1, rfl⟩ := hv.form
  obtain ⟨bo', c2, rfl⟩ := hu.form
  have q0 := hide (fun w1 (hb : Below w.heap.size w w1) => rcheck8_any me ta re bo st mi _ _ F T h1 h2 h3 hF hTr w1 (hv.below hb) (hu.below hb))
  have qe := hide (fun w1 (hb : Below w.heap.size w w1) => rencode_any bo size _ T h4 hs0 hs1 hTr w1 (hu.below hb))
  have qn := hide (fun w => rnone_any st w)
  have qt := hide (fun hok more body zm zb w1 hb1 => rput_of me ta re bo st mi F T h1 h2 h3 hF ao bo' c1 T.length c2 w hv hok more body zm zb zl w1 hb1)
  clear hv hu
  have HB := hide ((Below.refl w.heap.size w).alloc (Nat.le_refl _) (.cells #[.string me, .string ta, .int .i64 st, .string re, .int .i64 mi, .slice ao F.length c1, .string bo, .slice bo' T.length c2] 24))
  have H := hide (Reg.Has.at w w.heap.size [.string me, .string ta, .int .i64 st, .string re, .int .i64 mi, .slice ao F.length c1, .string bo, .slice bo' T.length c2] 24 rfl)
  unfold msgV at q0 qt ⊢
  by_cases hem : emC me ta re st mi F T = 0
  rotate_left
  · have hE := Lib.hid (show chuS me ta re bo st mi F T size = (⟨#[]⟩, emC me ta re st mi F T) by unfold chuS; rw [if_neg hem])
    have hne : (emC me ta re st mi F T != 0) = true := by rw [bne_iff_ne]; exact hem
    have hne2 : (emC me ta re st mi F T == 0) = false := by rw [beq_eq_false_iff_ne]; exact hem
    generalize emC me ta re st mi F T = em at *
    clear hem
    go_enter Tryz.func32, Tryz.ntmps32
    go_wp2_with fail
    refine (unhide q0 _ (unhide HB)).mono ?_; rintro e w1 ⟨rfl, hb1⟩
    have HB1 := hide ((unhide HB).trans (hb1.mono (unhide HB).size))
    clear hb1
    go_wp2_with fail
    go_ret2
    exact out_at hE.out (unhide HB1)
  have hok := hide (emC_line hem)
  have hE := Lib.hid (show chuS me ta re bo st mi F T size = if mi = 0 ∨ (me.toList.isEmpty = true ∧ noneI st = true) then (⟨#[]⟩, 4) else (headM me ta re st mi F ⟨#[84, 114, 97, 110, 115, 102, 101, 114, 45, 69, 110, 99, 111, 100, 105, 110, 103, 58, 32, 99, 104, 117, 110, 107, 101, 100]⟩ (ofL (encL bo.data.toList size T)), 0) by unfold chuS; rw [if_pos hem]; rfl)
  rw [hem] at q0
  clear hem
  obtain ⟨ni, hni⟩ : ∃ b, noneI st = b := ⟨_, rfl⟩
  rw [hni] at qn
  have HNI := Lib.hid hni
  clear hni
  by_cases hbad : mi = 0 ∨ (me.toList.isEmpty = true ∧ ni = true)
  · have hE2 := Lib.hid (show chuS me ta re bo st mi F T size = (⟨#[]⟩, 4) by rw [hE.out, HNI.out, if_pos hbad])
    have hcs : ((mi == 0) = true) ∨ ((mi == 0) = false ∧ me.toList.isEmpty = true ∧ ni = true) := by
      by_cases hmi : mi = 0
      · exact .inl (by simpa using hmi)
      · exact .inr ⟨by simpa using hmi, hbad.resolve_left hmi⟩
    clear hE HNI hbad
    rcases hcs with hmb | ⟨hmb, em, rfl⟩
    all_goals
      go_enter Tryz.func32, Tryz.ntmps32
      go_wp2_with fail
      refine (unhide q0 _ (unhide HB)).mono ?_; rintro e w1 ⟨rfl, hb1⟩
      have HB1 := hide ((unhide HB).trans (hb1.mono (unhide HB).size))
      have H1 := (unhide H).call hb1
      clear hb1
      have pq0 := H1.cell 0 _ rfl; have pq1 := H1.cell 1 _ rfl; have pq2 := H1.cell 2 _ rfl; have pq3 := H1.cell 3 _ rfl; have pq4 := H1.cell 4 _ rfl; have pq5 := H1.cell 5 _ rfl; have pq6 := H1.cell 6 _ rfl; have pq7 := H1.cell 7 _ rfl; have zq := H1.lt
      go_wp2_with (go_at_call 54; refine (unhide qn _).mono ?_; rintro e w' ⟨rfl, rfl⟩)
      go_ret2
      exact out_at hE2.out (unhide HB1)
  have hE3 := Lib.hid (show chuS me ta re bo st mi F T size = (headM me ta re st mi F ⟨#[84, 114, 97, 110, 115, 102, 101, 114, 45, 69, 110, 99, 111, 100, 105, 110, 103, 58, 32, 99, 104, 117, 110, 107, 101, 100]⟩ (ofL (encL bo.data.toList size T)), 0) by rw [hE.out, HNI.out, if_neg hbad])
  have hcs : ((mi == 0) = false ∧ me.toList.isEmpty = false) ∨ ((mi == 0) = false ∧ me.toList.isEmpty = true ∧ ni = false) := by
    rw [not_or] at hbad
    have h1 : (mi == 0) = false := by simpa using hbad.1
    cases hm : me.toList.isEmpty
    · exact .inl ⟨h1, rfl⟩
    · refine .inr ⟨h1, rfl, ?_⟩
      cases ni
      · rfl
      · exact absurd ⟨hm, rfl⟩ hbad.2
  have hel := encL_len bo size T h4 hTr
  unfold EncO errI at qe
  rw [(unhide hok).2.2] at qe
  simp only [if_true] at qe
  generalize ofL (encL bo.data.toList size T) = z at *
  have q2a := hide (unhide qt (unhide hok))
  clear qt hok hE HNI hbad
  rcases hcs with ⟨hmb, em⟩ | ⟨hmb, em, rfl⟩
  all_goals
    go_enter Tryz.func32, Tryz.ntmps32
    go_wp2_with fail
    refine (unhide q0 _ (unhide HB)).mono ?_; rintro e w1 ⟨rfl, hb1⟩
    have HB1 := hide ((unhide HB).trans (hb1.mono (unhide HB).size))
    have H1 := (unhide H).call hb1
    clear hb1
    have pq0 := H1.cell 0 _ rfl; have pq1 := H1.cell 1 _ rfl; have pq2 := H1.cell 2 _ rfl; have pq3 := H1.cell 3 _ rfl; have pq4 := H1.cell 4 _ rfl; have pq5 := H1.cell 5 _ rfl; have pq6 := H1.cell 6 _ rfl; have pq7 := H1.cell 7 _ rfl; have zq := H1.lt
    go_wp2_with (go_at_call 54; refine (unhide qn _).mono ?_; rintro e w' ⟨rfl, rfl⟩)
    refine (unhide qe _ (unhide HB1)).mono ?_; rintro e w6 ⟨rfl, hb6⟩
    have H6 := H1.call hb6
    have HB6 := hide ((unhide HB1).trans (hb6.mono (unhide HB1).size))
    clear hb6 H1 pq0 pq1 pq2 pq3 pq4 pq5 pq6 pq7 zq
    have pq0 := H6.cell 0 _ rfl; have pq1 := H6.cell 1 _ rfl; have pq2 := H6.cell 2 _ rfl; have pq3 := H6.cell 3 _ rfl; have pq4 := H6.cell 4 _ rfl; have pq5 := H6.cell 5 _ rfl; have pq6 := H6.cell 6 _ rfl; have pq7 := H6.cell 7 _ rfl; have zq := H6.lt
    go_wp2_with fail
    refine (unhide q2a _ _ (by decide) hel _ (unhide HB6)).mono ?_; rintro e w5 ⟨rfl, hb5⟩
    have HB5 := hide ((unhide HB6).trans (hb5.mono (unhide HB6).size))
    clear hb5
    go_wp2_with fail
    go_ret2
    exact out_at hE3.out (unhide HB5)
end Go.Proofs.YtbpopmbabckojaaGreatDoor.Sp
end

/- The walk of the law EmitCalls. -/
section
namespace Go.Proofs.YtbpopmbabckojaaGreatDoor.Sp
open Go.RowKit Sl

theorem few_nil : Few [] := ⟨by simp, by simp⟩
theorem res_closed (re bo m out : ByteArray) (st mi n : Int) (h3 : re.size ≤ 1000000) (h4 : bo.size ≤ 1000000) (h : resS ⟨#[]⟩ ⟨#[]⟩ re bo st mi [] [] m = (out, n)) (w : World) (hT : Pow10 w) :
    Calls Tryz.prog 11 #[.agg #[.string ⟨#[]⟩, .string ⟨#[]⟩, .int .i64 st, .string re, .int .i64 mi, .slice none 0 0, .string bo, .slice none 0 0], .string m] w fun e w' => e = .returned (.tuple #[.string out, .int .i64 n]) ∧ Below w.heap.size w w' := by
  refine (eres_any ⟨#[]⟩ ⟨#[]⟩ re bo m st mi (.slice none 0 0) (.slice none 0 0) [] [] (by decide) (by decide) h3 h4 (lineS_len _ _ _ _ _ (by decide) (by decide) h3) few_nil few_nil w hT (Rd.nil _ _) (Rd.nil _ _)).mono ?_
  rintro e w' ⟨he, hb⟩
  rw [h] at he
  exact ⟨he, hb⟩

theorem live1 : resS ⟨#[]⟩ ⟨#[]⟩ ⟨#[120]⟩ ⟨#[97]⟩ 204 1 [] [] ⟨#[71, 69, 84]⟩ = (⟨#[72, 84, 84, 80, 47, 49, 46, 49, 32, 50, 48, 52, 32, 120, 13, 10, 13, 10]⟩, 0) := by
  unfold resS emC lineS headM putS noneI headB
  simp only [Lib.toList_data]
  decide +kernel
theorem live2 : resS ⟨#[]⟩ ⟨#[]⟩ ⟨#[120]⟩ ⟨#[97]⟩ 200 1 [] [] ⟨#[71, 69, 84]⟩ = (⟨#[72, 84, 84, 80, 47, 49, 46, 49, 32, 50, 48, 48, 32, 120, 13, 10, 67, 111, 110, 116, 101, 110, 116, 45, 76, 101, 110, 103, 116, 104, 58, 32, 49, 13, 10, 13, 10, 97]⟩, 0) := by
  unfold resS emC lineS headM putS noneI headB
  simp only [Lib.toList_data]
  decide +kernel

set_option maxRecDepth 100000 in
set_option maxHeartbeats 1000000 in
theorem lives8_any (w : World) (hT : Pow10 w) : Calls Tryz.prog 8 #[] w fun e w' => e = .returned (.bool true) ∧ Below w.heap.size w w' := by
  have q1 := hide (res_closed _ _ _ _ _ _ _ (by decide) (by decide) live1 w hT)
  have q2 := hide (fun w1 (hb : Below w.heap.size w w1) => res_closed _ _ _ _ _ _ _ (by decide) (by decide) live2 w1 (hT.below hb))
  clear hT
  go_enter Tryz.func8, Tryz.ntmps8
  go_wp2_with fail
  refine (unhide q1).mono ?_; rintro e w1 ⟨rfl, hb1⟩
  have HB1 := hide hb1
  clear hb1
  go_wp2_with fail
  refine (unhide q2 _ (unhide HB1)).mono ?_; rintro e w2 ⟨rfl, hb2⟩
  have HB2 := hide ((unhide HB1).trans (hb2.mono (unhide HB1).size))
  clear hb2
  go_wp2_with fail
  go_ret
  exact ⟨rfl, unhide HB2⟩
end Go.Proofs.YtbpopmbabckojaaGreatDoor.Sp
end
