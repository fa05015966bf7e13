/- The walk of the law StartBack. -/
import Derived.Test.YtfkobhagdjaleaaGreatDoorS3
import Derived.Test.YtfkobhagdjaleaaGreatDoorA9
namespace Go.Proofs.YtfkobhagdjaleaaGreatDoor.Sp
open Go.RowKit Sl

theorem req_len (l : List UInt8) : (req l).1.length ≤ l.length ∧ (req l).2.1.length ≤ l.length := by
  have h1 := cutS_len 32 l
  have h2 := cutS_len 32 (cutS 32 l).2.1
  unfold req
  split
  · split
    · exact ⟨h1.1, Nat.le_trans h2.1 h1.2⟩
    · simp
  · simp
theorem stS_len (l : List UInt8) : (stS l).2.2.1.length ≤ l.length := by
  have h1 := cutS_len 32 l
  have h2 := cutS_len 32 (cutS 32 l).2.1
  unfold stS
  split
  · exact Nat.le_trans h2.2 h1.2
  · simp
theorem rlT_len (m t : List UInt8) (n : Int) (h0 : 0 ≤ n) (h1 : n ≤ 1) : (rlT m t n).length ≤ m.length + t.length + 30 := by
  unfold rlT httpV
  have : n = 0 ∨ n = 1 := by omega
  rcases this with rfl | rfl <;> simp [List.length_append, show (Lib.itoa 0).length = 1 by decide +kernel, show (Lib.itoa 1).length = 1 by decide +kernel] <;> omega
theorem slT_len (n st : Int) (r : List UInt8) (h : slOK n st r) : (slT n st r).length ≤ r.length + 30 := by
  obtain ⟨h0, h1, h2, h3, _⟩ := h
  have hi := (itoa_st h2 h3).1
  unfold slT httpV
  have : n = 0 ∨ n = 1 := by omega
  rcases this with rfl | rfl <;> simp [List.length_append, hi, show (Lib.itoa 0).length = 1 by decide +kernel, show (Lib.itoa 1).length = 1 by decide +kernel] <;> omega

theorem request_of (s a b : ByteArray) (c d : Int) (h : req s.data.toList = (a.data.toList, b.data.toList, c, d)) (hs : s.size < 4294967281) (w : World) (hM : MaxV w) :
    Calls Tryz.prog 8 #[.string s] w fun e w' => e = .returned (.tuple #[.string a, .string b, .int .i64 c, .int .i64 d]) ∧ Below w.heap.size w w' := request_at s a b c d h hs w hM
theorem status_of (s j : ByteArray) (h i k : Int) (hst : stS s.data.toList = (h, i, j.data.toList, k)) (hs : s.size ≤ 1000000) (w : World) (hM : MaxV w) (hE : RangeV w) :
    Calls Tryz.prog 7 #[.string s] w fun e w' => e = .returned (.tuple #[.int .i64 h, .int .i64 i, .string j, .int .i64 k]) ∧ Below w.heap.size w w' := by
  refine (status_any s hs w hM hE).mono ?_
  rintro e w' ⟨rfl, hb⟩
  rw [hst]
  exact ⟨rfl, hb⟩

set_option maxRecDepth 100000 in
set_option maxHeartbeats 8000000 in
theorem sback_any (m t r : ByteArray) (n st : Int) (s : ByteArray) (w : World) (hT : Pow10 w) (hM : MaxV w) (hE : RangeV w) :
    Calls Tryz.prog 5 #[.string m, .string t, .string r, .int .i64 n, .int .i64 st, .string s] w fun e w' => e = .returned (.bool true) ∧ Below w.heap.size w w' := by
  have c0 := hide (lives_any w hM)
  have HT := hide hT
  have HM := hide hM
  have HE := hide hE
  clear hT hM hE
  by_cases hbig : s.size ≤ 200 ∧ m.size ≤ 200 ∧ t.size ≤ 200 ∧ r.size ≤ 200
  rotate_left
  · have hb : (decide ((200 : Int) < (s.size : Int)) = true) ∨ (decide ((200 : Int) < (s.size : Int)) = false ∧ decide ((200 : Int) < (m.size : Int)) = true) ∨ (decide ((200 : Int) < (s.size : Int)) = false ∧ decide ((200 : Int) < (m.size : Int)) = false ∧ decide ((200 : Int) < (t.size : Int)) = true) ∨ (decide ((200 : Int) < (s.size : Int)) = false ∧ decide ((200 : Int) < (m.size : Int)) = false ∧ decide ((200 : Int) < (t.size : Int)) = false ∧ decide ((200 : Int) < (r.size : Int)) = true) := by
      by_cases k1 : 200 < s.size
      · exact .inl (decide_eq_true (by omega))
      · by_cases k2 : 200 < m.size
        · exact .inr (.inl ⟨decide_eq_false (by omega), decide_eq_true (by omega)⟩)
        · by_cases k3 : 200 < t.size
          · exact .inr (.inr (.inl ⟨decide_eq_false (by omega), decide_eq_false (by omega), decide_eq_true (by omega)⟩))
          · exact .inr (.inr (.inr ⟨decide_eq_false (by omega), decide_eq_false (by omega), decide_eq_false (by omega), decide_eq_true (by omega)⟩))
    clear hbig
    rcases hb with g1 | ⟨g1, g2⟩ | ⟨g1, g2, g3⟩ | ⟨g1, g2, g3, g4⟩
    all_goals
      go_enter Tryz.func5, Tryz.ntmps5
      go_wp2_with fail
      refine (unhide c0).mono ?_; rintro e w1 ⟨rfl, hb1⟩
      go_wp2_with fail
      go_ret
      exact ⟨rfl, hb1⟩
  obtain ⟨zs, zm, zt, zr⟩ := hbig
  have g1 : decide ((200 : Int) < (m.size : Int)) = false := decide_eq_false (by omega)
  have g2 : decide ((200 : Int) < (t.size : Int)) = false := decide_eq_false (by omega)
  have g3 : decide ((200 : Int) < (r.size : Int)) = false := decide_eq_false (by omega)
  have g4 : decide ((200 : Int) < (s.size : Int)) = false := decide_eq_false (by omega)
  have lm : m.data.toList.length = m.size := by simp
  have lt : t.data.toList.length = t.size := by simp
  have lr : r.data.toList.length = r.size := by simp
  have ls : s.data.toList.length = s.size := by simp
  -- the last four calls
  have hlen := req_len s.data.toList
  have hlen2 := stS_len s.data.toList
  obtain ⟨a, ha⟩ := of_list (req s.data.toList).1
  obtain ⟨b, hb⟩ := of_list (req s.data.toList).2.1
  obtain ⟨c, hc⟩ : ∃ c, (req s.data.toList).2.2.1 = c := ⟨_, rfl⟩
  obtain ⟨d, hd⟩ : ∃ d, (req s.data.toList).2.2.2 = d := ⟨_, rfl⟩
  have hreq : req s.data.toList = (a.data.toList, b.data.toList, c, d) := by rw [ha, hb, ← hc, ← hd]
  have za : a.size ≤ 200 := by rw [size_list ha]; omega
  have zb : b.size ≤ 200 := by rw [size_list hb]; omega
  obtain ⟨h, hh⟩ : ∃ h, (stS s.data.toList).1 = h := ⟨_, rfl⟩
  obtain ⟨i, hi⟩ : ∃ i, (stS s.data.toList).2.1 = i := ⟨_, rfl⟩
  obtain ⟨j, hj⟩ := of_list (stS s.data.toList).2.2.1
  obtain ⟨k, hk⟩ : ∃ k, (stS s.data.toList).2.2.2 = k := ⟨_, rfl⟩
  have hsts : stS s.data.toList = (h, i, j.data.toList, k) := by rw [hj, ← hh, ← hi, ← hk]
  have zj : j.size ≤ 200 := by rw [size_list hj]; omega
  have q3 := hide (fun w hM => request_of s a b c d hreq (by omega) w hM)
  have q4 := hide (fun w hT => reqLine_any a b c (by omega) (by omega) w hT)
  have q5 := hide (fun w hM hE => status_of s j h i k hsts (by omega) w hM hE)
  have q6 := hide (fun w hT => statLine_any h i j (by omega) w hT)
  obtain ⟨X, hX⟩ : ∃ X, ofL (rlS a.data.toList b.data.toList c).1 = X := ⟨_, rfl⟩
  obtain ⟨g, hg⟩ : ∃ g, (rlS a.data.toList b.data.toList c).2 = g := ⟨_, rfl⟩
  obtain ⟨Y, hY⟩ : ∃ Y, ofL (slS h i j.data.toList).1 = Y := ⟨_, rfl⟩
  obtain ⟨o, ho⟩ : ∃ o, (slS h i j.data.toList).2 = o := ⟨_, rfl⟩
  rw [hX, hg] at q4
  rw [hY, ho] at q6
  have hfin : ((d != 0) = false ∧ (d == 0) = true ∧ (g == 0) = true ∧ (X.toList == s.toList) = true ∧ (k != 0) = true) ∨
      ((d != 0) = true ∧ (d == 0) = false ∧ (a.toList.isEmpty = true ∧ b.toList.isEmpty = true) ∧ (k != 0) = true) ∨
      ((d != 0) = true ∧ (d == 0) = false ∧ (a.toList.isEmpty = true ∧ b.toList.isEmpty = true) ∧ (k != 0) = false ∧ (o == 0) = true ∧ (Y.toList == s.toList) = true) := by
    by_cases hd0 : d = 0
    · have h0 : (req s.data.toList).2.2.2 = 0 := by rw [hd]; exact hd0
      have h1 := req_fwd h0
      rw [← ha, ← hb, hc] at h1
      have hns := not_both h0
      have hk4 : k = 4 := by rw [← hk, stS_no hns]
      refine .inl ⟨by rw [hd0]; rfl, by rw [hd0]; rfl, by rw [← hg, h1]; rfl, ?_, by rw [hk4]; rfl⟩
      rw [← hX, h1]
      show ((ofL s.data.toList).toList == s.toList) = true
      rw [ofL_of]; simp
    · have h0 : (req s.data.toList).2.2.2 ≠ 0 := by rw [hd]; exact hd0
      obtain ⟨e1, e2⟩ := req_none h0
      have ea : a.toList.isEmpty = true := by rw [Lib.toList_data, ha, e1]; rfl
      have eb : b.toList.isEmpty = true := by rw [Lib.toList_data, hb, e2]; rfl
      by_cases hs : stOK s.data.toList
      · have h1 := stat_fwd hs
        rw [hh, hi, ← hj] at h1
        have hk0 : k = 0 := by rw [← hk, stS_ok hs]
        refine .inr (.inr ⟨by simpa using hd0, by simpa using hd0, ⟨ea, eb⟩, by rw [hk0]; rfl, by rw [← ho, h1]; rfl, ?_⟩)
        rw [← hY, h1]
        show ((ofL s.data.toList).toList == s.toList) = true
        rw [ofL_of]; simp
      · have hk4 : k = 4 := by rw [← hk, stS_no hs]
        exact .inr (.inl ⟨by simpa using hd0, by simpa using hd0, ⟨ea, eb⟩, by rw [hk4]; rfl⟩)
  -- the first four
  have q1 := hide (fun w hT => reqLine_any m t n (by omega) (by omega) w hT)
  have q2 := hide (fun w hT => statLine_any n st r (by omega) w hT)
  have hA : (rlS m.data.toList t.data.toList n = ([], 4)) ∨ (∃ L : ByteArray, rlS m.data.toList t.data.toList n = (L.data.toList, 0) ∧ L.size ≤ 1000 ∧ req L.data.toList = (m.data.toList, t.data.toList, n, 0)) := by
    by_cases hok : rlOK m.data.toList t.data.toList n
    · refine .inr ⟨ofL (rlT m.data.toList t.data.toList n), by unfold rlS; rw [if_pos hok]; rfl, ?_, ?_⟩
      · have h1 := rlT_len m.data.toList t.data.toList n hok.2.2.1 hok.2.2.2
        rw [size_list (l := rlT m.data.toList t.data.toList n) rfl]; omega
      · exact back_req hok
    · exact .inl (by unfold rlS; rw [if_neg hok])
  have hB : (slS n st r.data.toList = ([], 4)) ∨ (∃ L : ByteArray, slS n st r.data.toList = (L.data.toList, 0) ∧ L.size ≤ 1000 ∧ stS L.data.toList = (n, st, r.data.toList, 0)) := by
    by_cases hok : slOK n st r.data.toList
    · refine .inr ⟨ofL (slT n st r.data.toList), by unfold slS; rw [if_pos hok]; rfl, ?_, ?_⟩
      · have h1 := slT_len n st r.data.toList hok
        rw [size_list (l := slT n st r.data.toList) rfl]; omega
      · exact back_stat hok
    · exact .inl (by unfold slS; rw [if_neg hok])
  have hA2 : (∃ F : Hid (∀ w, Pow10 w → Calls Tryz.prog 9 #[.string m, .string t, .int .i64 n] w fun e w' => e = .returned (.tuple #[.string ⟨#[]⟩, .int .i64 4]) ∧ Below w.heap.size w w'), True) ∨
      (∃ (L : ByteArray) (F : Hid (∀ w, Pow10 w → Calls Tryz.prog 9 #[.string m, .string t, .int .i64 n] w fun e w' => e = .returned (.tuple #[.string L, .int .i64 0]) ∧ Below w.heap.size w w'))
        (G : Hid (∀ w, MaxV w → Calls Tryz.prog 8 #[.string L] w fun e w' => e = .returned (.tuple #[.string m, .string t, .int .i64 n, .int .i64 0]) ∧ Below w.heap.size w w')), True) := by
    rcases hA with h1 | ⟨L, h1, h2, h3⟩
    · rw [h1] at q1
      exact .inl ⟨q1, trivial⟩
    · rw [h1] at q1
      exact .inr ⟨L, q1, hide (fun w hM => request_of L m t n 0 h3 (by omega) w hM), trivial⟩
  have hB2 : (∃ F : Hid (∀ w, Pow10 w → Calls Tryz.prog 10 #[.int .i64 n, .int .i64 st, .string r] w fun e w' => e = .returned (.tuple #[.string ⟨#[]⟩, .int .i64 4]) ∧ Below w.heap.size w w'), True) ∨
      (∃ (L : ByteArray) (F : Hid (∀ w, Pow10 w → Calls Tryz.prog 10 #[.int .i64 n, .int .i64 st, .string r] w fun e w' => e = .returned (.tuple #[.string L, .int .i64 0]) ∧ Below w.heap.size w w'))
        (G : Hid (∀ w, MaxV w → RangeV w → Calls Tryz.prog 7 #[.string L] w fun e w' => e = .returned (.tuple #[.int .i64 n, .int .i64 st, .string r, .int .i64 0]) ∧ Below w.heap.size w w')), True) := by
    rcases hB with h1 | ⟨L, h1, h2, h3⟩
    · rw [h1] at q2
      exact .inl ⟨q2, trivial⟩
    · rw [h1] at q2
      exact .inr ⟨L, q2, hide (fun w hM hE => status_of L r n st 0 h3 (by omega) w hM hE), trivial⟩
  clear hA hB q1 q2 ha hb hc hd hreq za zb hh hi hj hk hsts zj hX hg hY ho hlen hlen2 lm lt lr ls zs zm zt zr
  rcases hA2 with ⟨F1, _⟩ | ⟨L, F1, G1, _⟩
  all_goals
    go_enter Tryz.func5, Tryz.ntmps5
    go_wp2_with fail
    refine (unhide c0).mono ?_; rintro e w1 ⟨rfl, hb1⟩
    have HB := hide hb1
    clear hb1
    go_wp2_with fail
    refine (unhide F1 _ ((unhide HT).below (unhide HB))).mono ?_; rintro e w2 ⟨rfl, hb2⟩
    have HB := hide ((unhide HB).trans (hb2.mono (unhide HB).size))
    clear hb2
    go_wp2_with fail
    try (refine (unhide G1 _ ((unhide HM).below (unhide HB))).mono ?_; rintro e w3 ⟨rfl, hb3⟩; have HB := hide ((unhide HB).trans (hb3.mono (unhide HB).size)); clear hb3; go_wp2_with fail)
    rcases hB2 with ⟨F2, _⟩ | ⟨L2, F2, G2, _⟩
    all_goals
      refine (unhide F2 _ ((unhide HT).below (unhide HB))).mono ?_; rintro e w4 ⟨rfl, hb4⟩
      have HB := hide ((unhide HB).trans (hb4.mono (unhide HB).size))
      clear hb4
      go_wp2_with fail
      try (refine (unhide G2 _ ((unhide HM).below (unhide HB)) ((unhide HE).below (unhide HB))).mono ?_; rintro e w5 ⟨rfl, hb5⟩; have HB := hide ((unhide HB).trans (hb5.mono (unhide HB).size)); clear hb5; go_wp2_with fail)
      refine (unhide q3 _ ((unhide HM).below (unhide HB))).mono ?_; rintro e w6 ⟨rfl, hb6⟩
      have HB := hide ((unhide HB).trans (hb6.mono (unhide HB).size))
      clear hb6
      go_wp2_with fail
      refine (unhide q4 _ ((unhide HT).below (unhide HB))).mono ?_; rintro e w7 ⟨rfl, hb7⟩
      have HB := hide ((unhide HB).trans (hb7.mono (unhide HB).size))
      clear hb7
      go_wp2_with fail
      refine (unhide q5 _ ((unhide HM).below (unhide HB)) ((unhide HE).below (unhide HB))).mono ?_; rintro e w8 ⟨rfl, hb8⟩
      have HB := hide ((unhide HB).trans (hb8.mono (unhide HB).size))
      clear hb8
      go_wp2_with fail
      refine (unhide q6 _ ((unhide HT).below (unhide HB))).mono ?_; rintro e w9 ⟨rfl, hb9⟩
      have HB := hide ((unhide HB).trans (hb9.mono (unhide HB).size))
      clear hb9
      rcases hfin with ⟨f1, f2, f3, f4, f5⟩ | ⟨f1, f2, ⟨f3, f4⟩, f5⟩ | ⟨f1, f2, ⟨f3, f4⟩, f5, f6, f7⟩
      all_goals
        go_wp2_with fail
        go_ret
        exact ⟨rfl, unhide HB⟩
end Go.Proofs.YtfkobhagdjaleaaGreatDoor.Sp
