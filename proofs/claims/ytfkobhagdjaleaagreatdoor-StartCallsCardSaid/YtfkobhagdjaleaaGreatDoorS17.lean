/- The walk of the law StartCalls. -/
import Derived.Test.YtfkobhagdjaleaaGreatDoorS16
import Derived.Test.YtfkobhagdjaleaaGreatDoorS12
import Derived.Test.YtfkobhagdjaleaaGreatDoorS4
namespace Go.Proofs.YtfkobhagdjaleaaGreatDoor.Sp
open Go.RowKit Sl

set_option maxRecDepth 100000 in
set_option maxHeartbeats 8000000 in
theorem scalls_any (s m t r : ByteArray) (n st : Int) (w : World) (hT : Pow10 w) (hM : MaxV w) (hE : RangeV w) :
    Calls Tryz.prog 4 #[.string s, .string m, .string t, .string r, .int .i64 n, .int .i64 st] w fun e w' => e = .returned (.bool true) ∧ Below w.heap.size w w' := by
  have c0 := hide (lives_any w hM)
  have HT := hide hT
  have HM := hide hM
  have HE := hide hE
  clear hT hM hE
  by_cases hbig : s.size ≤ 200 ∧ m.size ≤ 200 ∧ t.size ≤ 200 ∧ r.size ≤ 200
  rotate_left
  · have hb : (decide ((200 : Int) < (s.size : Int)) = true) ∨ (decide ((200 : Int) < (s.size : Int)) = false ∧ decide ((200 : Int) < (m.size : Int)) = true) ∨ (decide ((200 : Int) < (s.size : Int)) = false ∧ decide ((200 : Int) < (m.size : Int)) = false ∧ decide ((200 : Int) < (t.size : Int)) = true) ∨ (decide ((200 : Int) < (s.size : Int)) = false ∧ decide ((200 : Int) < (m.size : Int)) = false ∧ decide ((200 : Int) < (t.size : Int)) = false ∧ decide ((200 : Int) < (r.size : Int)) = true) := by
      by_cases k1 : 200 < s.size
      · exact .inl (decide_eq_true (by omega))
      · by_cases k2 : 200 < m.size
        · exact .inr (.inl ⟨decide_eq_false (by omega), decide_eq_true (by omega)⟩)
        · by_cases k3 : 200 < t.size
          · exact .inr (.inr (.inl ⟨decide_eq_false (by omega), decide_eq_false (by omega), decide_eq_true (by omega)⟩))
          · exact .inr (.inr (.inr ⟨decide_eq_false (by omega), decide_eq_false (by omega), decide_eq_false (by omega), decide_eq_true (by omega)⟩))
    clear hbig
    rcases hb with g1 | ⟨g1, g2⟩ | ⟨g1, g2, g3⟩ | ⟨g1, g2, g3, g4⟩
    all_goals
      go_enter Tryz.func4, Tryz.ntmps4
      go_wp2_with fail
      refine (unhide c0).mono ?_; rintro e w1 ⟨rfl, hb1⟩
      go_wp2_with fail
      go_ret
      exact ⟨rfl, hb1⟩
  obtain ⟨zs, zm, zt, zr⟩ := hbig
  have g1 : decide ((200 : Int) < (s.size : Int)) = false := decide_eq_false (by omega)
  have g2 : decide ((200 : Int) < (m.size : Int)) = false := decide_eq_false (by omega)
  have g3 : decide ((200 : Int) < (t.size : Int)) = false := decide_eq_false (by omega)
  have g4 : decide ((200 : Int) < (r.size : Int)) = false := decide_eq_false (by omega)
  have q1 := hide (fun w hM => request_any s (by omega) w hM)
  have q2 := hide (fun w => rrequest_any s (by omega) w)
  have q3 := hide (fun w hM hE => status_any s (by omega) w hM hE)
  have q4 := hide (fun w => rstatus_any s (by omega) w)
  have q5 := hide (fun w => target_any m t (by omega) w)
  have q6 := hide (fun w => rtarget_any m t (by omega) w)
  have q7 := hide (fun w hT => reqLine_any m t n (by omega) (by omega) w hT)
  have q8 := hide (fun w => rreqLine_any m t n (by omega) (by omega) w)
  have q9 := hide (fun w hT => statLine_any n st r (by omega) w hT)
  have q10 := hide (fun w => rstatLine_any n st r (by omega) w)
  have q11 := hide (fun w => host_any s (by omega) w)
  have q12 := hide (fun w => rhost_any s (by omega) w)
  unfold ReqPost at q1 q2
  unfold StPost at q3 q4
  unfold TgtPost at q5 q6
  generalize (req s.data.toList) = R at q1 q2
  generalize (stS s.data.toList) = S at q3 q4
  generalize (tgt m.data.toList t.data.toList) = T at q5 q6
  generalize (rlS m.data.toList t.data.toList n) = X at q7 q8
  generalize (slS n st r.data.toList) = Y at q9 q10
  generalize (portS s.data.toList).2 = Z at q11 q12
  obtain ⟨a, ha⟩ : ∃ a : ByteArray, (⟨R.1.toArray⟩ : ByteArray) = a := ⟨_, rfl⟩
  obtain ⟨b, hb⟩ : ∃ a : ByteArray, (⟨R.2.1.toArray⟩ : ByteArray) = a := ⟨_, rfl⟩
  obtain ⟨c, hc⟩ : ∃ a, R.2.2.1 = a := ⟨_, rfl⟩
  obtain ⟨d, hd⟩ : ∃ a, R.2.2.2 = a := ⟨_, rfl⟩
  rw [ha, hb, hc, hd] at q1 q2
  obtain ⟨i, hi⟩ : ∃ a, S.1 = a := ⟨_, rfl⟩
  obtain ⟨j, hj⟩ : ∃ a, S.2.1 = a := ⟨_, rfl⟩
  obtain ⟨k, hk⟩ : ∃ a, ofL S.2.2.1 = a := ⟨_, rfl⟩
  obtain ⟨l, hl⟩ : ∃ a, S.2.2.2 = a := ⟨_, rfl⟩
  rw [hi, hj, hk, hl] at q3 q4
  obtain ⟨f, hf⟩ : ∃ a, T.1.1 = a := ⟨_, rfl⟩
  obtain ⟨h, hh⟩ : ∃ a : ByteArray, (⟨T.1.2.1.toArray⟩ : ByteArray) = a := ⟨_, rfl⟩
  obtain ⟨p, hp⟩ : ∃ a : ByteArray, (⟨T.1.2.2.toArray⟩ : ByteArray) = a := ⟨_, rfl⟩
  obtain ⟨o, ho⟩ : ∃ a, T.2 = a := ⟨_, rfl⟩
  rw [hf, hh, hp, ho] at q5 q6
  obtain ⟨x, hx⟩ : ∃ a, ofL X.1 = a := ⟨_, rfl⟩
  obtain ⟨x2, hx2⟩ : ∃ a, X.2 = a := ⟨_, rfl⟩
  rw [hx, hx2] at q7 q8
  obtain ⟨y, hy⟩ : ∃ a, ofL Y.1 = a := ⟨_, rfl⟩
  obtain ⟨y2, hy2⟩ : ∃ a, Y.2 = a := ⟨_, rfl⟩
  rw [hy, hy2] at q9 q10
  clear ha hb hc hd hi hj hk hl hf hh hp ho hx hx2 hy hy2 zs zm zt zr
  go_enter Tryz.func4, Tryz.ntmps4
  go_wp2_with fail
  refine (unhide c0).mono ?_; rintro e w1 ⟨rfl, hb1⟩
  have HB := hide hb1
  clear hb1 c0
  go_wp2_with fail
  refine (unhide q1 _ ((unhide HM).below (unhide HB))).mono ?_; rintro e w2 ⟨rfl, hb2⟩
  have HB := hide ((unhide HB).trans (hb2.mono (unhide HB).size))
  clear hb2 q1
  go_wp2_with fail
  refine (unhide q2 _).mono ?_; rintro e w3 ⟨rfl, hb3⟩
  have HB := hide ((unhide HB).trans (hb3.mono (unhide HB).size))
  clear hb3 q2
  go_wp2_with fail
  refine (unhide q3 _ ((unhide HM).below (unhide HB)) ((unhide HE).below (unhide HB))).mono ?_; rintro e w4 ⟨rfl, hb4⟩
  have HB := hide ((unhide HB).trans (hb4.mono (unhide HB).size))
  clear hb4 q3
  go_wp2_with fail
  refine (unhide q4 _).mono ?_; rintro e w5 ⟨rfl, hb5⟩
  have HB := hide ((unhide HB).trans (hb5.mono (unhide HB).size))
  clear hb5 q4
  go_wp2_with fail
  refine (unhide q5 _).mono ?_; rintro e w6 ⟨rfl, hb6⟩
  have HB := hide ((unhide HB).trans (hb6.mono (unhide HB).size))
  clear hb6 q5
  go_wp2_with fail
  have H6 := hide (Reg.Has.at w6 w6.heap.size [.int .i64 f, .string h, .string p] 32 rfl)
  have HB := hide ((unhide HB).alloc (unhide HB).size (.cells #[.int .i64 f, .string h, .string p] 32))
  generalize hw7 : w6.alloc (.cells #[.int .i64 f, .string h, .string p] 32) = w7 at *
  clear hw7
  generalize hb6 : w6.heap.size = b6 at *
  clear hb6
  refine (unhide q6 _).mono ?_; rintro e w8 ⟨rfl, hb8⟩
  have H6 := hide ((unhide H6).call hb8)
  have HB := hide ((unhide HB).trans (hb8.mono (unhide HB).size))
  clear hb8 q6
  go_wp2_with fail
  have H8 := hide (Reg.Has.at w8 w8.heap.size [.int .i64 f, .string h, .string p] 32 rfl)
  have H6 := hide ((unhide H6).alloc (.cells #[.int .i64 f, .string h, .string p] 32))
  have HB := hide ((unhide HB).alloc (unhide HB).size (.cells #[.int .i64 f, .string h, .string p] 32))
  generalize hw9 : w8.alloc (.cells #[.int .i64 f, .string h, .string p] 32) = w9 at *
  clear hw9
  generalize hb9 : w8.heap.size = b9 at *
  clear hb9
  refine (unhide q7 _ ((unhide HT).below (unhide HB))).mono ?_; rintro e w10 ⟨rfl, hb10⟩
  have H6 := hide ((unhide H6).call hb10)
  have H8 := hide ((unhide H8).call hb10)
  have HB := hide ((unhide HB).trans (hb10.mono (unhide HB).size))
  clear hb10 q7
  go_wp2_with fail
  refine (unhide q8 _).mono ?_; rintro e w11 ⟨rfl, hb11⟩
  have H6 := hide ((unhide H6).call hb11)
  have H8 := hide ((unhide H8).call hb11)
  have HB := hide ((unhide HB).trans (hb11.mono (unhide HB).size))
  clear hb11 q8
  go_wp2_with fail
  refine (unhide q9 _ ((unhide HT).below (unhide HB))).mono ?_; rintro e w12 ⟨rfl, hb12⟩
  have H6 := hide ((unhide H6).call hb12)
  have H8 := hide ((unhide H8).call hb12)
  have HB := hide ((unhide HB).trans (hb12.mono (unhide HB).size))
  clear hb12 q9
  go_wp2_with fail
  refine (unhide q10 _).mono ?_; rintro e w13 ⟨rfl, hb13⟩
  have H6 := (unhide H6).call hb13
  have H8 := (unhide H8).call hb13
  have HB := hide ((unhide HB).trans (hb13.mono (unhide HB).size))
  clear hb13 q10
  have pa := H6.cell 0 _ rfl; have qa := H6.cell 1 _ rfl; have ra := H6.cell 2 _ rfl; have ua := H6.free 0 (by simp); have va := H6.free 1 (by simp); have xa := H6.free 2 (by simp); have za := H6.lt
  have pb := H8.cell 0 _ rfl; have qb := H8.cell 1 _ rfl; have rb := H8.cell 2 _ rfl; have ub := H8.free 0 (by simp); have vb := H8.free 1 (by simp); have xb := H8.free 2 (by simp); have zb := H8.lt
  go_wp2_with fail
  refine (unhide q11 _).mono ?_; rintro e w14 ⟨rfl, rfl⟩
  go_wp2_with fail
  refine (unhide q12 _).mono ?_; rintro e w15 ⟨rfl, rfl⟩
  go_wp2_with fail
  go_ret
  exact ⟨rfl, unhide HB⟩
end Go.Proofs.YtfkobhagdjaleaaGreatDoor.Sp
