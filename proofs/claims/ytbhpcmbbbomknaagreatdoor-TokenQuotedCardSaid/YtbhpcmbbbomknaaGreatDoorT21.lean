/- The walk of the law TokenQuoted. -/
import Derived.Test.YtbhpcmbbbomknaaGreatDoorT20
import Derived.Test.YtbhpcmbbbomknaaGreatDoorT11
import Derived.Test.YtbhpcmbbbomknaaGreatDoorCh
import Derived.Test.YtbhpcmbbbomknaaGreatDoorO7
namespace Go.Proofs.YtbhpcmbbbomknaaGreatDoor.Sp
open Go.RowKit Sl

/-- a new row of one byte -/
theorem Own.one (w : World) (c : UInt8) : Own w (w.alloc (.cells #[.int .u8 c.toNat] 5)) w.heap.size 5 1 (.slice (some ⟨w.heap.size, 0, none⟩) 1 1) 1 (Mem.bytesV [c]) := by
  refine ⟨⟨rfl, .inr ⟨w.heap.size, 1, #[.int .u8 c.toNat], rfl, Nat.le_refl _, alloc_at _ _, Nat.le_refl _, ?_, ?_, ?_⟩⟩, (Below.refl _ _).alloc (Nat.le_refl _) _, by simp⟩
  all_goals first | (unfold maxLen; omega) | rfl | simp [Mem.bytesV]

set_option maxRecDepth 100000 in
set_option maxHeartbeats 4000000 in
theorem quoted_any (s m : ByteArray) (w : World) (ht : Pow10 w) :
    Calls Tryz.prog 3 #[.string s, .string m] w fun e w' => e = .returned (.bool true) ∧ Below w.heap.size w w' := by
  have c0 := hide (lives_any w ht)
  by_cases hbig : 200 < s.size ∨ 200 < m.size
  · have hb : decide ((200 : Int) < (s.size : Int)) = true ∨ (decide ((200 : Int) < (s.size : Int)) = false ∧ decide ((200 : Int) < (m.size : Int)) = true) := by
      by_cases h : 200 < s.size
      · exact .inl (by simp; omega)
      · exact .inr ⟨by simp; omega, by simp; omega⟩
    clear hbig ht
    rcases hb with hb | ⟨hb, hb2⟩
    all_goals
      go_enter Tryz.func3, Tryz.ntmps3
      go_wp2_with fail
      refine (unhide c0).mono ?_; rintro e w1 ⟨rfl, hb1⟩
      go_wp2_with fail
      go_ret
      exact ⟨rfl, hb1⟩
  · have hs : s.size ≤ 200 := by omega
    have hm : m.size ≤ 200 := by omega
    have hb : decide ((200 : Int) < (s.size : Int)) = false := by simp; omega
    have hb2 : decide ((200 : Int) < (m.size : Int)) = false := by simp; omega
    have hl : s.data.toList.length = s.size := by simp
    have HL := Lib.hid hl
    have cch := hide (fun w => chars_any s (by omega) w)
    have hq2 := quoted2 s.data.toList
    obtain ⟨A, hA⟩ := of_list (34 :: (esc2 s.data.toList ++ [34]))
    have zA : A.size ≤ 500 := by
      rw [size_list hA, List.length_cons, List.length_append, esc2_len, hl]
      simp; omega
    have cu := hide (fun w => unquote_any A (by omega) w)
    rw [hA, hq2] at cu
    have HA := Lib.hid hA
    have cqok := hide (fun hok w => quote_ok s (by omega) hok w)
    have cqno := hide (fun hok w => quote_no s (by omega) hok w)
    have hqd : (quoS s).data.toList = 34 :: (esc s.data.toList ++ [34]) := by
      unfold quoS
      rw [app_data, app_data]
      rfl
    have hqz : (quoS s).size ≤ 500 := by
      have h1 := esc_size s
      rw [size_list hqd, List.length_cons, List.length_append]
      simp; omega
    obtain ⟨Q, hQ⟩ : ∃ Q, quoS s = Q := ⟨_, rfl⟩
    rw [hQ] at hqd hqz cqok
    obtain ⟨QM, hQM⟩ : ∃ QM, Q ++ m = QM := ⟨_, rfl⟩
    obtain ⟨B, hB⟩ : ∃ B, QM ++ ⟨#[34]⟩ = B := ⟨_, rfl⟩
    have zQM : QM.size ≤ 700 := by rw [← hQM, ByteArray.size_append]; omega
    have z34 : (⟨#[34]⟩ : ByteArray).size = 1 := rfl
    have zB : B.size ≤ 701 := by rw [← hB, ByteArray.size_append]; omega
    have hBd : B.data.toList = (34 :: (esc s.data.toList ++ [34])) ++ m.data.toList ++ [34] := by rw [← hB, app_data, ← hQM, app_data, hqd]
    have cb := hide (fun w => unquote_any B (by omega) w)
    rw [hBd, quoted_more] at cb
    clear hbig ht hl hq2 hA hqd hQ hBd
    cases hok : allS chr s.data.toList
    · rw [hok] at cu cch
      simp only [Bool.false_eq_true, if_false] at cu
      have CQ := hide (unhide cqno hok)
      clear cqno cqok hok cb
      go_enter Tryz.func3, Tryz.ntmps3
      go_wp2_with fail
      refine (unhide c0).mono ?_; rintro e w1 ⟨rfl, hb1⟩
      have HB1 := hide hb1
      clear hb1
      go_wp2_with fail
      have HO := hide (Own.one w1 34)
      go_loopw [5, 6] (fun v i wr => ∃ k : Nat, i = .int .i64 k ∧ k ≤ s.size ∧ Own w1 wr w1.heap.size 5 1 v (1 + 2 * k) (Mem.bytesV (34 :: esc2 (s.data.toList.take k)))) (fun _ i _ => s.size - (intOf i).toNat)
      case atStart => exact ⟨0, rfl, Nat.zero_le _, unhide HO⟩
      case round =>
        clear HO
        obtain ⟨k, rfl, hk, ho⟩ := hrel
        obtain ⟨bo, cp, rfl⟩ := (Rd.own ho.own).form
        have HO := hide ho
        clear ho
        rcases Nat.lt_or_ge k s.size with hlt | hge
        · have hkb : decide ((k : Int) < (s.size : Int)) = true := by rw [decide_eq_true_iff]; omega
          have HT := Lib.hid (esc2_take s k hlt)
          go_wp2_with (at_builtin; refine wpList_pushB2 (w0 := w1) rfl _ _ rfl w1.heap.size _ _ _ rfl (unhide HO) 92 s[k] rfl _ rfl (Nat.le_refl _) (by omega) ?_; intro v' w2 h2; obtain ⟨ao', cp', rfl⟩ := (Rd.own h2.own).form; have H2 := hide h2; clear h2)
          go_roundw
          case rel => exact ⟨k + 1, by go_num, by omega, by rw [HT.out]; exact unhide H2⟩
          case measure => simp [intOf]; omega
        · have hkb : decide ((k : Int) < (s.size : Int)) = false := by rw [decide_eq_false_iff_not]; omega
          have htk : s.data.toList.take k = s.data.toList := List.take_of_length_le (by rw [HL.out]; exact hge)
          rw [htk] at HO
          have hAe : (⟨((34 :: esc2 s.data.toList) ++ [34]).toArray⟩ : ByteArray) = A := (ba_eq HA.out).symm
          have HAE := Lib.hid hAe
          clear htk hAe
          go_wp2_with (at_builtin; refine wpList_pushB (w0 := w1) rfl _ _ rfl w1.heap.size _ _ _ rfl (unhide HO) 34 rfl _ rfl (by omega) ?_; intro v' w2 h2; obtain ⟨ao', cp', rfl⟩ := (Rd.own h2.own).form; have htx := run_text_own h2.own; rw [HAE.out] at htx; have HB2 := hide ((unhide HB1).trans (h2.bel.mono (unhide HB1).size)); clear h2)
          refine (unhide cu _).mono ?_; rintro e w3 ⟨rfl, hb3⟩
          have HB3 := hide ((unhide HB2).trans (hb3.mono (unhide HB2).size))
          clear hb3
          go_wp2_with fail
          refine (unhide cch _).mono ?_; rintro e w4 ⟨rfl, rfl⟩
          go_wp2_with fail
          refine (unhide CQ _).mono ?_; rintro e w5 ⟨rfl, hb5⟩
          have HB5 := hide ((unhide HB3).trans (hb5.mono (unhide HB3).size))
          clear hb5
          go_wp2_with fail
          go_ret
          exact ⟨rfl, unhide HB5⟩
    · rw [hok] at cu cch
      simp only [if_true] at cu
      rw [ofL_of] at cu
      have CQ := hide (unhide cqok hok)
      clear cqno cqok hok
      go_enter Tryz.func3, Tryz.ntmps3
      go_wp2_with fail
      refine (unhide c0).mono ?_; rintro e w1 ⟨rfl, hb1⟩
      have HB1 := hide hb1
      clear hb1
      go_wp2_with fail
      have HO := hide (Own.one w1 34)
      go_loopw [5, 6] (fun v i wr => ∃ k : Nat, i = .int .i64 k ∧ k ≤ s.size ∧ Own w1 wr w1.heap.size 5 1 v (1 + 2 * k) (Mem.bytesV (34 :: esc2 (s.data.toList.take k)))) (fun _ i _ => s.size - (intOf i).toNat)
      case atStart => exact ⟨0, rfl, Nat.zero_le _, unhide HO⟩
      case round =>
        clear HO
        obtain ⟨k, rfl, hk, ho⟩ := hrel
        obtain ⟨bo, cp, rfl⟩ := (Rd.own ho.own).form
        have HO := hide ho
        clear ho
        rcases Nat.lt_or_ge k s.size with hlt | hge
        · have hkb : decide ((k : Int) < (s.size : Int)) = true := by rw [decide_eq_true_iff]; omega
          have HT := Lib.hid (esc2_take s k hlt)
          go_wp2_with (at_builtin; refine wpList_pushB2 (w0 := w1) rfl _ _ rfl w1.heap.size _ _ _ rfl (unhide HO) 92 s[k] rfl _ rfl (Nat.le_refl _) (by omega) ?_; intro v' w2 h2; obtain ⟨ao', cp', rfl⟩ := (Rd.own h2.own).form; have H2 := hide h2; clear h2)
          go_roundw
          case rel => exact ⟨k + 1, by go_num, by omega, by rw [HT.out]; exact unhide H2⟩
          case measure => simp [intOf]; omega
        · have hkb : decide ((k : Int) < (s.size : Int)) = false := by rw [decide_eq_false_iff_not]; omega
          have htk : s.data.toList.take k = s.data.toList := List.take_of_length_le (by rw [HL.out]; exact hge)
          rw [htk] at HO
          have hAe : (⟨((34 :: esc2 s.data.toList) ++ [34]).toArray⟩ : ByteArray) = A := (ba_eq HA.out).symm
          have HAE := Lib.hid hAe
          clear htk hAe
          go_wp2_with (at_builtin; refine wpList_pushB (w0 := w1) rfl _ _ rfl w1.heap.size _ _ _ rfl (unhide HO) 34 rfl _ rfl (by omega) ?_; intro v' w2 h2; obtain ⟨ao', cp', rfl⟩ := (Rd.own h2.own).form; have htx := run_text_own h2.own; rw [HAE.out] at htx; have HB2 := hide ((unhide HB1).trans (h2.bel.mono (unhide HB1).size)); clear h2)
          refine (unhide cu _).mono ?_; rintro e w3 ⟨rfl, hb3⟩
          have HB3 := hide ((unhide HB2).trans (hb3.mono (unhide HB2).size))
          clear hb3
          go_wp2_with fail
          refine (unhide cch _).mono ?_; rintro e w4 ⟨rfl, rfl⟩
          go_wp2_with fail
          refine (unhide CQ _).mono ?_; rintro e w5 ⟨rfl, hb5⟩
          have HB5 := hide ((unhide HB3).trans (hb5.mono (unhide HB3).size))
          clear hb5
          go_wp2_with fail
          refine (unhide cb _).mono ?_; rintro e w6 ⟨rfl, hb6⟩
          have HB6 := hide ((unhide HB5).trans (hb6.mono (unhide HB5).size))
          clear hb6
          go_wp2_with fail
          go_ret
          exact ⟨rfl, unhide HB6⟩
end Go.Proofs.YtbhpcmbbbomknaaGreatDoor.Sp
