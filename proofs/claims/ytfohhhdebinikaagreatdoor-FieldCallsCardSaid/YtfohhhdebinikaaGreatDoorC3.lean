/- The parts between commas, by the reference. -/
import Derived.Test.YtfohhhdebinikaaGreatDoorC2
namespace Go.Proofs.YtfohhhdebinikaaGreatDoor.Sp
open Go.RowKit Sl

/-- where the reference's reader stands -/
def St2 (l : List UInt8) (k fr : Nat) (q : Bool) (done : List (List UInt8)) : Prop :=
  At l fr k q done ∨ (k = l.length + 1 ∧ fr < l.length ∧ pieces false [] l = done ++ [l.drop fr]) ∨ (k = l.length + 1 ∧ l.length ≤ fr ∧ pieces false [] l = done)
theorem St2.at {l : List UInt8} {k fr : Nat} {q : Bool} {done : List (List UInt8)} (h : St2 l k fr q done) (hk : k ≤ l.length) : At l fr k q done := by
  rcases h with h | ⟨h, _⟩ | ⟨h, _⟩
  · exact h
  · omega
  · omega
theorem St2.end {l : List UInt8} {k fr : Nat} {q : Bool} {done : List (List UInt8)} (h : St2 l k fr q done) (hk : l.length < k) : (fr < l.length ∧ pieces false [] l = done ++ [l.drop fr]) ∨ (l.length ≤ fr ∧ pieces false [] l = done) := by
  rcases h with h | ⟨_, h⟩ | ⟨_, h⟩
  · have := h.lt; omega
  · exact .inl h
  · exact .inr h
theorem St2.few {l : List UInt8} {k fr : Nat} {q : Bool} {done : List (List UInt8)} (h : St2 l k fr q done) : (keep done).length ≤ l.length + 1 := by
  have h1 : (keep done).length ≤ done.length := by
    unfold keep
    refine Nat.le_trans (List.length_filter_le _ _) ?_
    rw [List.length_map]; exact Nat.le_refl _
  have h2 := pieces_len l l.length false [] l (Nat.le_refl _)
  rcases h with h | ⟨_, _, h⟩ | ⟨_, _, h⟩
  · rw [h.eq, List.length_append] at h2; omega
  · rw [h, List.length_append] at h2; omega
  · rw [h] at h2; omega
theorem At.esc2 {l : List UInt8} {k fr : Nat} {done : List (List UInt8)} (h : At l fr k true done) (hk : k < l.length) (hc : l[k] = 92) : St2 l (k + 1 + 1) fr true done := by
  rcases Nat.lt_or_ge (k + 1) l.length with h1 | h1
  · exact .inl (h.esc h1 (by simp [hc]))
  · exact .inr (.inl ⟨by omega, by have := h.le; omega, h.esc_end hk (by omega) (by simp [hc])⟩)
theorem At.last2 {l : List UInt8} {k fr : Nat} {q : Bool} {done : List (List UInt8)} (h : At l fr k q done) (hk : k = l.length) : St2 l (k + 1) (k + 1) q (done ++ [(l.drop fr).take (k - fr)]) := by
  subst hk
  refine .inr (.inr ⟨rfl, by omega, ?_⟩)
  rw [h.stop, List.take_of_length_le (by rw [List.length_drop]; exact Nat.le_refl _)]

/-- what the row of parts holds -/
def RowSt (w wr : World) (v : Value) (done : List (List UInt8)) : Prop := Own w wr w.heap.size 9 1 v (keep done).length (strV ((keep done).map ofL))
theorem RowSt.form {w wr : World} {v : Value} {done : List (List UInt8)} (h : RowSt w wr v done) : ∃ ao cap, v = .slice ao (keep done).length cap := (Rd.own h.own).form
theorem RowSt.same {w wr : World} {v : Value} {done : List (List UInt8)} {p : List UInt8} (h : RowSt w wr v done) (hp : (trimW p).isEmpty = true) : RowSt w wr v (done ++ [p]) := by
  unfold RowSt
  rw [keep_app, keep_one, if_pos hp, List.append_nil]; exact h
theorem RowSt.more {w wr : World} {v : Value} {done : List (List UInt8)} {p : List UInt8} (hp : (trimW p).isEmpty = false) (h : Own w wr w.heap.size 9 1 v ((keep done).length + 1) (strV ((keep done).map ofL) ++ [.string (ofL (trimW p))])) : RowSt w wr v (done ++ [p]) := by
  unfold RowSt
  rw [keep_app, ← keep_snoc _ _ hp]
  have : (keep done ++ keep [p]).length = (keep done).length + 1 := by rw [keep_one, if_neg (by rw [hp]; decide)]; simp
  rw [this]; exact h

theorem part_empty {x p : ByteArray} {l : List UInt8} (hx : x.data.toList = l) (hp : ofL (trimW x.data.toList) = p) : p.toList.isEmpty = (trimW l).isEmpty := by
  rw [← hp, Lib.toList_data, ofL_data, hx]

theorem ofS (s : ByteArray) : strV (splitB s) = strV ((splitS s.data.toList).map ofL) := rfl
theorem row_done {w wr : World} {v : Value} {done : List (List UInt8)} {s : ByteArray} (h : RowSt w wr v done) (hd : pieces false [] s.data.toList = done) : wr.ownsRow w.heap.size 9 1 v (splitB s).length (strV (splitB s)) := by
  unfold splitB splitS
  rw [hd, List.length_map]
  exact h.own

set_option maxHeartbeats 4000000 in
theorem rsplit_any (s : ByteArray) (hs : s.size ≤ 100000) (w : World) :
    Calls Tryz.prog 19 #[.string s] w fun e w' => ∃ v, e = .returned v ∧ w'.ownsRow w.heap.size 9 1 v (splitB s).length (strV (splitB s)) ∧ Below w.heap.size w w' := by
  have hl : s.data.toList.length = s.size := by simp
  have HL := Lib.hid hl
  clear hl
  go_enter Tryz.func19, Tryz.ntmps19
  go_wp2_with fail
  go_loopw [3, 4, 5, 6] (fun v f q i wr => ∃ (k fr : Nat) (b : Bool) (done : List (List UInt8)), i = .int .i64 k ∧ f = .int .i64 fr ∧ q = .bool b ∧ k ≤ s.size + 1 ∧ fr ≤ k ∧ St2 s.data.toList k fr b done ∧ RowSt w wr v done) (fun _ _ _ i _ => s.size + 1 - (intOf i).toNat)
  case atStart => exact ⟨0, 0, false, [], rfl, rfl, rfl, by omega, Nat.le_refl _, .inl (At.start _), Own.start _ _ (Nat.le_refl _) _ _⟩
  case round =>
    obtain ⟨k, fr, b, done, rfl, rfl, rfl, hk, hfk, hst, hrow⟩ := hrel
    obtain ⟨ao, cp, rfl⟩ := hrow.form
    have HS := Lib.hid hst
    have HO := hide hrow
    have hfew := hst.few
    rw [HL.out] at hfew
    clear hst hrow
    rcases Nat.lt_or_ge s.size k with hgt | hle
    · have hend := HS.out.end (by rw [HL.out]; exact hgt)
      rcases hend with ⟨hf, hd⟩ | ⟨hf, hd⟩
      · rw [HL.out] at hf
        have HD := Lib.hid hd
        clear hd HS
        obtain ⟨p, hp⟩ : ∃ p : ByteArray, ofL (trimW (s.extract fr s.size).data.toList) = p := ⟨_, rfl⟩
        have HP := Lib.hid hp
        clear hp
        have hx : (s.extract fr s.size).data.toList = (s.data.toList.drop fr).take (s.size - fr) := Lib.extract_data s fr s.size
        have hxs : (s.extract fr s.size).size ≤ 9223372036854775807 := by
          rw [size_list hx, List.length_take, List.length_drop]; simp; omega
        have hpe := part_empty hx HP.out
        have HX := Lib.hid hx
        have HE := Lib.hid hpe
        clear hx hpe
        have hfin : (s.data.toList.drop fr).take (s.size - fr) = s.data.toList.drop fr := List.take_of_length_le (by rw [List.length_drop, HL.out]; exact Nat.le_refl _)
        have HM : Hid (s.size = s.size) := Lib.hid rfl
        have HFI := Lib.hid hfin
        clear hfin
        rcases ne_case p with ⟨e1, e2⟩ | ⟨e1, e2⟩
        · have hr := hide ((unhide HO).same (p := (s.data.toList.drop fr).take (s.size - fr)) (by rw [← HE.out, e1]; rfl))
          go_wp2_with (go_at_call 49; (try rw [HM.out]); refine (rtrim_any _ hxs _).mono ?_; rintro e w1 ⟨he, rfl⟩; rw [HP.out] at he; subst he)
          go_ret
          refine ⟨_, rfl, row_done (unhide hr) (by rw [HFI.out]; exact HD.out), (unhide hr).bel⟩
        · have hne : (trimW ((s.data.toList.drop fr).take (s.size - fr))).isEmpty = false := by rw [← HE.out]; exact e1
          have hpp : p = ofL (trimW ((s.data.toList.drop fr).take (s.size - fr))) := by rw [← HX.out]; exact HP.out.symm
          have HN := Lib.hid hne
          have HPP := Lib.hid hpp
          clear hne hpp
          go_wp2_with (first | (at_builtin; refine wpList_pushS (w0 := w) rfl _ _ rfl w.heap.size _ _ _ rfl (unhide HO) p rfl _ rfl (by omega) ?_; intro v' w2 h2; obtain ⟨ao', cp', rfl⟩ := (Rd.own h2.own).form; have H2 := hide h2; clear h2) | (go_at_call 49; (try rw [HM.out]); refine (rtrim_any _ hxs _).mono ?_; rintro e w1 ⟨he, rfl⟩; rw [HP.out] at he; subst he))
          have hr := RowSt.more HN.out (by rw [← HPP.out]; exact unhide H2)
          go_ret
          refine ⟨_, rfl, row_done hr (by rw [HFI.out]; exact HD.out), hr.bel⟩
      · rw [HL.out] at hf
        have HD := Lib.hid hd
        clear hd HS
        go_wp2_with fail
        go_ret
        refine ⟨_, rfl, row_done (unhide HO) HD.out, (unhide HO).bel⟩
    · have ha := HS.out.at (by rw [HL.out]; exact hle)
      have HA := Lib.hid ha
      clear ha HS
      obtain ⟨p, hp⟩ : ∃ p : ByteArray, ofL (trimW (s.extract fr k).data.toList) = p := ⟨_, rfl⟩
      have HP := Lib.hid hp
      clear hp
      have hx : (s.extract fr k).data.toList = (s.data.toList.drop fr).take (k - fr) := Lib.extract_data s fr k
      have hxs : (s.extract fr k).size ≤ 9223372036854775807 := by
        rw [size_list hx, List.length_take, List.length_drop]; simp; omega
      have hpe := part_empty hx HP.out
      have HX := Lib.hid hx
      have HE := Lib.hid hpe
      clear hx hpe
      have hm : (min (k : Int) (s.size : Int)).toNat = k := by omega
      have HM := Lib.hid hm
      clear hm
      rcases Nat.lt_or_ge k s.size with hlt | hge
      · have hlt' : k < s.data.toList.length := by rw [HL.out]; exact hlt
        by_cases h34 : (s[k].toNat : Int) = 34
        · have hc : s.data.toList[k]'hlt' = 34 := u8_eq h34
          have HQ := hide (HA.out.quote hlt' (by rw [hc]; cases b <;> decide) (by rw [hc]; decide))
          clear hc
          cases b
          all_goals
            go_wp2_with fail
            go_roundw
            case rel => exact ⟨k + 1, fr, _, done, by go_num, rfl, rfl, by omega, by omega, .inl (unhide HQ), unhide HO⟩
            case measure => simp [intOf]; omega
        · have n34 : s.data.toList[k]'hlt' ≠ 34 := u8_ne (by decide) h34
          cases b
          · by_cases h44 : (s[k].toNat : Int) = 44
            · have hc : s.data.toList[k]'hlt' = 44 := u8_eq h44
              have HQ : Hid (St2 s.data.toList (k + 1) (k + 1) false (done ++ [(s.data.toList.drop fr).take (k - fr)])) := hide (.inl (HA.out.comma hlt' (by simp) (by rw [hc]; decide) (by rw [hc]; decide)))
              clear hc n34
              rcases ne_case p with ⟨e1, e2⟩ | ⟨e1, e2⟩
              · have hr := hide ((unhide HO).same (p := (s.data.toList.drop fr).take (k - fr)) (by rw [← HE.out, e1]; rfl))
                go_wp2_with (go_at_call 49; (try rw [HM.out]); refine (rtrim_any _ hxs _).mono ?_; rintro e w1 ⟨he, rfl⟩; rw [HP.out] at he; subst he)
                go_roundw
                case rel => exact ⟨k + 1, k + 1, _, _, by go_num, by go_num, rfl, by omega, Nat.le_refl _, unhide HQ, unhide hr⟩
                case measure => simp [intOf]; omega
              · have hne : (trimW ((s.data.toList.drop fr).take (k - fr))).isEmpty = false := by rw [← HE.out]; exact e1
                have hpp : p = ofL (trimW ((s.data.toList.drop fr).take (k - fr))) := by rw [← HX.out]; exact HP.out.symm
                have HN := Lib.hid hne
                have HPP := Lib.hid hpp
                clear hne hpp
                go_wp2_with (first | (at_builtin; refine wpList_pushS (w0 := w) rfl _ _ rfl w.heap.size _ _ _ rfl (unhide HO) p rfl _ rfl (by omega) ?_; intro v' w2 h2; obtain ⟨ao', cp', rfl⟩ := (Rd.own h2.own).form; have H2 := hide h2; clear h2) | (go_at_call 49; (try rw [HM.out]); refine (rtrim_any _ hxs _).mono ?_; rintro e w1 ⟨he, rfl⟩; rw [HP.out] at he; subst he))
                have hr := RowSt.more HN.out (by rw [← HPP.out]; exact unhide H2)
                go_roundw
                case rel => exact ⟨k + 1, k + 1, _, _, by go_num, by go_num, rfl, by omega, Nat.le_refl _, unhide HQ, hr⟩
                case measure => simp [intOf]; omega
            · have HQ := hide ((HA.out.other hlt' (by simp) (by simpa using n34) (by simpa using (u8_ne (n := 44) (by decide) h44 : s.data.toList[k]'hlt' ≠ 44))))
              clear n34
              go_wp2_with fail
              go_roundw
              case rel => exact ⟨k + 1, fr, _, done, by go_num, rfl, rfl, by omega, by omega, .inl (unhide HQ), unhide HO⟩
              case measure => simp [intOf]; omega
          · by_cases h92 : (s[k].toNat : Int) = 92
            · have HQ := hide (HA.out.esc2 hlt' (u8_eq h92))
              clear n34
              go_wp2_with fail
              go_roundw
              case rel => exact ⟨k + 1 + 1, fr, _, done, by go_num, rfl, rfl, by omega, by omega, unhide HQ, unhide HO⟩
              case measure => simp [intOf]; omega
            · have HQ := hide ((HA.out.other hlt' (by simpa using (u8_ne (n := 92) (by decide) h92 : s.data.toList[k]'hlt' ≠ 92)) (by simpa using n34) (by simp)))
              clear n34
              go_wp2_with fail
              all_goals
                go_roundw
                case rel => exact ⟨k + 1, fr, _, done, by go_num, rfl, rfl, by omega, by omega, .inl (unhide HQ), unhide HO⟩
                case measure => simp [intOf]; omega
      · have e : k = s.size := by omega
        have HQ := hide (HA.out.last2 (by rw [HL.out]; exact e))
        have HEQ := Lib.hid e
        clear e
        rcases ne_case p with ⟨e1, e2⟩ | ⟨e1, e2⟩
        · have hr := hide ((unhide HO).same (p := (s.data.toList.drop fr).take (k - fr)) (by rw [← HE.out, e1]; rfl))
          go_wp2_with (go_at_call 49; (try rw [HM.out]); refine (rtrim_any _ hxs _).mono ?_; rintro e w1 ⟨he, rfl⟩; rw [HP.out] at he; subst he)
          go_roundw
          case rel => exact ⟨k + 1, k + 1, _, _, by go_num, by go_num, rfl, by omega, Nat.le_refl _, unhide HQ, unhide hr⟩
          case measure => simp [intOf]; omega
        · have hne : (trimW ((s.data.toList.drop fr).take (k - fr))).isEmpty = false := by rw [← HE.out]; exact e1
          have hpp : p = ofL (trimW ((s.data.toList.drop fr).take (k - fr))) := by rw [← HX.out]; exact HP.out.symm
          have HN := Lib.hid hne
          have HPP := Lib.hid hpp
          clear hne hpp
          go_wp2_with (first | (at_builtin; refine wpList_pushS (w0 := w) rfl _ _ rfl w.heap.size _ _ _ rfl (unhide HO) p rfl _ rfl (by omega) ?_; intro v' w2 h2; obtain ⟨ao', cp', rfl⟩ := (Rd.own h2.own).form; have H2 := hide h2; clear h2) | (go_at_call 49; (try rw [HM.out]); refine (rtrim_any _ hxs _).mono ?_; rintro e w1 ⟨he, rfl⟩; rw [HP.out] at he; subst he))
          have hr := RowSt.more HN.out (by rw [← HPP.out]; exact unhide H2)
          go_roundw
          case rel => exact ⟨k + 1, k + 1, _, _, by go_num, by go_num, rfl, by omega, Nat.le_refl _, unhide HQ, hr⟩
          case measure => simp [intOf]; omega
end Go.Proofs.YtfohhhdebinikaaGreatDoor.Sp
