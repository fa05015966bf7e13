/- token.Unquote. -/
import Derived.Test.YtbhpcmbbbomknaaGreatDoorT4
import Derived.Test.YtbhpcmbbbomknaaGreatDoorB4
import Derived.Test.YtbhpcmbbbomknaaGreatDoorSpPl
namespace Go.Proofs.YtbhpcmbbbomknaaGreatDoor.Sp
open Go.RowKit Sl

/-! ### plain -/
/-- what stands behind a quote, read up to the next one, which must be the end -/
def unq : List UInt8 → Option (List UInt8)
  | [] => none
  | [c] => if c = 34 then some [] else none
  | c :: d :: r => if c = 34 then none else if c = 92 then (unq r).map (d :: ·) else (unq (d :: r)).map (c :: ·)
theorem unq_end (c : UInt8) (h : c = 34) : unq [c] = some [] := by unfold unq; rw [if_pos h]
theorem unq_bad (c d : UInt8) (r : List UInt8) (h : c = 34) : unq (c :: d :: r) = none := by unfold unq; rw [if_pos h]
theorem unq_esc (c d : UInt8) (r : List UInt8) (h : c = 92) : unq (c :: d :: r) = (unq r).map (d :: ·) := by
  conv => lhs; unfold unq
  rw [if_neg (by rw [h]; decide), if_pos h]
theorem unq_other (c : UInt8) (t : List UInt8) (h1 : c ≠ 34) (h2 : c ≠ 92 ∨ t = []) : unq (c :: t) = (unq t).map (c :: ·) := by
  cases t with
  | nil => unfold unq; rw [if_neg h1]; rfl
  | cons d r =>
    conv => lhs; unfold unq
    rw [if_neg h1, if_neg (by rcases h2 with h2 | h2 <;> simp_all)]
def unqS (l : List UInt8) : List UInt8 × Int :=
  if 2 ≤ l.length ∧ l.head? = some 34 ∧ allS chr l = true then (match unq (l.drop 1) with
    | some x => (x, 0)
    | none => ([], 4)) else ([], 4)
theorem unqS_no {l : List UInt8} (h : ¬ (2 ≤ l.length ∧ l.head? = some 34 ∧ allS chr l = true)) : unqS l = ([], 4) := by unfold unqS; rw [if_neg h]
theorem unqS_some {l x : List UInt8} (h : 2 ≤ l.length ∧ l.head? = some 34 ∧ allS chr l = true) (hu : unq (l.drop 1) = some x) : unqS l = (x, 0) := by unfold unqS; rw [if_pos h, hu]
theorem unqS_none {l : List UInt8} (h : 2 ≤ l.length ∧ l.head? = some 34 ∧ allS chr l = true) (hu : unq (l.drop 1) = none) : unqS l = ([], 4) := by unfold unqS; rw [if_pos h, hu]
def UnqAt (l : List UInt8) (k : Nat) (acc : List UInt8) : Prop := unq (l.drop 1) = (unq (l.drop k)).map (acc ++ ·)
theorem UnqAt.next {l : List UInt8} {k j : Nat} {acc : List UInt8} {c : UInt8} (h : UnqAt l k acc) (he : unq (l.drop k) = (unq (l.drop j)).map (c :: ·)) : UnqAt l j (acc ++ [c]) := by
  unfold UnqAt at h ⊢
  rw [h, he, Option.map_map]
  congr 1
  funext x
  simp
theorem UnqAt.bad {l : List UInt8} {k : Nat} {acc : List UInt8} (h : UnqAt l k acc) (he : unq (l.drop k) = none) : unq (l.drop 1) = none := by
  rw [h, he]; rfl
theorem UnqAt.good {l : List UInt8} {k : Nat} {acc : List UInt8} (h : UnqAt l k acc) (he : unq (l.drop k) = some []) : unq (l.drop 1) = some acc := by
  rw [h, he]; simp
theorem head_34 (s : ByteArray) (h : 0 < s.size) : s.data.toList.head? = some s[0] := by
  have := drop_cons s 0 h
  rw [List.drop_zero] at this
  rw [this]; rfl
set_option maxRecDepth 100000 in
set_option maxHeartbeats 4000000 in
theorem unquote_any (s : ByteArray) (hs : s.size ≤ 1000000) (w : World) :
    Calls Tryz.prog 7 #[.string s] w fun e w' => e = .returned (.tuple #[.string (ofL (unqS s.data.toList).1), .int .i64 (unqS s.data.toList).2]) ∧ Below w.heap.size w w' := by
  have hl : s.data.toList.length = s.size := by simp
  by_cases h2 : s.size < 2
  · have hn := hide (unqS_no (l := s.data.toList) (by rintro ⟨h, _⟩; omega))
    have ht : decide ((s.size : Int) < 2) = true := by simp; omega
    clear hl h2
    go_enter Tryz.func7, Tryz.ntmps7
    go_wp2_with fail
    go_ret2
    exact ⟨by rw [unhide hn] <;> rfl, Below.refl _ _⟩
  · have ht : decide ((s.size : Int) < 2) = false := by simp; omega
    have h0 : 0 < s.size := by omega
    by_cases hq : (s[0].toNat : Int) = 34
    · have hqb : ((s[0].toNat : Int) != 34) = false := by rw [hq]; rfl
      have hhd : s.data.toList.head? = some 34 := by rw [head_34 s h0, u8_eq hq]; rfl
      cases ha : allS chr s.data.toList
      · have hn := hide (unqS_no (l := s.data.toList) (by rintro ⟨_, _, h⟩; rw [ha] at h; cases h))
        have ca := hide (fun w => all_any s (by omega) 2 chr kind_and2 rfl w)
        clear hl hhd
        go_enter Tryz.func7, Tryz.ntmps7
        go_wp2_with fail
        refine (unhide ca _).mono ?_; rintro e w1 ⟨rfl, hb1⟩
        rw [ha]
        go_wp2_with fail
        go_ret2
        exact ⟨by rw [unhide hn] <;> rfl, hb1⟩
      · have hok := Lib.hid (show 2 ≤ s.data.toList.length ∧ s.data.toList.head? = some 34 ∧ allS chr s.data.toList = true from ⟨by omega, hhd, ha⟩)
        have ca := hide (fun w => all_any s (by omega) 2 chr kind_and2 rfl w)
        have HL := Lib.hid hl
        have HA := hide ha
        clear hl hhd ha
        go_enter Tryz.func7, Tryz.ntmps7
        go_wp2_with fail
        refine (unhide ca _).mono ?_; rintro e w1 ⟨rfl, hb1⟩
        rw [unhide HA]
        go_wp2_with fail
        go_loopw [4, 5] (fun v i wr => ∃ (k : Nat) (acc : List UInt8), i = .int .i64 k ∧ k ≤ s.size ∧ 1 ≤ k ∧ acc.length ≤ k ∧ UnqAt s.data.toList k acc ∧ Own w1 wr w1.heap.size 5 1 v acc.length (Mem.bytesV acc)) (fun _ i _ => s.size - (intOf i).toNat)
        case atStart => exact ⟨1, [], rfl, by omega, Nat.le_refl _, by simp, by unfold UnqAt; simp, Own.start _ _ (Nat.le_refl _) _ _⟩
        case round =>
          obtain ⟨k, acc, rfl, hk, hk1, hac, hu, ho⟩ := hrel
          obtain ⟨bo, cp, rfl⟩ := (Rd.own ho.own).form
          have hbel := hide (hb1.trans (ho.bel.mono hb1.size))
          have HO := hide ho
          have HU := hide hu
          have htx := run_text_own ho.own
          clear ho hu
          rcases Nat.lt_or_ge k s.size with hlt | hge
          · have hd := drop_cons s k hlt
            have hkb : decide ((k : Int) < (s.size : Int)) = true := by rw [decide_eq_true_iff]; omega
            by_cases h34 : (s[k].toNat : Int) = 34
            · have b34 : ((s[k].toNat : Int) == 34) = true := by rw [beq_iff_eq]; exact h34
              have e34 : s[k] = 34 := u8_eq h34
              rcases Nat.lt_or_ge (k + 1) s.size with hlt2 | hge2
              · have hd2 := drop_cons s (k + 1) hlt2
                have hr := hide (unqS_none hok.out ((unhide HU).bad (by rw [hd, hd2]; exact unq_bad _ _ _ e34)))
                clear hd hd2 e34 h34
                go_wp2_with fail
                go_ret2
                exact ⟨by rw [unhide hr] <;> rfl, unhide hbel⟩
              · have hd2 : s.data.toList.drop (k + 1) = [] := List.drop_eq_nil_of_le (by rw [HL.out]; exact hge2)
                have hlb : decide ((k : Int) + 1 < (s.size : Int)) = false := by rw [decide_eq_false_iff_not]; omega
                have hr := hide (unqS_some hok.out ((unhide HU).good (by rw [hd, hd2]; exact unq_end _ e34)))
                clear hd hd2 e34 h34
                go_wp2_with fail
                go_ret2
                exact ⟨by rw [unhide hr] <;> rfl, unhide hbel⟩
            · have n34 : s[k] ≠ 34 := u8_ne (by decide) h34
              have b34 : ((s[k].toNat : Int) == 34) = false := by rw [beq_eq_false_iff_ne]; exact h34
              by_cases hes : (s[k].toNat : Int) = 92 ∧ k + 1 < s.size
              · obtain ⟨h92, hlt2⟩ := hes
                have b92 : ((s[k].toNat : Int) == 92) = true := by rw [beq_iff_eq]; exact h92
                have hlb : decide ((k : Int) + 1 < (s.size : Int)) = true := by rw [decide_eq_true_iff]; omega
                have hd2 := drop_cons s (k + 1) hlt2
                have hn := hide ((unhide HU).next (c := s[k + 1]) (j := k + 1 + 1) (by rw [hd, hd2]; exact unq_esc _ _ _ (u8_eq h92)))
                clear hd hd2 n34 h92 h34
                go_wp2_with (at_builtin; refine wpList_pushB (w0 := w1) rfl _ _ rfl w1.heap.size _ _ _ rfl (unhide HO) s[k + 1] rfl _ rfl (by omega) ?_; intro v' w2 h2; obtain ⟨ao', cp', rfl⟩ := (Rd.own h2.own).form; have H2 := hide h2; clear h2)
                go_roundw
                case rel => exact ⟨k + 1 + 1, acc ++ [s[k + 1]], by go_num, by omega, by omega, by simp; omega, unhide hn, by rw [List.length_append]; exact unhide H2⟩
                case measure => simp [intOf]; omega
              · have hn := hide ((unhide HU).next (c := s[k]) (j := k + 1) (by
                  rw [hd]
                  refine unq_other _ _ n34 ?_
                  by_cases h92 : (s[k].toNat : Int) = 92
                  · exact .inr (List.drop_eq_nil_of_le (by rw [HL.out]; omega))
                  · exact .inl (u8_ne (by decide) h92)))
                have hcs : ((s[k].toNat : Int) == 92) = false ∨ (((s[k].toNat : Int) == 92) = true ∧ decide ((k : Int) + 1 < (s.size : Int)) = false) := by
                  by_cases h92 : (s[k].toNat : Int) = 92
                  · exact .inr ⟨by rw [beq_iff_eq]; exact h92, by rw [decide_eq_false_iff_not]; omega⟩
                  · exact .inl (by rw [beq_eq_false_iff_ne]; exact h92)
                clear hd n34 h34 hes
                rcases hcs with b92 | ⟨b92, hlb⟩
                all_goals
                  go_wp2_with (at_builtin; refine wpList_pushB (w0 := w1) rfl _ _ rfl w1.heap.size _ _ _ rfl (unhide HO) s[k] rfl _ rfl (by omega) ?_; intro v' w2 h2; obtain ⟨ao', cp', rfl⟩ := (Rd.own h2.own).form; have H2 := hide h2; clear h2)
                  all_goals
                    go_roundw
                    case rel => exact ⟨k + 1, acc ++ [s[k]], by go_num, by omega, by omega, by simp; omega, unhide hn, by rw [List.length_append]; exact unhide H2⟩
                    case measure => simp [intOf]; omega
          · have hr := hide (unqS_none hok.out ((unhide HU).bad (by rw [List.drop_eq_nil_of_le (by rw [HL.out]; exact hge)]; rfl)))
            have hkb : decide ((k : Int) < (s.size : Int)) = false := by rw [decide_eq_false_iff_not]; omega
            go_wp2_with fail
            go_ret2
            exact ⟨by rw [unhide hr] <;> rfl, unhide hbel⟩
    · have hqb : ((s[0].toNat : Int) != 34) = true := by rw [bne_iff_ne]; exact hq
      have hn := hide (unqS_no (l := s.data.toList) (by
        rintro ⟨_, h, _⟩
        rw [head_34 s h0] at h
        injection h with h
        rw [h] at hq
        exact hq rfl))
      clear hl hq
      go_enter Tryz.func7, Tryz.ntmps7
      go_wp2_with fail
      go_ret2
      exact ⟨by rw [unhide hn] <;> rfl, Below.refl _ _⟩
end Go.Proofs.YtbhpcmbbbomknaaGreatDoor.Sp
