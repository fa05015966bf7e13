/- The parts between commas, by the program. -/
import Derived.Test.YtbhpcmbbbomknaaGreatDoorC1
import Derived.Test.YtbhpcmbbbomknaaGreatDoorS0
import Derived.Test.YtbhpcmbbbomknaaGreatDoorSl
import Derived.WalkSmall
import Derived.Deep.Onto
namespace Go.Proofs.YtbhpcmbbbomknaaGreatDoor.Sp
open Go.RowKit Sl


/-- the three boxes of Split and what the row of parts holds -/
structure PutSt (w0 w : World) (s : ByteArray) (fr : Nat) (ps : List (List UInt8)) : Prop where
  bel : Below w0.heap.size w0 w
  h1 : w.heap[w0.heap.size]? = some (.cells #[.string s] 9 (0, 0))
  h2 : ∃ v, w.heap[w0.heap.size + 1]? = some (.cells #[v] 29 (0, 0)) ∧ w.ownsRow (w0.heap.size + 2 + 1) 9 1 v ps.length (strV (ps.map ofL))
  h3 : w.heap[w0.heap.size + 2]? = some (.cells #[.int .i64 fr] 3 (0, 0))

theorem PutSt.lt {w0 w : World} {s : ByteArray} {fr : Nat} {ps : List (List UInt8)} (h : PutSt w0 w s fr ps) : w0.heap.size + 2 < w.heap.size := lt_of_block h.h3
theorem PutSt.kept {w0 w w' : World} {s : ByteArray} {fr : Nat} {ps : List (List UInt8)} (h : PutSt w0 w s fr ps) (hb : Below w.heap.size w w') : PutSt w0 w' s fr ps := by
  have hl := h.lt
  refine ⟨h.bel.trans (hb.mono (by omega)), (hb.block _ (by omega)).trans h.h1, ?_, (hb.block _ (by omega)).trans h.h3⟩
  obtain ⟨v, e, ho⟩ := h.h2
  exact ⟨v, (hb.block _ (by omega)).trans e, ((⟨ho, Below.refl _ _, by omega⟩ : Own w w _ _ _ _ _ _).call hb).own⟩

theorem keep_snoc (ps : List (List UInt8)) (p : List UInt8) (h : (trimW p).isEmpty = false) : strV (ps.map ofL) ++ [.string (ofL (trimW p))] = strV ((ps ++ keep [p]).map ofL) := by
  rw [keep_one, if_neg (by rw [h]; decide), List.map_append, strV_app]; rfl

set_option maxHeartbeats 1000000 in
theorem put_any (w0 w : World) (s : ByteArray) (fr tt : Nat) (ps : List (List UInt8)) (h : PutSt w0 w s fr ps) (hft : fr ≤ tt) (hts : tt ≤ s.size) (hs : s.size ≤ 1000000) (hn : ps.length ≤ 1000000) :
    Calls Tryz.prog 26 #[.int .i64 tt, .pointer (some ⟨w0.heap.size, 0, none⟩), .pointer (some ⟨w0.heap.size + 2, 0, none⟩), .pointer (some ⟨w0.heap.size + 1, 0, none⟩)] w
      fun e w' => e = .returned (.tuple #[]) ∧ PutSt w0 w' s (tt + 1) (ps ++ keep [(s.data.toList.drop fr).take (tt - fr)]) := by
  have h0 := hide h
  have c1 := cell_of_one h.h1
  have c3 := cell_of_one h.h3
  have hx : (s.extract fr tt).data.toList = (s.data.toList.drop fr).take (tt - fr) := Lib.extract_data s fr tt
  have hxs : (s.extract fr tt).size ≤ 9223372036854775807 := by
    rw [size_list hx, List.length_take, List.length_drop]; simp; omega
  have HX := Lib.hid hx
  clear hx
  clear h
  obtain ⟨p, hp⟩ : ∃ p : ByteArray, ofL (trimW (s.extract fr tt).data.toList) = p := ⟨_, rfl⟩
  have HP := Lib.hid hp
  clear hp
  rcases ne_case p with ⟨e1, e2⟩ | ⟨e1, e2⟩
  · have hk : keep [(s.data.toList.drop fr).take (tt - fr)] = [] := by
      rw [keep_one, if_pos]
      rw [← HX.out, List.isEmpty_iff]
      have := HP.out
      rw [← ofL_data (trimW _), this, ← Lib.toList_data]
      exact e1
    have HK := Lib.hid hk
    clear hk
    go_enter Tryz.func26, Tryz.ntmps26
    go_wp2_with (go_at_call 19; refine (trim_any _ hxs _).mono ?_; rintro e w1 ⟨he, hb⟩; rw [HP.out] at he; subst he; have h1 := hide ((unhide h0).kept hb); have d1 := cell_of_one (unhide h1).h1; have d3 := cell_of_one (unhide h1).h3; have f3 := free_of_one (unhide h1).h3)
    go_end0
    refine ⟨rfl, ?_⟩
    rw [HK.out, List.append_nil]
    have h2 := unhide h1
    obtain ⟨v, hv, ho⟩ := h2.h2
    exact ⟨h2.bel.setCell (by show w0.heap.size ≤ w0.heap.size + 2; omega) _, (Below.heap_setCell _ _ _ _ (by show w0.heap.size ≠ w0.heap.size + 2; omega)).trans h2.h1, ⟨v, (Below.heap_setCell _ _ _ _ (by show w0.heap.size + 1 ≠ w0.heap.size + 2; omega)).trans hv, ownsRow_setCell_below ho (by show w0.heap.size + 2 < _; omega) _⟩, one_setCell h2.h3⟩
  · have hk : strV (ps.map ofL) ++ [.string p] = strV ((ps ++ keep [(s.data.toList.drop fr).take (tt - fr)]).map ofL) ∧ (ps ++ keep [(s.data.toList.drop fr).take (tt - fr)]).length = ps.length + 1 := by
      have hne : (trimW ((s.data.toList.drop fr).take (tt - fr))).isEmpty = false := by
        rw [← HX.out]
        have := HP.out
        rw [← ofL_data (trimW _), this, ← Lib.toList_data]
        exact e1
      refine ⟨?_, by rw [keep_one, if_neg (by rw [hne]; decide)]; simp⟩
      rw [← keep_snoc _ _ hne, ← HP.out, HX.out]
    have HK := Lib.hid hk
    clear hk
    go_enter Tryz.func26, Tryz.ntmps26
    go_wp2_with (first
      | (at_builtin; refine wpList_pushS (w0 := w1) rfl _ _ rfl (w0.heap.size + 2 + 1) v _ _ rfl ⟨ho, Below.refl _ _, hlt⟩ p rfl _ rfl hn ?_; intro v' w2 h2; obtain ⟨ao, cp, rfl⟩ := (Rd.own h2.own).form; have g1 := (h2.bel.block _ (by omega)).trans (unhide h1).h1; have g2 := (h2.bel.block _ (by omega)).trans hv; have g3 := (h2.bel.block _ (by omega)).trans (unhide h1).h3; have d1 := cell_of_one g1; have d2 := cell_of_one g2; have f2 := free_of_one g2; have d3 := cell_of_one g3; have f3 := free_of_one g3)
      | (go_at_call 19; refine (trim_any _ hxs _).mono ?_; rintro e w1 ⟨he, hb⟩; rw [HP.out] at he; subst he; have h1 := hide ((unhide h0).kept hb); obtain ⟨v, hv, ho⟩ := (unhide h1).h2; have hlt := (unhide h1).lt; have d1 := cell_of_one (unhide h1).h1; have d2 := cell_of_one hv))
    go_end0
    refine ⟨rfl, ?_⟩
    have h3 := unhide h1
    refine ⟨((h3.bel.trans (h2.bel.mono (by omega))).setCell (by show w0.heap.size ≤ w0.heap.size + 1; omega) _).setCell (by show w0.heap.size ≤ w0.heap.size + 2; omega) _, ?_, ⟨.slice ao (ps.length + 1) cp, ?_, ?_⟩, ?_⟩
    · exact (Below.heap_setCell _ _ _ _ (by show w0.heap.size ≠ w0.heap.size + 2; omega)).trans ((Below.heap_setCell _ _ _ _ (by show w0.heap.size ≠ w0.heap.size + 1; omega)).trans g1)
    · exact (Below.heap_setCell _ _ _ _ (by show w0.heap.size + 1 ≠ w0.heap.size + 2; omega)).trans (one_setCell g2)
    · rw [HK.out.2, ← HK.out.1]
      exact ownsRow_setCell_below (ownsRow_setCell_below h2.own (by show w0.heap.size + 1 < _; omega) _) (by show w0.heap.size + 2 < _; omega) _
    · exact one_setCell ((Below.heap_setCell _ _ _ _ (by show w0.heap.size + 2 ≠ w0.heap.size + 1; omega)).trans g3)

def byteI (s : ByteArray) (i : Nat) : UInt8 := s.data.toList.getD i 0
theorem at_get (s : ByteArray) (i : Nat) (h : i < s.size) : s.data.toList[i]'(by simpa using h) = s[i] := rfl

theorem put_call (w0 w : World) (s : ByteArray) (fr tt : Nat) (ps : List (List UInt8)) (h : PutSt w0 w s fr ps) (hft : fr ≤ tt) (hts : tt ≤ s.size) (hs : s.size ≤ 1000000) (hn : ps.length ≤ 1000000) :
    Calls Tryz.prog 26 #[.int .i64 tt, .pointer (some ⟨w0.heap.size, 0, none⟩), .pointer (some ⟨w0.heap.size + 1 + 1, 0, none⟩), .pointer (some ⟨w0.heap.size + 1, 0, none⟩)] w
      fun e w' => e = .returned (.tuple #[]) ∧ PutSt w0 w' s (tt + 1) (ps ++ keep [(s.data.toList.drop fr).take (tt - fr)]) :=
  put_any w0 w s fr tt ps h hft hts hs hn

/-- where a reader of parts stands; behind the end if the last byte was a backslash in quotes -/
def St (l : List UInt8) (k fr : Nat) (q : Bool) (done : List (List UInt8)) : Prop :=
  At l fr k q done ∨ (k = l.length + 1 ∧ fr ≤ l.length ∧ pieces false [] l = done ++ [l.drop fr])
theorem St.at {l : List UInt8} {k fr : Nat} {q : Bool} {done : List (List UInt8)} (h : St l k fr q done) (hk : k < l.length) : At l fr k q done := by
  rcases h with h | ⟨h, _⟩
  · exact h
  · omega
theorem St.end {l : List UInt8} {k fr : Nat} {q : Bool} {done : List (List UInt8)} (h : St l k fr q done) (hk : l.length ≤ k) : fr ≤ l.length ∧ pieces false [] l = done ++ [l.drop fr] := by
  rcases h with h | ⟨_, h1, h2⟩
  · have e : k = l.length := by have := h.lt; omega
    subst e
    exact ⟨h.le, h.stop⟩
  · exact ⟨h1, h2⟩
theorem St.few {l : List UInt8} {k fr : Nat} {q : Bool} {done : List (List UInt8)} (h : St l k fr q done) : (keep done).length ≤ l.length + 1 := by
  have h1 : (keep done).length ≤ done.length := by
    unfold keep
    refine Nat.le_trans (List.length_filter_le _ _) ?_
    rw [List.length_map]; exact Nat.le_refl _
  have h2 := pieces_len l l.length false [] l (Nat.le_refl _)
  rcases h with h | ⟨_, _, h⟩
  · rw [h.eq, List.length_append] at h2; omega
  · rw [h, List.length_append] at h2; omega
theorem St.esc {l : List UInt8} {k fr : Nat} {done : List (List UInt8)} (h : St l k fr true done) (hk : k < l.length) (hc : l[k] = 92) : St l (k + 1 + 1) fr true done := by
  have ha := h.at hk
  rcases Nat.lt_or_ge (k + 1) l.length with h1 | h1
  · exact .inl (ha.esc h1 (by simp [hc]))
  · exact .inr ⟨by omega, by have := ha.le; omega, ha.esc_end hk (by omega) (by simp [hc])⟩
theorem St.quote {l : List UInt8} {k fr : Nat} {q : Bool} {done : List (List UInt8)} (h : St l k fr q done) (hk : k < l.length) (hc : l[k] = 34) : St l (k + 1) fr (!q) done :=
  .inl ((h.at hk).quote hk (by rw [hc]; cases q <;> decide) (by rw [hc]; decide))
theorem St.comma {l : List UInt8} {k fr : Nat} {done : List (List UInt8)} (h : St l k fr false done) (hk : k < l.length) (hc : l[k] = 44) : St l (k + 1) (k + 1) false (done ++ [(l.drop fr).take (k - fr)]) :=
  .inl ((h.at hk).comma hk (by simp) (by rw [hc]; decide) (by rw [hc]; decide))
theorem St.other {l : List UInt8} {k fr : Nat} {q : Bool} {done : List (List UInt8)} (h : St l k fr q done) (hk : k < l.length) (h1 : q = true → l[k] ≠ 92) (h2 : l[k] ≠ 34) (h3 : q = false → l[k] ≠ 44) : St l (k + 1) fr q done := by
  refine .inl ((h.at hk).other hk ?_ ?_ ?_)
  · cases q
    · simp
    · simpa using h1 rfl
  · simpa using h2
  · cases q
    · simpa using h3 rfl
    · simp


theorem put_start (w : World) (s : ByteArray) : PutSt w (((w.alloc (.cells #[.string s] 9)).alloc (.cells #[.slice none 0 0] 29)).alloc (.cells #[.int .i64 0] 3)) s 0 (keep []) := by
  have s1 : (w.alloc (.cells #[.string s] 9)).heap.size = w.heap.size + 1 := by simp
  have s2 : ((w.alloc (.cells #[.string s] 9)).alloc (.cells #[.slice none 0 0] 29)).heap.size = w.heap.size + 2 := by simp
  refine ⟨?_, ?_, ⟨.slice none 0 0, ?_, World.ownsRow_nil _ _ _ _⟩, ?_⟩
  · exact (((Below.refl _ _).alloc (Nat.le_refl _) _).alloc (by omega) _).alloc (by omega) _
  · rw [Below.heap_alloc _ _ _ (by omega), Below.heap_alloc _ _ _ (by omega)]; exact alloc_at _ _
  · rw [Below.heap_alloc _ _ _ (by omega), ← s1]; exact alloc_at _ _
  · rw [← s2]; exact alloc_at _ _


set_option maxHeartbeats 4000000 in
theorem split_any (s : ByteArray) (hs : s.size ≤ 100000) (w : World) :
    Calls Tryz.prog 12 #[.string s] w fun e w' => ∃ v, e = .returned v ∧ w'.ownsRow w.heap.size 9 1 v (splitB s).length (strV (splitB s)) ∧ Below w.heap.size w w' := by
  have hmf : ∀ (fn : Fn) (first cap : Array Value) (w : World), (Instr.makeFunc fn first cap).run Tryz.prog w = .ok (.func fn first cap) w := fun _ _ _ _ => rfl
  have hl : s.data.toList.length = s.size := by simp
  have HL := Lib.hid hl
  clear hl
  go_enter Tryz.func12, Tryz.ntmps12
  go_wp2_with fail
  go_step3
  go_wp2_with fail
  go_step3
  go_wp2_with fail
  go_loopw [4, 6] (fun q i wr => ∃ (k fr : Nat) (b : Bool) (done : List (List UInt8)), i = .int .i64 k ∧ q = .bool b ∧ k ≤ s.size + 1 ∧ St s.data.toList k fr b done ∧ PutSt w wr s fr (keep done)) (fun _ i _ => s.size + 1 - (intOf i).toNat)
  case atStart =>
    exact ⟨0, 0, false, [], rfl, rfl, by omega, .inl (At.start _), put_start w s⟩
  case round =>
    obtain ⟨k, fr, b, done, rfl, rfl, hk, hst, hp⟩ := hrel
    have HS := Lib.hid hst
    have HP := hide hp
    have c1 := cell_of_one hp.h1
    clear hst hp
    rcases Nat.lt_or_ge k s.size with hlt | hge
    · have hlt' : k < s.data.toList.length := by rw [HL.out]; exact hlt
      by_cases h34 : (s[k].toNat : Int) = 34
      · have hc : s.data.toList[k]'hlt' = 34 := u8_eq h34
        have HQ := hide (HS.out.quote hlt' hc)
        clear hc
        cases b
        all_goals
          go_wp2_with fail
          go_roundw
          case rel => exact ⟨k + 1, fr, _, done, by go_num, rfl, by omega, unhide HQ, unhide HP⟩
          case measure => simp [intOf]; omega
      · have n34 : s.data.toList[k]'hlt' ≠ 34 := u8_ne (by decide) h34
        cases b
        · by_cases h44 : (s[k].toNat : Int) = 44
          · have hc : s.data.toList[k]'hlt' = 44 := u8_eq h44
            have HQ := hide (HS.out.comma hlt' hc)
            have hfr := (HS.out.at hlt').le
            have hfew := HS.out.few
            rw [HL.out] at hfew
            have hput := hide (put_call w wr s fr k (keep done) (unhide HP) hfr (by omega) (by omega) (by omega))
            clear hc n34
            go_wp2_with (go_at_call 26; refine (unhide hput).mono ?_; rintro e w2 ⟨rfl, h2⟩; rw [← keep_app] at h2; have H2 := hide h2; clear h2)
            go_roundw
            case rel => exact ⟨k + 1, k + 1, _, _, by go_num, rfl, by omega, unhide HQ, unhide H2⟩
            case measure => simp [intOf]; omega
          · have HQ := hide (HS.out.other hlt' (by simp) n34 (fun _ => u8_ne (by decide) h44))
            clear n34
            go_wp2_with fail
            go_roundw
            case rel => exact ⟨k + 1, fr, _, done, by go_num, rfl, by omega, unhide HQ, unhide HP⟩
            case measure => simp [intOf]; omega
        · by_cases h92 : (s[k].toNat : Int) = 92
          · have HQ := hide (HS.out.esc hlt' (u8_eq h92))
            clear n34
            go_wp2_with fail
            go_roundw
            case rel => exact ⟨k + 1 + 1, fr, _, done, by go_num, rfl, by omega, unhide HQ, unhide HP⟩
            case measure => simp [intOf]; omega
          · have HQ := hide (HS.out.other hlt' (fun _ => u8_ne (by decide) h92) n34 (by simp))
            clear n34
            go_wp2_with fail
            all_goals
              go_roundw
              case rel => exact ⟨k + 1, fr, _, done, by go_num, rfl, by omega, unhide HQ, unhide HP⟩
              case measure => simp [intOf]; omega
    · obtain ⟨hfr, hall⟩ := HS.out.end (by rw [HL.out]; exact hge)
      have hfew := HS.out.few
      rw [HL.out] at hfew hfr
      have hput := hide (put_call w wr s fr s.size (keep done) (unhide HP) hfr (by omega) (by omega) (by omega))
      have hres : keep done ++ keep [(s.data.toList.drop fr).take (s.size - fr)] = splitS s.data.toList := by
        rw [List.take_of_length_le (by rw [List.length_drop, HL.out]; omega), ← keep_app, ← hall]
        rfl
      have HR := Lib.hid hres
      clear hres hall
      go_wp2_with (go_at_call 26; refine (unhide hput).mono ?_; rintro e w2 ⟨rfl, h2⟩; rw [HR.out] at h2; have H2 := hide h2; clear h2; obtain ⟨v, hv, ho⟩ := (unhide H2).h2; obtain ⟨ao, cp, rfl⟩ := (Rd.own ho).form; have d1 := cell_of_one (unhide H2).h1; have d2 := cell_of_one hv; have f2 := free_of_one hv)
      rw [Exit.noGoto_ret]
      have e : (splitB s).length = (splitS s.data.toList).length := by unfold splitB; rw [List.length_map]
      have h3 := unhide H2
      have hlv := run_slice_cell (w := w2.setCell ⟨w.heap.size + 1, 0, none⟩ (.slice ao (splitS s.data.toList).length cp)) (cell_of_one (one_setCell hv))
      refine bodyPost_ret (Mem.results_cell1 (ad := ⟨w.heap.size + 1, 0, none⟩) Tryz.results12 rfl hlv) rfl ⟨_, rfl, ?_, h3.bel.setCell (by show w.heap.size ≤ w.heap.size + 1; omega) _⟩
      rw [e]
      exact World.ownsRow.mono (ownsRow_setCell_below ho (by show w.heap.size + 1 < w.heap.size + 2 + 1; omega) _) (by omega)
end Go.Proofs.YtbhpcmbbbomknaaGreatDoor.Sp
