/- Lemmas for the statement's proof, several texts in one: C1, C2, C3. -/
import Derived.Test.YtbpopmbabckojaaGreatDoorZ02
import Derived.Test.YtbpopmbabckojaaGreatDoorZ04
import Derived.Shelf.Strings.SlTrimAscii
import Derived.Test.YtbpopmbabckojaaGreatDoorZ03
import Derived.WalkSmall
import Derived.Deep.Onto
set_option linter.unusedVariables false
set_option linter.unusedSimpArgs false
/- Trimming, by the program and by the reference. -/
section
namespace Go.Proofs.YtbpopmbabckojaaGreatDoor.Sp
open Go.RowKit

theorem trim_any (s : ByteArray) (hs : s.size ≤ 9223372036854775807) (w : World) :
    Calls Tryz.prog 93 #[.string s] w fun e w' => e = .returned (.string (ofL (trimW s.data.toList))) ∧ Below w.heap.size w w' := by
  have c := hide (fun w => Any.strings_Trim_laid Tryz.lays160 (by kernel_rfl) s ⟨#[32, 9]⟩ w hs (by decide) (ascii_of_all (by decide)))
  go_enter Tryz.func93, Tryz.ntmps93
  go_wp2_with fail
  refine (unhide c _).mono ?_; rintro e w1 ⟨rfl, hb⟩
  go_wp2_with fail
  go_ret
  exact ⟨rfl, hb⟩

def whiteI (c : Int) : Bool := decide (c = 32 ∨ c = 9)
theorem white_any (c : Int) (w : World) : Calls Tryz.prog 118 #[.int .u8 c] w fun e w' => e = .returned (.bool (whiteI c)) ∧ w = w' := by
  go_enter Tryz.func118, Tryz.ntmps118
  go_wp2
  all_goals go_ret
  all_goals exact ⟨ret_bool (by unfold whiteI; (first | (with_reducible refine dec_t ?_; omega) | (with_reducible refine dec_f ?_; omega) | (with_reducible refine dec_d ?_; omega) | (with_reducible refine dec_e ?_; omega) | (with_reducible refine dec_n ?_; omega) | (with_reducible refine dec_nd ?_; omega))), rfl⟩
theorem whiteI_B (c : UInt8) : whiteI c.toNat = whiteB c := by
  have := byte_all (fun c => whiteI c.toNat == whiteB c) (by decide +kernel) c
  simpa using this

/-! ### plain -/
theorem left_step {c : UInt8} {t : List UInt8} (h : whiteB c = true) : Lib.trimLeftS (c :: t) [32, 9] = Lib.trimLeftS t [32, 9] := List.dropWhile_cons_of_pos (by exact h)
theorem left_stop {c : UInt8} {t : List UInt8} (h : whiteB c = false) : Lib.trimLeftS (c :: t) [32, 9] = c :: t := List.dropWhile_cons_of_neg (by unfold whiteB at h; rw [h]; decide)
theorem right_step {c : UInt8} {t : List UInt8} (h : whiteB c = true) : Lib.trimRightS (t ++ [c]) [32, 9] = Lib.trimRightS t [32, 9] := by
  unfold Lib.trimRightS
  rw [List.reverse_append]
  show (List.dropWhile _ (c :: t.reverse)).reverse = _
  rw [List.dropWhile_cons_of_pos (by exact h)]
theorem right_stop {c : UInt8} {t : List UInt8} (h : whiteB c = false) : Lib.trimRightS (t ++ [c]) [32, 9] = t ++ [c] := by
  unfold Lib.trimRightS
  rw [List.reverse_append]
  show (List.dropWhile _ (c :: t.reverse)).reverse = _
  rw [List.dropWhile_cons_of_neg (by unfold whiteB at h; rw [h]; decide)]
  simp
theorem take_last (x : ByteArray) (h : 0 < x.size) : x.data.toList = x.data.toList.take (x.size - 1) ++ [x[x.size - 1]'(by omega)] := by
  have hl : x.data.toList.length = x.size := by simp
  have := List.take_succ_eq_append_getElem (l := x.data.toList) (i := x.size - 1) (by omega)
  rw [show x.size - 1 + 1 = x.size by omega, List.take_of_length_le (by omega)] at this
  exact this
def strLen : Value → Nat
  | .string s => s.size
  | _ => 0
theorem ne_case (x : ByteArray) : (x.toList = [] ∧ x.size = 0) ∨ (x.toList.isEmpty = false ∧ 0 < x.size) := by
  have hl : x.data.toList.length = x.size := by simp
  rcases empty_case x with ⟨a, b⟩ | ⟨a, b⟩
  · exact .inl ⟨a, by rw [← hl, b]; rfl⟩
  · refine .inr ⟨a, ?_⟩
    rw [← hl]
    cases h : x.data.toList with
    | nil => exact absurd h b
    | cons c t => simp

set_option maxHeartbeats 1000000 in
theorem rtrim_any (s : ByteArray) (hs : s.size ≤ 9223372036854775807) (w : World) :
    Calls Tryz.prog 98 #[.string s] w fun e w' => e = .returned (.string (ofL (trimW s.data.toList))) ∧ w = w' := by
  go_enter Tryz.func98, Tryz.ntmps98
  go_wp2_with fail
  go_loop [0] (fun v => ∃ x : ByteArray, v = .string x ∧ x.size ≤ s.size ∧ Lib.trimLeftS x.data.toList [32, 9] = Lib.trimLeftS s.data.toList [32, 9]) (fun v => strLen v)
  case atStart => exact ⟨s, rfl, Nat.le_refl _, rfl⟩
  case round =>
    obtain ⟨x, rfl, hx, hl⟩ := hrel
    have HL := Lib.hid hl
    clear hl
    have hcase : (x.data.toList = Lib.trimLeftS s.data.toList [32, 9] ∧ (x.size = 0 ∧ x.toList = [] ∨ ∃ h : 0 < x.size, x.toList.isEmpty = false ∧ whiteI x[0].toNat = false)) ∨ ∃ h : 0 < x.size, x.toList.isEmpty = false ∧ whiteI x[0].toNat = true := by
      rcases ne_case x with ⟨e1, e2⟩ | ⟨e1, e2⟩
      · refine .inl ⟨?_, .inl ⟨e2, e1⟩⟩
        rw [← HL.out]
        have : x.data.toList = [] := List.eq_nil_of_length_eq_zero (by simpa using e2)
        rw [this]; rfl
      · have hd : x.data.toList = x[0] :: x.data.toList.drop 1 := by have := drop_cons x 0 e2; rwa [List.drop_zero] at this
        cases hw : whiteI x[0].toNat
        · refine .inl ⟨?_, .inr ⟨e2, e1, hw⟩⟩
          rw [← HL.out]
          conv => lhs; rw [hd]
          conv => rhs; rw [hd]
          exact (left_stop (by rw [← whiteI_B]; exact hw)).symm
        · exact .inr ⟨e2, e1, hw⟩
    rcases hcase with ⟨hdone, hwhy⟩ | ⟨e2, e1, hw⟩
    rotate_left
    · have hd : x.data.toList = x[0] :: x.data.toList.drop 1 := by have := drop_cons x 0 e2; rwa [List.drop_zero] at this
      have HD := Lib.hid hd
      have he : (x.extract 1 x.size).data.toList = x.data.toList.drop 1 := Lib.extract_to_end x 1
      have hes : (x.extract 1 x.size).size = x.size - 1 := by rw [size_list he, List.length_drop]; simp
      have HE := Lib.hid he
      have HES := Lib.hid hes
      clear hd he hes
      go_wp2_with (go_at_call 118; refine (white_any _ _).mono ?_; rintro e w' ⟨rfl, rfl⟩)
      go_round
      case rel =>
        refine ⟨_, rfl, by rw [HES.out]; omega, ?_⟩
        rw [HE.out, ← HL.out]
        conv => rhs; rw [HD.out]
        exact (left_step (by rw [← whiteI_B]; exact hw)).symm
      case measure => show (x.extract 1 x.size).size < x.size; rw [HES.out]; omega
    have HD := Lib.hid hdone
    clear hdone
    rcases hwhy with ⟨e2, e1⟩ | ⟨e2, e1, hw⟩
    all_goals
      go_wp2_with (go_at_call 118; refine (white_any _ _).mono ?_; rintro e w' ⟨rfl, rfl⟩)
      go_loop [0] (fun v => ∃ y : ByteArray, v = .string y ∧ y.size ≤ s.size ∧ Lib.trimRightS y.data.toList [32, 9] = Lib.trimRightS (Lib.trimLeftS s.data.toList [32, 9]) [32, 9]) (fun v => strLen v)
      case atStart => exact ⟨x, rfl, hx, by rw [HD.out]⟩
      case round =>
        obtain ⟨y, rfl, hy, hr⟩ := hrel
        have HR := Lib.hid hr
        clear hr hx HL HD
        rcases ne_case y with ⟨y1, y2⟩ | ⟨y1, y2⟩
        · have hfin : y = ofL (trimW s.data.toList) := by
            have : y.data.toList = [] := List.eq_nil_of_length_eq_zero (by simpa using y2)
            rw [← trim_comm, ← HR.out, this]
            exact ba_eq this
          have HF := Lib.hid hfin
          clear hfin
          go_wp2_with fail
          go_ret
          exact ⟨by rw [← HF.out] <;> rfl, rfl⟩
        · have hz : y.size - 1 < y.size := by omega
          have hd := take_last y y2
          cases hv : whiteI (y[y.size - 1]'hz).toNat
          · have hfin : y = ofL (trimW s.data.toList) := by
              rw [← trim_comm, ← HR.out]
              have : Lib.trimRightS y.data.toList [32, 9] = y.data.toList := by
                rw [hd]; exact right_stop (by rw [← whiteI_B]; exact hv)
              rw [this]; rfl
            have HF := Lib.hid hfin
            clear hfin hd
            go_wp2_with (go_at_call 118; refine (white_any _ _).mono ?_; rintro e w' ⟨rfl, rfl⟩)
            go_ret
            exact ⟨by rw [← HF.out] <;> rfl, rfl⟩
          · have HD := Lib.hid hd
            have he : (y.extract 0 (y.size - 1)).data.toList = y.data.toList.take (y.size - 1) := by rw [Lib.extract_data]; rfl
            have hes : (y.extract 0 (y.size - 1)).size = y.size - 1 := by rw [size_list he, List.length_take]; simp
            have HE := Lib.hid he
            have HES := Lib.hid hes
            clear hd he hes
            go_wp2_with (go_at_call 118; refine (white_any _ _).mono ?_; rintro e w' ⟨rfl, rfl⟩)
            go_round
            case rel =>
              refine ⟨_, rfl, by rw [HES.out]; omega, ?_⟩
              rw [HE.out, ← HR.out]
              conv => rhs; rw [HD.out]
              exact (right_step (by rw [← whiteI_B]; exact hv)).symm
            case measure => show (y.extract 0 (y.size - 1)).size < y.size; rw [HES.out]; omega
end Go.Proofs.YtbpopmbabckojaaGreatDoor.Sp
end

/- The parts between commas, by the program. -/
section
namespace Go.Proofs.YtbpopmbabckojaaGreatDoor.Sp
open Go.RowKit Sl


/-- the three boxes of Split and what the row of parts holds -/
structure PutSt (w0 w : World) (s : ByteArray) (fr : Nat) (ps : List (List UInt8)) : Prop where
  bel : Below w0.heap.size w0 w
  h1 : w.heap[w0.heap.size]? = some (.cells #[.string s] 9 (0, 0))
  h2 : ∃ v, w.heap[w0.heap.size + 1]? = some (.cells #[v] 51 (0, 0)) ∧ w.ownsRow (w0.heap.size + 2 + 1) 9 1 v ps.length (strV (ps.map ofL))
  h3 : w.heap[w0.heap.size + 2]? = some (.cells #[.int .i64 fr] 3 (0, 0))

theorem PutSt.lt {w0 w : World} {s : ByteArray} {fr : Nat} {ps : List (List UInt8)} (h : PutSt w0 w s fr ps) : w0.heap.size + 2 < w.heap.size := lt_of_block h.h3
theorem PutSt.kept {w0 w w' : World} {s : ByteArray} {fr : Nat} {ps : List (List UInt8)} (h : PutSt w0 w s fr ps) (hb : Below w.heap.size w w') : PutSt w0 w' s fr ps := by
  have hl := h.lt
  refine ⟨h.bel.trans (hb.mono (by omega)), (hb.block _ (by omega)).trans h.h1, ?_, (hb.block _ (by omega)).trans h.h3⟩
  obtain ⟨v, e, ho⟩ := h.h2
  exact ⟨v, (hb.block _ (by omega)).trans e, ((⟨ho, Below.refl _ _, by omega⟩ : Own w w _ _ _ _ _ _).call hb).own⟩

theorem keep_snoc (ps : List (List UInt8)) (p : List UInt8) (h : (trimW p).isEmpty = false) : strV (ps.map ofL) ++ [.string (ofL (trimW p))] = strV ((ps ++ keep [p]).map ofL) := by
  rw [keep_one, if_neg (by rw [h]; decide), List.map_append, strV_app]; rfl


def byteI (s : ByteArray) (i : Nat) : UInt8 := s.data.toList.getD i 0
theorem at_get (s : ByteArray) (i : Nat) (h : i < s.size) : s.data.toList[i]'(by simpa using h) = s[i] := rfl


/-- where a reader of parts stands; behind the end if the last byte was a backslash in quotes -/
def St (l : List UInt8) (k fr : Nat) (q : Bool) (done : List (List UInt8)) : Prop :=
  At l fr k q done ∨ (k = l.length + 1 ∧ fr ≤ l.length ∧ pieces false [] l = done ++ [l.drop fr])
theorem St.at {l : List UInt8} {k fr : Nat} {q : Bool} {done : List (List UInt8)} (h : St l k fr q done) (hk : k < l.length) : At l fr k q done := by
  rcases h with h | ⟨h, _⟩
  · exact h
  · omega
theorem St.end {l : List UInt8} {k fr : Nat} {q : Bool} {done : List (List UInt8)} (h : St l k fr q done) (hk : l.length ≤ k) : fr ≤ l.length ∧ pieces false [] l = done ++ [l.drop fr] := by
  rcases h with h | ⟨_, h1, h2⟩
  · have e : k = l.length := by have := h.lt; omega
    subst e
    exact ⟨h.le, h.stop⟩
  · exact ⟨h1, h2⟩
theorem St.few {l : List UInt8} {k fr : Nat} {q : Bool} {done : List (List UInt8)} (h : St l k fr q done) : (keep done).length ≤ l.length + 1 := by
  have h1 : (keep done).length ≤ done.length := by
    unfold keep
    refine Nat.le_trans (List.length_filter_le _ _) ?_
    rw [List.length_map]; exact Nat.le_refl _
  have h2 := pieces_len l l.length false [] l (Nat.le_refl _)
  rcases h with h | ⟨_, _, h⟩
  · rw [h.eq, List.length_append] at h2; omega
  · rw [h, List.length_append] at h2; omega
theorem St.esc {l : List UInt8} {k fr : Nat} {done : List (List UInt8)} (h : St l k fr true done) (hk : k < l.length) (hc : l[k] = 92) : St l (k + 1 + 1) fr true done := by
  have ha := h.at hk
  rcases Nat.lt_or_ge (k + 1) l.length with h1 | h1
  · exact .inl (ha.esc h1 (by simp [hc]))
  · exact .inr ⟨by omega, by have := ha.le; omega, ha.esc_end hk (by omega) (by simp [hc])⟩
theorem St.quote {l : List UInt8} {k fr : Nat} {q : Bool} {done : List (List UInt8)} (h : St l k fr q done) (hk : k < l.length) (hc : l[k] = 34) : St l (k + 1) fr (!q) done :=
  .inl ((h.at hk).quote hk (by rw [hc]; cases q <;> decide) (by rw [hc]; decide))
theorem St.comma {l : List UInt8} {k fr : Nat} {done : List (List UInt8)} (h : St l k fr false done) (hk : k < l.length) (hc : l[k] = 44) : St l (k + 1) (k + 1) false (done ++ [(l.drop fr).take (k - fr)]) :=
  .inl ((h.at hk).comma hk (by simp) (by rw [hc]; decide) (by rw [hc]; decide))
theorem St.other {l : List UInt8} {k fr : Nat} {q : Bool} {done : List (List UInt8)} (h : St l k fr q done) (hk : k < l.length) (h1 : q = true → l[k] ≠ 92) (h2 : l[k] ≠ 34) (h3 : q = false → l[k] ≠ 44) : St l (k + 1) fr q done := by
  refine .inl ((h.at hk).other hk ?_ ?_ ?_)
  · cases q
    · simp
    · simpa using h1 rfl
  · simpa using h2
  · cases q
    · simpa using h3 rfl
    · simp


theorem put_start (w : World) (s : ByteArray) : PutSt w (((w.alloc (.cells #[.string s] 9)).alloc (.cells #[.slice none 0 0] 51)).alloc (.cells #[.int .i64 0] 3)) s 0 (keep []) := by
  have s1 : (w.alloc (.cells #[.string s] 9)).heap.size = w.heap.size + 1 := by simp
  have s2 : ((w.alloc (.cells #[.string s] 9)).alloc (.cells #[.slice none 0 0] 51)).heap.size = w.heap.size + 2 := by simp
  refine ⟨?_, ?_, ⟨.slice none 0 0, ?_, World.ownsRow_nil _ _ _ _⟩, ?_⟩
  · exact (((Below.refl _ _).alloc (Nat.le_refl _) _).alloc (by omega) _).alloc (by omega) _
  · rw [Below.heap_alloc _ _ _ (by omega), Below.heap_alloc _ _ _ (by omega)]; exact alloc_at _ _
  · rw [Below.heap_alloc _ _ _ (by omega), ← s1]; exact alloc_at _ _
  · rw [← s2]; exact alloc_at _ _


end Go.Proofs.YtbpopmbabckojaaGreatDoor.Sp
end

/- The parts between commas, by the reference. -/
section
namespace Go.Proofs.YtbpopmbabckojaaGreatDoor.Sp
open Go.RowKit Sl

/-- where the reference's reader stands -/
def St2 (l : List UInt8) (k fr : Nat) (q : Bool) (done : List (List UInt8)) : Prop :=
  At l fr k q done ∨ (k = l.length + 1 ∧ fr < l.length ∧ pieces false [] l = done ++ [l.drop fr]) ∨ (k = l.length + 1 ∧ l.length ≤ fr ∧ pieces false [] l = done)
theorem St2.at {l : List UInt8} {k fr : Nat} {q : Bool} {done : List (List UInt8)} (h : St2 l k fr q done) (hk : k ≤ l.length) : At l fr k q done := by
  rcases h with h | ⟨h, _⟩ | ⟨h, _⟩
  · exact h
  · omega
  · omega
theorem St2.end {l : List UInt8} {k fr : Nat} {q : Bool} {done : List (List UInt8)} (h : St2 l k fr q done) (hk : l.length < k) : (fr < l.length ∧ pieces false [] l = done ++ [l.drop fr]) ∨ (l.length ≤ fr ∧ pieces false [] l = done) := by
  rcases h with h | ⟨_, h⟩ | ⟨_, h⟩
  · have := h.lt; omega
  · exact .inl h
  · exact .inr h
theorem St2.few {l : List UInt8} {k fr : Nat} {q : Bool} {done : List (List UInt8)} (h : St2 l k fr q done) : (keep done).length ≤ l.length + 1 := by
  have h1 : (keep done).length ≤ done.length := by
    unfold keep
    refine Nat.le_trans (List.length_filter_le _ _) ?_
    rw [List.length_map]; exact Nat.le_refl _
  have h2 := pieces_len l l.length false [] l (Nat.le_refl _)
  rcases h with h | ⟨_, _, h⟩ | ⟨_, _, h⟩
  · rw [h.eq, List.length_append] at h2; omega
  · rw [h, List.length_append] at h2; omega
  · rw [h] at h2; omega
theorem At.esc2 {l : List UInt8} {k fr : Nat} {done : List (List UInt8)} (h : At l fr k true done) (hk : k < l.length) (hc : l[k] = 92) : St2 l (k + 1 + 1) fr true done := by
  rcases Nat.lt_or_ge (k + 1) l.length with h1 | h1
  · exact .inl (h.esc h1 (by simp [hc]))
  · exact .inr (.inl ⟨by omega, by have := h.le; omega, h.esc_end hk (by omega) (by simp [hc])⟩)
theorem At.last2 {l : List UInt8} {k fr : Nat} {q : Bool} {done : List (List UInt8)} (h : At l fr k q done) (hk : k = l.length) : St2 l (k + 1) (k + 1) q (done ++ [(l.drop fr).take (k - fr)]) := by
  subst hk
  refine .inr (.inr ⟨rfl, by omega, ?_⟩)
  rw [h.stop, List.take_of_length_le (by rw [List.length_drop]; exact Nat.le_refl _)]

/-- what the row of parts holds -/
def RowSt (w wr : World) (v : Value) (done : List (List UInt8)) : Prop := Own w wr w.heap.size 9 1 v (keep done).length (strV ((keep done).map ofL))
theorem RowSt.form {w wr : World} {v : Value} {done : List (List UInt8)} (h : RowSt w wr v done) : ∃ ao cap, v = .slice ao (keep done).length cap := (Rd.own h.own).form
theorem RowSt.same {w wr : World} {v : Value} {done : List (List UInt8)} {p : List UInt8} (h : RowSt w wr v done) (hp : (trimW p).isEmpty = true) : RowSt w wr v (done ++ [p]) := by
  unfold RowSt
  rw [keep_app, keep_one, if_pos hp, List.append_nil]; exact h
theorem RowSt.more {w wr : World} {v : Value} {done : List (List UInt8)} {p : List UInt8} (hp : (trimW p).isEmpty = false) (h : Own w wr w.heap.size 9 1 v ((keep done).length + 1) (strV ((keep done).map ofL) ++ [.string (ofL (trimW p))])) : RowSt w wr v (done ++ [p]) := by
  unfold RowSt
  rw [keep_app, ← keep_snoc _ _ hp]
  have : (keep done ++ keep [p]).length = (keep done).length + 1 := by rw [keep_one, if_neg (by rw [hp]; decide)]; simp
  rw [this]; exact h

theorem part_empty {x p : ByteArray} {l : List UInt8} (hx : x.data.toList = l) (hp : ofL (trimW x.data.toList) = p) : p.toList.isEmpty = (trimW l).isEmpty := by
  rw [← hp, Lib.toList_data, ofL_data, hx]

theorem ofS (s : ByteArray) : strV (splitB s) = strV ((splitS s.data.toList).map ofL) := rfl
theorem row_done {w wr : World} {v : Value} {done : List (List UInt8)} {s : ByteArray} (h : RowSt w wr v done) (hd : pieces false [] s.data.toList = done) : wr.ownsRow w.heap.size 9 1 v (splitB s).length (strV (splitB s)) := by
  unfold splitB splitS
  rw [hd, List.length_map]
  exact h.own

set_option maxHeartbeats 4000000 in
theorem rsplit_any (s : ByteArray) (hs : s.size ≤ 100000) (w : World) :
    Calls Tryz.prog 154 #[.string s] w fun e w' => ∃ v, e = .returned v ∧ w'.ownsRow w.heap.size 9 1 v (splitB s).length (strV (splitB s)) ∧ Below w.heap.size w w' := by
  have hl : s.data.toList.length = s.size := by simp
  have HL := Lib.hid hl
  clear hl
  go_enter Tryz.func154, Tryz.ntmps154
  go_wp2_with fail
  go_loopw [3, 4, 5, 6] (fun v f q i wr => ∃ (k fr : Nat) (b : Bool) (done : List (List UInt8)), i = .int .i64 k ∧ f = .int .i64 fr ∧ q = .bool b ∧ k ≤ s.size + 1 ∧ fr ≤ k ∧ St2 s.data.toList k fr b done ∧ RowSt w wr v done) (fun _ _ _ i _ => s.size + 1 - (intOf i).toNat)
  case atStart => exact ⟨0, 0, false, [], rfl, rfl, rfl, by omega, Nat.le_refl _, .inl (At.start _), Own.start _ _ (Nat.le_refl _) _ _⟩
  case round =>
    obtain ⟨k, fr, b, done, rfl, rfl, rfl, hk, hfk, hst, hrow⟩ := hrel
    obtain ⟨ao, cp, rfl⟩ := hrow.form
    have HS := Lib.hid hst
    have HO := hide hrow
    have hfew := hst.few
    rw [HL.out] at hfew
    clear hst hrow
    rcases Nat.lt_or_ge s.size k with hgt | hle
    · have hend := HS.out.end (by rw [HL.out]; exact hgt)
      rcases hend with ⟨hf, hd⟩ | ⟨hf, hd⟩
      · rw [HL.out] at hf
        have HD := Lib.hid hd
        clear hd HS
        obtain ⟨p, hp⟩ : ∃ p : ByteArray, ofL (trimW (s.extract fr s.size).data.toList) = p := ⟨_, rfl⟩
        have HP := Lib.hid hp
        clear hp
        have hx : (s.extract fr s.size).data.toList = (s.data.toList.drop fr).take (s.size - fr) := Lib.extract_data s fr s.size
        have hxs : (s.extract fr s.size).size ≤ 9223372036854775807 := by
          rw [size_list hx, List.length_take, List.length_drop]; simp; omega
        have hpe := part_empty hx HP.out
        have HX := Lib.hid hx
        have HE := Lib.hid hpe
        clear hx hpe
        have hfin : (s.data.toList.drop fr).take (s.size - fr) = s.data.toList.drop fr := List.take_of_length_le (by rw [List.length_drop, HL.out]; exact Nat.le_refl _)
        have HM : Hid (s.size = s.size) := Lib.hid rfl
        have HFI := Lib.hid hfin
        clear hfin
        rcases ne_case p with ⟨e1, e2⟩ | ⟨e1, e2⟩
        · have hr := hide ((unhide HO).same (p := (s.data.toList.drop fr).take (s.size - fr)) (by rw [← HE.out, e1]; rfl))
          go_wp2_with (go_at_call 98; (try rw [HM.out]); refine (rtrim_any _ hxs _).mono ?_; rintro e w1 ⟨he, rfl⟩; rw [HP.out] at he; subst he)
          go_ret
          refine ⟨_, rfl, row_done (unhide hr) (by rw [HFI.out]; exact HD.out), (unhide hr).bel⟩
        · have hne : (trimW ((s.data.toList.drop fr).take (s.size - fr))).isEmpty = false := by rw [← HE.out]; exact e1
          have hpp : p = ofL (trimW ((s.data.toList.drop fr).take (s.size - fr))) := by rw [← HX.out]; exact HP.out.symm
          have HN := Lib.hid hne
          have HPP := Lib.hid hpp
          clear hne hpp
          go_wp2_with (first | (at_builtin; refine wpList_pushS (w0 := w) rfl _ _ rfl w.heap.size _ _ _ rfl (unhide HO) p rfl _ rfl (by omega) ?_; intro v' w2 h2; obtain ⟨ao', cp', rfl⟩ := (Rd.own h2.own).form; have H2 := hide h2; clear h2) | (go_at_call 98; (try rw [HM.out]); refine (rtrim_any _ hxs _).mono ?_; rintro e w1 ⟨he, rfl⟩; rw [HP.out] at he; subst he))
          have hr := RowSt.more HN.out (by rw [← HPP.out]; exact unhide H2)
          go_ret
          refine ⟨_, rfl, row_done hr (by rw [HFI.out]; exact HD.out), hr.bel⟩
      · rw [HL.out] at hf
        have HD := Lib.hid hd
        clear hd HS
        go_wp2_with fail
        go_ret
        refine ⟨_, rfl, row_done (unhide HO) HD.out, (unhide HO).bel⟩
    · have ha := HS.out.at (by rw [HL.out]; exact hle)
      have HA := Lib.hid ha
      clear ha HS
      obtain ⟨p, hp⟩ : ∃ p : ByteArray, ofL (trimW (s.extract fr k).data.toList) = p := ⟨_, rfl⟩
      have HP := Lib.hid hp
      clear hp
      have hx : (s.extract fr k).data.toList = (s.data.toList.drop fr).take (k - fr) := Lib.extract_data s fr k
      have hxs : (s.extract fr k).size ≤ 9223372036854775807 := by
        rw [size_list hx, List.length_take, List.length_drop]; simp; omega
      have hpe := part_empty hx HP.out
      have HX := Lib.hid hx
      have HE := Lib.hid hpe
      clear hx hpe
      have hm : (min (k : Int) (s.size : Int)).toNat = k := by omega
      have HM := Lib.hid hm
      clear hm
      rcases Nat.lt_or_ge k s.size with hlt | hge
      · have hlt' : k < s.data.toList.length := by rw [HL.out]; exact hlt
        by_cases h34 : (s[k].toNat : Int) = 34
        · have hc : s.data.toList[k]'hlt' = 34 := u8_eq h34
          have HQ := hide (HA.out.quote hlt' (by rw [hc]; cases b <;> decide) (by rw [hc]; decide))
          clear hc
          cases b
          all_goals
            go_wp2_with fail
            go_roundw
            case rel => exact ⟨k + 1, fr, _, done, by go_num, rfl, rfl, by omega, by omega, .inl (unhide HQ), unhide HO⟩
            case measure => simp [intOf]; omega
        · have n34 : s.data.toList[k]'hlt' ≠ 34 := u8_ne (by decide) h34
          cases b
          · by_cases h44 : (s[k].toNat : Int) = 44
            · have hc : s.data.toList[k]'hlt' = 44 := u8_eq h44
              have HQ : Hid (St2 s.data.toList (k + 1) (k + 1) false (done ++ [(s.data.toList.drop fr).take (k - fr)])) := hide (.inl (HA.out.comma hlt' (by simp) (by rw [hc]; decide) (by rw [hc]; decide)))
              clear hc n34
              rcases ne_case p with ⟨e1, e2⟩ | ⟨e1, e2⟩
              · have hr := hide ((unhide HO).same (p := (s.data.toList.drop fr).take (k - fr)) (by rw [← HE.out, e1]; rfl))
                go_wp2_with (go_at_call 98; (try rw [HM.out]); refine (rtrim_any _ hxs _).mono ?_; rintro e w1 ⟨he, rfl⟩; rw [HP.out] at he; subst he)
                go_roundw
                case rel => exact ⟨k + 1, k + 1, _, _, by go_num, by go_num, rfl, by omega, Nat.le_refl _, unhide HQ, unhide hr⟩
                case measure => simp [intOf]; omega
              · have hne : (trimW ((s.data.toList.drop fr).take (k - fr))).isEmpty = false := by rw [← HE.out]; exact e1
                have hpp : p = ofL (trimW ((s.data.toList.drop fr).take (k - fr))) := by rw [← HX.out]; exact HP.out.symm
                have HN := Lib.hid hne
                have HPP := Lib.hid hpp
                clear hne hpp
                go_wp2_with (first | (at_builtin; refine wpList_pushS (w0 := w) rfl _ _ rfl w.heap.size _ _ _ rfl (unhide HO) p rfl _ rfl (by omega) ?_; intro v' w2 h2; obtain ⟨ao', cp', rfl⟩ := (Rd.own h2.own).form; have H2 := hide h2; clear h2) | (go_at_call 98; (try rw [HM.out]); refine (rtrim_any _ hxs _).mono ?_; rintro e w1 ⟨he, rfl⟩; rw [HP.out] at he; subst he))
                have hr := RowSt.more HN.out (by rw [← HPP.out]; exact unhide H2)
                go_roundw
                case rel => exact ⟨k + 1, k + 1, _, _, by go_num, by go_num, rfl, by omega, Nat.le_refl _, unhide HQ, hr⟩
                case measure => simp [intOf]; omega
            · have HQ := hide ((HA.out.other hlt' (by simp) (by simpa using n34) (by simpa using (u8_ne (n := 44) (by decide) h44 : s.data.toList[k]'hlt' ≠ 44))))
              clear n34
              go_wp2_with fail
              go_roundw
              case rel => exact ⟨k + 1, fr, _, done, by go_num, rfl, rfl, by omega, by omega, .inl (unhide HQ), unhide HO⟩
              case measure => simp [intOf]; omega
          · by_cases h92 : (s[k].toNat : Int) = 92
            · have HQ := hide (HA.out.esc2 hlt' (u8_eq h92))
              clear n34
              go_wp2_with fail
              go_roundw
              case rel => exact ⟨k + 1 + 1, fr, _, done, by go_num, rfl, rfl, by omega, by omega, unhide HQ, unhide HO⟩
              case measure => simp [intOf]; omega
            · have HQ := hide ((HA.out.other hlt' (by simpa using (u8_ne (n := 92) (by decide) h92 : s.data.toList[k]'hlt' ≠ 92)) (by simpa using n34) (by simp)))
              clear n34
              go_wp2_with fail
              all_goals
                go_roundw
                case rel => exact ⟨k + 1, fr, _, done, by go_num, rfl, rfl, by omega, by omega, .inl (unhide HQ), unhide HO⟩
                case measure => simp [intOf]; omega
      · have e : k = s.size := by omega
        have HQ := hide (HA.out.last2 (by rw [HL.out]; exact e))
        have HEQ := Lib.hid e
        clear e
        rcases ne_case p with ⟨e1, e2⟩ | ⟨e1, e2⟩
        · have hr := hide ((unhide HO).same (p := (s.data.toList.drop fr).take (k - fr)) (by rw [← HE.out, e1]; rfl))
          go_wp2_with (go_at_call 98; (try rw [HM.out]); refine (rtrim_any _ hxs _).mono ?_; rintro e w1 ⟨he, rfl⟩; rw [HP.out] at he; subst he)
          go_roundw
          case rel => exact ⟨k + 1, k + 1, _, _, by go_num, by go_num, rfl, by omega, Nat.le_refl _, unhide HQ, unhide hr⟩
          case measure => simp [intOf]; omega
        · have hne : (trimW ((s.data.toList.drop fr).take (k - fr))).isEmpty = false := by rw [← HE.out]; exact e1
          have hpp : p = ofL (trimW ((s.data.toList.drop fr).take (k - fr))) := by rw [← HX.out]; exact HP.out.symm
          have HN := Lib.hid hne
          have HPP := Lib.hid hpp
          clear hne hpp
          go_wp2_with (first | (at_builtin; refine wpList_pushS (w0 := w) rfl _ _ rfl w.heap.size _ _ _ rfl (unhide HO) p rfl _ rfl (by omega) ?_; intro v' w2 h2; obtain ⟨ao', cp', rfl⟩ := (Rd.own h2.own).form; have H2 := hide h2; clear h2) | (go_at_call 98; (try rw [HM.out]); refine (rtrim_any _ hxs _).mono ?_; rintro e w1 ⟨he, rfl⟩; rw [HP.out] at he; subst he))
          have hr := RowSt.more HN.out (by rw [← HPP.out]; exact unhide H2)
          go_roundw
          case rel => exact ⟨k + 1, k + 1, _, _, by go_num, by go_num, rfl, by omega, Nat.le_refl _, unhide HQ, hr⟩
          case measure => simp [intOf]; omega
end Go.Proofs.YtbpopmbabckojaaGreatDoor.Sp
end
