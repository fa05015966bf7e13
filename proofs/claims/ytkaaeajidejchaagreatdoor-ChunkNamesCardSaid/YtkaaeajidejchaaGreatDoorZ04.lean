/- Lemmas for the statement's proof, several texts in one: C1, C2, C3, C4, C5, C7, C8, C9, C10, Ks, C12, Cut, F1, F2. -/
import Derived.Test.YtkaaeajidejchaaGreatDoorZ03
import Derived.Test.YtkaaeajidejchaaGreatDoorZ02
import Derived.Shelf.Strings.SlTrimAscii
import Derived.Test.YtkaaeajidejchaaGreatDoorZ01
import Derived.WalkSmall
import Derived.Deep.Onto
import Derived.Lib.SliceRun
import Derived.Deep.AppendLies
import Derived.Laws.StructEq
import Derived.Lib.IndexMore
set_option linter.unusedVariables false
set_option linter.unusedSimpArgs false
/- Trimming, by the program and by the reference. -/
section
namespace Go.Proofs.YtkaaeajidejchaaGreatDoor.Sp
open Go.RowKit

theorem trim_any (s : ByteArray) (hs : s.size ≤ 9223372036854775807) (w : World) :
    Calls Tryz.prog 70 #[.string s] w fun e w' => e = .returned (.string (ofL (trimW s.data.toList))) ∧ Below w.heap.size w w' := by
  have c := hide (fun w => Any.strings_Trim_laid Tryz.lays160 (by kernel_rfl) s ⟨#[32, 9]⟩ w hs (by decide) (ascii_of_all (by decide)))
  go_enter Tryz.func70, Tryz.ntmps70
  go_wp2_with fail
  refine (unhide c _).mono ?_; rintro e w1 ⟨rfl, hb⟩
  go_wp2_with fail
  go_ret
  exact ⟨rfl, hb⟩

def whiteI (c : Int) : Bool := decide (c = 32 ∨ c = 9)
theorem white_any (c : Int) (w : World) : Calls Tryz.prog 94 #[.int .u8 c] w fun e w' => e = .returned (.bool (whiteI c)) ∧ w = w' := by
  go_enter Tryz.func94, Tryz.ntmps94
  go_wp2
  all_goals go_ret
  all_goals exact ⟨ret_bool (by unfold whiteI; (first | (with_reducible refine dec_t ?_; omega) | (with_reducible refine dec_f ?_; omega) | (with_reducible refine dec_d ?_; omega) | (with_reducible refine dec_e ?_; omega) | (with_reducible refine dec_n ?_; omega) | (with_reducible refine dec_nd ?_; omega))), rfl⟩
theorem whiteI_B (c : UInt8) : whiteI c.toNat = whiteB c := by
  have := byte_all (fun c => whiteI c.toNat == whiteB c) (by decide +kernel) c
  simpa using this

/-! ### plain -/
theorem left_step {c : UInt8} {t : List UInt8} (h : whiteB c = true) : Lib.trimLeftS (c :: t) [32, 9] = Lib.trimLeftS t [32, 9] := List.dropWhile_cons_of_pos (by exact h)
theorem left_stop {c : UInt8} {t : List UInt8} (h : whiteB c = false) : Lib.trimLeftS (c :: t) [32, 9] = c :: t := List.dropWhile_cons_of_neg (by unfold whiteB at h; rw [h]; decide)
theorem right_step {c : UInt8} {t : List UInt8} (h : whiteB c = true) : Lib.trimRightS (t ++ [c]) [32, 9] = Lib.trimRightS t [32, 9] := by
  unfold Lib.trimRightS
  rw [List.reverse_append]
  show (List.dropWhile _ (c :: t.reverse)).reverse = _
  rw [List.dropWhile_cons_of_pos (by exact h)]
theorem right_stop {c : UInt8} {t : List UInt8} (h : whiteB c = false) : Lib.trimRightS (t ++ [c]) [32, 9] = t ++ [c] := by
  unfold Lib.trimRightS
  rw [List.reverse_append]
  show (List.dropWhile _ (c :: t.reverse)).reverse = _
  rw [List.dropWhile_cons_of_neg (by unfold whiteB at h; rw [h]; decide)]
  simp
theorem take_last (x : ByteArray) (h : 0 < x.size) : x.data.toList = x.data.toList.take (x.size - 1) ++ [x[x.size - 1]'(by omega)] := by
  have hl : x.data.toList.length = x.size := by simp
  have := List.take_succ_eq_append_getElem (l := x.data.toList) (i := x.size - 1) (by omega)
  rw [show x.size - 1 + 1 = x.size by omega, List.take_of_length_le (by omega)] at this
  exact this
def strLen : Value → Nat
  | .string s => s.size
  | _ => 0
theorem ne_case (x : ByteArray) : (x.toList = [] ∧ x.size = 0) ∨ (x.toList.isEmpty = false ∧ 0 < x.size) := by
  have hl : x.data.toList.length = x.size := by simp
  rcases empty_case x with ⟨a, b⟩ | ⟨a, b⟩
  · exact .inl ⟨a, by rw [← hl, b]; rfl⟩
  · refine .inr ⟨a, ?_⟩
    rw [← hl]
    cases h : x.data.toList with
    | nil => exact absurd h b
    | cons c t => simp

set_option maxHeartbeats 1000000 in
theorem rtrim_any (s : ByteArray) (hs : s.size ≤ 9223372036854775807) (w : World) :
    Calls Tryz.prog 77 #[.string s] w fun e w' => e = .returned (.string (ofL (trimW s.data.toList))) ∧ w = w' := by
  go_enter Tryz.func77, Tryz.ntmps77
  go_wp2_with fail
  go_loop [0] (fun v => ∃ x : ByteArray, v = .string x ∧ x.size ≤ s.size ∧ Lib.trimLeftS x.data.toList [32, 9] = Lib.trimLeftS s.data.toList [32, 9]) (fun v => strLen v)
  case atStart => exact ⟨s, rfl, Nat.le_refl _, rfl⟩
  case round =>
    obtain ⟨x, rfl, hx, hl⟩ := hrel
    have HL := Lib.hid hl
    clear hl
    have hcase : (x.data.toList = Lib.trimLeftS s.data.toList [32, 9] ∧ (x.size = 0 ∧ x.toList = [] ∨ ∃ h : 0 < x.size, x.toList.isEmpty = false ∧ whiteI x[0].toNat = false)) ∨ ∃ h : 0 < x.size, x.toList.isEmpty = false ∧ whiteI x[0].toNat = true := by
      rcases ne_case x with ⟨e1, e2⟩ | ⟨e1, e2⟩
      · refine .inl ⟨?_, .inl ⟨e2, e1⟩⟩
        rw [← HL.out]
        have : x.data.toList = [] := List.eq_nil_of_length_eq_zero (by simpa using e2)
        rw [this]; rfl
      · have hd : x.data.toList = x[0] :: x.data.toList.drop 1 := by have := drop_cons x 0 e2; rwa [List.drop_zero] at this
        cases hw : whiteI x[0].toNat
        · refine .inl ⟨?_, .inr ⟨e2, e1, hw⟩⟩
          rw [← HL.out]
          conv => lhs; rw [hd]
          conv => rhs; rw [hd]
          exact (left_stop (by rw [← whiteI_B]; exact hw)).symm
        · exact .inr ⟨e2, e1, hw⟩
    rcases hcase with ⟨hdone, hwhy⟩ | ⟨e2, e1, hw⟩
    rotate_left
    · have hd : x.data.toList = x[0] :: x.data.toList.drop 1 := by have := drop_cons x 0 e2; rwa [List.drop_zero] at this
      have HD := Lib.hid hd
      have he : (x.extract 1 x.size).data.toList = x.data.toList.drop 1 := Lib.extract_to_end x 1
      have hes : (x.extract 1 x.size).size = x.size - 1 := by rw [size_list he, List.length_drop]; simp
      have HE := Lib.hid he
      have HES := Lib.hid hes
      clear hd he hes
      go_wp2_with (go_at_call 94; refine (white_any _ _).mono ?_; rintro e w' ⟨rfl, rfl⟩)
      go_round
      case rel =>
        refine ⟨_, rfl, by rw [HES.out]; omega, ?_⟩
        rw [HE.out, ← HL.out]
        conv => rhs; rw [HD.out]
        exact (left_step (by rw [← whiteI_B]; exact hw)).symm
      case measure => show (x.extract 1 x.size).size < x.size; rw [HES.out]; omega
    have HD := Lib.hid hdone
    clear hdone
    rcases hwhy with ⟨e2, e1⟩ | ⟨e2, e1, hw⟩
    all_goals
      go_wp2_with (go_at_call 94; refine (white_any _ _).mono ?_; rintro e w' ⟨rfl, rfl⟩)
      go_loop [0] (fun v => ∃ y : ByteArray, v = .string y ∧ y.size ≤ s.size ∧ Lib.trimRightS y.data.toList [32, 9] = Lib.trimRightS (Lib.trimLeftS s.data.toList [32, 9]) [32, 9]) (fun v => strLen v)
      case atStart => exact ⟨x, rfl, hx, by rw [HD.out]⟩
      case round =>
        obtain ⟨y, rfl, hy, hr⟩ := hrel
        have HR := Lib.hid hr
        clear hr hx HL HD
        rcases ne_case y with ⟨y1, y2⟩ | ⟨y1, y2⟩
        · have hfin : y = ofL (trimW s.data.toList) := by
            have : y.data.toList = [] := List.eq_nil_of_length_eq_zero (by simpa using y2)
            rw [← trim_comm, ← HR.out, this]
            exact ba_eq this
          have HF := Lib.hid hfin
          clear hfin
          go_wp2_with fail
          go_ret
          exact ⟨by rw [← HF.out] <;> rfl, rfl⟩
        · have hz : y.size - 1 < y.size := by omega
          have hd := take_last y y2
          cases hv : whiteI (y[y.size - 1]'hz).toNat
          · have hfin : y = ofL (trimW s.data.toList) := by
              rw [← trim_comm, ← HR.out]
              have : Lib.trimRightS y.data.toList [32, 9] = y.data.toList := by
                rw [hd]; exact right_stop (by rw [← whiteI_B]; exact hv)
              rw [this]; rfl
            have HF := Lib.hid hfin
            clear hfin hd
            go_wp2_with (go_at_call 94; refine (white_any _ _).mono ?_; rintro e w' ⟨rfl, rfl⟩)
            go_ret
            exact ⟨by rw [← HF.out] <;> rfl, rfl⟩
          · have HD := Lib.hid hd
            have he : (y.extract 0 (y.size - 1)).data.toList = y.data.toList.take (y.size - 1) := by rw [Lib.extract_data]; rfl
            have hes : (y.extract 0 (y.size - 1)).size = y.size - 1 := by rw [size_list he, List.length_take]; simp
            have HE := Lib.hid he
            have HES := Lib.hid hes
            clear hd he hes
            go_wp2_with (go_at_call 94; refine (white_any _ _).mono ?_; rintro e w' ⟨rfl, rfl⟩)
            go_round
            case rel =>
              refine ⟨_, rfl, by rw [HES.out]; omega, ?_⟩
              rw [HE.out, ← HR.out]
              conv => rhs; rw [HD.out]
              exact (right_step (by rw [← whiteI_B]; exact hv)).symm
            case measure => show (y.extract 0 (y.size - 1)).size < y.size; rw [HES.out]; omega
end Go.Proofs.YtkaaeajidejchaaGreatDoor.Sp
end

/- The parts between commas, by the program. -/
section
namespace Go.Proofs.YtkaaeajidejchaaGreatDoor.Sp
open Go.RowKit Sl


/-- the three boxes of Split and what the row of parts holds -/
structure PutSt (w0 w : World) (s : ByteArray) (fr : Nat) (ps : List (List UInt8)) : Prop where
  bel : Below w0.heap.size w0 w
  h1 : w.heap[w0.heap.size]? = some (.cells #[.string s] 9 (0, 0))
  h2 : ∃ v, w.heap[w0.heap.size + 1]? = some (.cells #[v] 24 (0, 0)) ∧ w.ownsRow (w0.heap.size + 2 + 1) 9 1 v ps.length (strV (ps.map ofL))
  h3 : w.heap[w0.heap.size + 2]? = some (.cells #[.int .i64 fr] 3 (0, 0))

theorem PutSt.lt {w0 w : World} {s : ByteArray} {fr : Nat} {ps : List (List UInt8)} (h : PutSt w0 w s fr ps) : w0.heap.size + 2 < w.heap.size := lt_of_block h.h3
theorem PutSt.kept {w0 w w' : World} {s : ByteArray} {fr : Nat} {ps : List (List UInt8)} (h : PutSt w0 w s fr ps) (hb : Below w.heap.size w w') : PutSt w0 w' s fr ps := by
  have hl := h.lt
  refine ⟨h.bel.trans (hb.mono (by omega)), (hb.block _ (by omega)).trans h.h1, ?_, (hb.block _ (by omega)).trans h.h3⟩
  obtain ⟨v, e, ho⟩ := h.h2
  exact ⟨v, (hb.block _ (by omega)).trans e, ((⟨ho, Below.refl _ _, by omega⟩ : Own w w _ _ _ _ _ _).call hb).own⟩

theorem keep_snoc (ps : List (List UInt8)) (p : List UInt8) (h : (trimW p).isEmpty = false) : strV (ps.map ofL) ++ [.string (ofL (trimW p))] = strV ((ps ++ keep [p]).map ofL) := by
  rw [keep_one, if_neg (by rw [h]; decide), List.map_append, strV_app]; rfl


def byteI (s : ByteArray) (i : Nat) : UInt8 := s.data.toList.getD i 0
theorem at_get (s : ByteArray) (i : Nat) (h : i < s.size) : s.data.toList[i]'(by simpa using h) = s[i] := rfl


/-- where a reader of parts stands; behind the end if the last byte was a backslash in quotes -/
def St (l : List UInt8) (k fr : Nat) (q : Bool) (done : List (List UInt8)) : Prop :=
  At l fr k q done ∨ (k = l.length + 1 ∧ fr ≤ l.length ∧ pieces false [] l = done ++ [l.drop fr])
theorem St.at {l : List UInt8} {k fr : Nat} {q : Bool} {done : List (List UInt8)} (h : St l k fr q done) (hk : k < l.length) : At l fr k q done := by
  rcases h with h | ⟨h, _⟩
  · exact h
  · omega
theorem St.end {l : List UInt8} {k fr : Nat} {q : Bool} {done : List (List UInt8)} (h : St l k fr q done) (hk : l.length ≤ k) : fr ≤ l.length ∧ pieces false [] l = done ++ [l.drop fr] := by
  rcases h with h | ⟨_, h1, h2⟩
  · have e : k = l.length := by have := h.lt; omega
    subst e
    exact ⟨h.le, h.stop⟩
  · exact ⟨h1, h2⟩
theorem St.few {l : List UInt8} {k fr : Nat} {q : Bool} {done : List (List UInt8)} (h : St l k fr q done) : (keep done).length ≤ l.length + 1 := by
  have h1 : (keep done).length ≤ done.length := by
    unfold keep
    refine Nat.le_trans (List.length_filter_le _ _) ?_
    rw [List.length_map]; exact Nat.le_refl _
  have h2 := pieces_len l l.length false [] l (Nat.le_refl _)
  rcases h with h | ⟨_, _, h⟩
  · rw [h.eq, List.length_append] at h2; omega
  · rw [h, List.length_append] at h2; omega
theorem St.esc {l : List UInt8} {k fr : Nat} {done : List (List UInt8)} (h : St l k fr true done) (hk : k < l.length) (hc : l[k] = 92) : St l (k + 1 + 1) fr true done := by
  have ha := h.at hk
  rcases Nat.lt_or_ge (k + 1) l.length with h1 | h1
  · exact .inl (ha.esc h1 (by simp [hc]))
  · exact .inr ⟨by omega, by have := ha.le; omega, ha.esc_end hk (by omega) (by simp [hc])⟩
theorem St.quote {l : List UInt8} {k fr : Nat} {q : Bool} {done : List (List UInt8)} (h : St l k fr q done) (hk : k < l.length) (hc : l[k] = 34) : St l (k + 1) fr (!q) done :=
  .inl ((h.at hk).quote hk (by rw [hc]; cases q <;> decide) (by rw [hc]; decide))
theorem St.comma {l : List UInt8} {k fr : Nat} {done : List (List UInt8)} (h : St l k fr false done) (hk : k < l.length) (hc : l[k] = 44) : St l (k + 1) (k + 1) false (done ++ [(l.drop fr).take (k - fr)]) :=
  .inl ((h.at hk).comma hk (by simp) (by rw [hc]; decide) (by rw [hc]; decide))
theorem St.other {l : List UInt8} {k fr : Nat} {q : Bool} {done : List (List UInt8)} (h : St l k fr q done) (hk : k < l.length) (h1 : q = true → l[k] ≠ 92) (h2 : l[k] ≠ 34) (h3 : q = false → l[k] ≠ 44) : St l (k + 1) fr q done := by
  refine .inl ((h.at hk).other hk ?_ ?_ ?_)
  · cases q
    · simp
    · simpa using h1 rfl
  · simpa using h2
  · cases q
    · simpa using h3 rfl
    · simp


theorem put_start (w : World) (s : ByteArray) : PutSt w (((w.alloc (.cells #[.string s] 9)).alloc (.cells #[.slice none 0 0] 24)).alloc (.cells #[.int .i64 0] 3)) s 0 (keep []) := by
  have s1 : (w.alloc (.cells #[.string s] 9)).heap.size = w.heap.size + 1 := by simp
  have s2 : ((w.alloc (.cells #[.string s] 9)).alloc (.cells #[.slice none 0 0] 24)).heap.size = w.heap.size + 2 := by simp
  refine ⟨?_, ?_, ⟨.slice none 0 0, ?_, World.ownsRow_nil _ _ _ _⟩, ?_⟩
  · exact (((Below.refl _ _).alloc (Nat.le_refl _) _).alloc (by omega) _).alloc (by omega) _
  · rw [Below.heap_alloc _ _ _ (by omega), Below.heap_alloc _ _ _ (by omega)]; exact alloc_at _ _
  · rw [Below.heap_alloc _ _ _ (by omega), ← s1]; exact alloc_at _ _
  · rw [← s2]; exact alloc_at _ _


end Go.Proofs.YtkaaeajidejchaaGreatDoor.Sp
end

/- The parts between commas, by the reference. -/
section
namespace Go.Proofs.YtkaaeajidejchaaGreatDoor.Sp
open Go.RowKit Sl

/-- where the reference's reader stands -/
def St2 (l : List UInt8) (k fr : Nat) (q : Bool) (done : List (List UInt8)) : Prop :=
  At l fr k q done ∨ (k = l.length + 1 ∧ fr < l.length ∧ pieces false [] l = done ++ [l.drop fr]) ∨ (k = l.length + 1 ∧ l.length ≤ fr ∧ pieces false [] l = done)
theorem St2.at {l : List UInt8} {k fr : Nat} {q : Bool} {done : List (List UInt8)} (h : St2 l k fr q done) (hk : k ≤ l.length) : At l fr k q done := by
  rcases h with h | ⟨h, _⟩ | ⟨h, _⟩
  · exact h
  · omega
  · omega
theorem St2.end {l : List UInt8} {k fr : Nat} {q : Bool} {done : List (List UInt8)} (h : St2 l k fr q done) (hk : l.length < k) : (fr < l.length ∧ pieces false [] l = done ++ [l.drop fr]) ∨ (l.length ≤ fr ∧ pieces false [] l = done) := by
  rcases h with h | ⟨_, h⟩ | ⟨_, h⟩
  · have := h.lt; omega
  · exact .inl h
  · exact .inr h
theorem St2.few {l : List UInt8} {k fr : Nat} {q : Bool} {done : List (List UInt8)} (h : St2 l k fr q done) : (keep done).length ≤ l.length + 1 := by
  have h1 : (keep done).length ≤ done.length := by
    unfold keep
    refine Nat.le_trans (List.length_filter_le _ _) ?_
    rw [List.length_map]; exact Nat.le_refl _
  have h2 := pieces_len l l.length false [] l (Nat.le_refl _)
  rcases h with h | ⟨_, _, h⟩ | ⟨_, _, h⟩
  · rw [h.eq, List.length_append] at h2; omega
  · rw [h, List.length_append] at h2; omega
  · rw [h] at h2; omega
theorem At.esc2 {l : List UInt8} {k fr : Nat} {done : List (List UInt8)} (h : At l fr k true done) (hk : k < l.length) (hc : l[k] = 92) : St2 l (k + 1 + 1) fr true done := by
  rcases Nat.lt_or_ge (k + 1) l.length with h1 | h1
  · exact .inl (h.esc h1 (by simp [hc]))
  · exact .inr (.inl ⟨by omega, by have := h.le; omega, h.esc_end hk (by omega) (by simp [hc])⟩)
theorem At.last2 {l : List UInt8} {k fr : Nat} {q : Bool} {done : List (List UInt8)} (h : At l fr k q done) (hk : k = l.length) : St2 l (k + 1) (k + 1) q (done ++ [(l.drop fr).take (k - fr)]) := by
  subst hk
  refine .inr (.inr ⟨rfl, by omega, ?_⟩)
  rw [h.stop, List.take_of_length_le (by rw [List.length_drop]; exact Nat.le_refl _)]

/-- what the row of parts holds -/
def RowSt (w wr : World) (v : Value) (done : List (List UInt8)) : Prop := Own w wr w.heap.size 9 1 v (keep done).length (strV ((keep done).map ofL))
theorem RowSt.form {w wr : World} {v : Value} {done : List (List UInt8)} (h : RowSt w wr v done) : ∃ ao cap, v = .slice ao (keep done).length cap := (Rd.own h.own).form
theorem RowSt.same {w wr : World} {v : Value} {done : List (List UInt8)} {p : List UInt8} (h : RowSt w wr v done) (hp : (trimW p).isEmpty = true) : RowSt w wr v (done ++ [p]) := by
  unfold RowSt
  rw [keep_app, keep_one, if_pos hp, List.append_nil]; exact h
theorem RowSt.more {w wr : World} {v : Value} {done : List (List UInt8)} {p : List UInt8} (hp : (trimW p).isEmpty = false) (h : Own w wr w.heap.size 9 1 v ((keep done).length + 1) (strV ((keep done).map ofL) ++ [.string (ofL (trimW p))])) : RowSt w wr v (done ++ [p]) := by
  unfold RowSt
  rw [keep_app, ← keep_snoc _ _ hp]
  have : (keep done ++ keep [p]).length = (keep done).length + 1 := by rw [keep_one, if_neg (by rw [hp]; decide)]; simp
  rw [this]; exact h

theorem part_empty {x p : ByteArray} {l : List UInt8} (hx : x.data.toList = l) (hp : ofL (trimW x.data.toList) = p) : p.toList.isEmpty = (trimW l).isEmpty := by
  rw [← hp, Lib.toList_data, ofL_data, hx]

theorem ofS (s : ByteArray) : strV (splitB s) = strV ((splitS s.data.toList).map ofL) := rfl
theorem row_done {w wr : World} {v : Value} {done : List (List UInt8)} {s : ByteArray} (h : RowSt w wr v done) (hd : pieces false [] s.data.toList = done) : wr.ownsRow w.heap.size 9 1 v (splitB s).length (strV (splitB s)) := by
  unfold splitB splitS
  rw [hd, List.length_map]
  exact h.own

end Go.Proofs.YtkaaeajidejchaaGreatDoor.Sp
end

/- The values of a name: by the program, by the reference. -/
section
namespace Go.Proofs.YtkaaeajidejchaaGreatDoor.Sp
open Go.RowKit Sl

def RetS (w : World) (L : List ByteArray) (e : Ending) (w' : World) : Prop := ∃ v, e = .returned v ∧ w'.ownsRow w.heap.size 9 1 v L.length (strV L) ∧ Below w.heap.size w w'
def RetF (w : World) (L : List Fld) (e : Ending) (w' : World) : Prop := ∃ v, e = .returned v ∧ w'.ownsRow w.heap.size 50 2 v L.length (fldV L) ∧ Below w.heap.size w w'

/-- few fields, of few bytes -/
def Few (L : List Fld) : Prop := L.length ≤ 100 ∧ ∀ f ∈ L, f.1.size ≤ 2000 ∧ f.2.size ≤ 2000

def isN (name : ByteArray) (f : Fld) : Bool := same f.1.data.toList name.data.toList
def allB (L : List Fld) (name : ByteArray) : List ByteArray := (L.filter (isN name)).map (·.2)

theorem allB_take (L : List Fld) (name : ByteArray) (k : Nat) (h : k < L.length) : allB (L.take (k + 1)) name = allB (L.take k) name ++ if isN name L[k] then [L[k].2] else [] := by
  unfold allB
  rw [List.take_succ_eq_append_getElem h, List.filter_append, List.map_append]
  congr 1
  cases hh : isN name L[k] <;> simp [hh]
theorem allB_len (L : List Fld) (name : ByteArray) : (allB L name).length ≤ L.length := by unfold allB; rw [List.length_map]; exact List.length_filter_le _ _

/-- the cells of a field in a list -/
theorem fld_cells {w : World} {ao : Option Addr} {n cap : Nat} {L : List Fld} (h : Rd w (.slice ao n cap) n 2 (fldV L)) (hn : n = L.length) (k : Nat) (hk : k < L.length) :
    ∃ b off, ao = some ⟨b, off, none⟩ ∧ b < w.heap.size ∧ w.cell? ⟨b, off + k * 2, none⟩ = some (.string L[k].1) ∧ w.cell? ⟨b, off + k * 2 + 1, none⟩ = some (.string L[k].2) := by
  obtain ⟨ao', cap', e, _, _, _, hc⟩ := h
  cases e
  have hg := fldV_get L k hk
  obtain ⟨b, off, rfl, hlt, hcc⟩ := hc (by intro e; rw [e] at hg; simp at hg)
  exact ⟨b, off, rfl, hlt, hcc _ _ hg.1, hcc _ _ hg.2⟩


end Go.Proofs.YtkaaeajidejchaaGreatDoor.Sp
end

/- The parts of the values of a name: by the program, by the reference. -/
section
namespace Go.Proofs.YtkaaeajidejchaaGreatDoor.Sp
open Go.RowKit Sl

section
variable {P : Program} {ops : Array Oper} {rest : List Oper} {o : Oper} {a : Act} {w : World} {Q : Exit → Act → World → Prop}
theorem wpList_pushAllF {w0 : World} (hgd : o.guard = none) (s x : Operand) (ho : o.op = .call { callee := .builtin .append, args := #[s, x], argTypes := #[41, 41] })
    (base : Nat) (v : Value) (n : Nat) (xs : List Value) (hs : a.eval s = v) (hown : Own w0 w base 50 2 v n xs) (u : Value) (L : List Fld) (hr : Rd w u L.length 2 (fldV L)) (hx : a.eval x = u) (hn : n + L.length ≤ 1000000)
    (h : ∀ v' w1, Own w0 w1 base 50 2 v' (n + L.length) (xs ++ fldV L) → wpList Tryz.prog ops Q rest (a.put o.dst v') w1) : wpList Tryz.prog ops Q (o :: rest) a w := by
  obtain ⟨i, hi, hz, h1, h2⟩ := info_parts (P := Tryz.prog) (e := 50) (z := .agg #[.string ⟨#[]⟩, .string ⟨#[]⟩]) (size := 2) (bytes := 32) (by kernel_rfl)
  exact wpList_pushAll hgd s x 41 ho base 50 i _ 2 32 Tryz.underlying41 hi hz h1 h2 rfl (by decide) v n xs hs hown u L.length (fldV L) hr hx (fldV_one L) (by omega) (by unfold maxLen; omega) h
theorem wpList_pushF {wr w0 : World} (hgd : o.guard = none) (s x : Operand) (ho : o.op = .call { callee := .builtin .append, args := #[s, x], argTypes := #[41, 41] })
    (base : Nat) (v : Value) (n : Nat) (xs : List Value) (hs : a.eval s = v) (hown : Own w0 wr base 50 2 v n xs) (p q : ByteArray) (hw : w = wr.alloc (.cells #[.string p, .string q] 50))
    (c : Nat) (hx : a.eval x = .slice (some ⟨wr.heap.size, 0, none⟩) 1 c) (hn : n ≤ 1000000)
    (h : ∀ v' w1, Own w0 w1 base 50 2 v' (n + 1) (xs ++ [.string p, .string q]) → wpList Tryz.prog ops Q rest (a.put o.dst v') w1) : wpList Tryz.prog ops Q (o :: rest) a w := by
  obtain ⟨i, hi, hz, h1, h2⟩ := info_parts (P := Tryz.prog) (e := 50) (z := .agg #[.string ⟨#[]⟩, .string ⟨#[]⟩]) (size := 2) (bytes := 32) (by kernel_rfl)
  exact wpList_push hgd s x 41 ho base 50 i _ 2 32 Tryz.underlying41 hi hz h1 h2 rfl (by decide) v n xs hs hown [.string p, .string q] (by rw [hw]) rfl (by intro u hu; simp at hu; rcases hu with rfl | rfl <;> rfl) c hx (by omega) (by unfold maxLen; omega) h
end

theorem RetS.rd {w w' : World} {L : List ByteArray} {v : Value} (h : w'.ownsRow w.heap.size 9 1 v L.length (strV L)) : Rd w' v L.length 1 (strV L) := Rd.own h


def flatB (A : List ByteArray) : List ByteArray := A.flatMap splitB
def listB (L : List Fld) (name : ByteArray) : List ByteArray := flatB (allB L name)
theorem flatB_take (A : List ByteArray) (k : Nat) (h : k < A.length) : flatB (A.take (k + 1)) = flatB (A.take k) ++ splitB A[k] := by
  unfold flatB
  rw [List.take_succ_eq_append_getElem h, List.flatMap_append]; simp
theorem splitB_len (s : ByteArray) : (splitB s).length ≤ s.size + 1 := by
  unfold splitB splitS keep
  rw [List.length_map]
  refine Nat.le_trans (List.length_filter_le _ _) ?_
  rw [List.length_map]
  have := pieces_len s.data.toList s.data.toList.length false [] s.data.toList (Nat.le_refl _)
  simpa using this
theorem flat_len : ∀ (A : List ByteArray) (c : Nat), (∀ x ∈ A, x.size ≤ c) → (flatB A).length ≤ A.length * (c + 1)
  | [], _, _ => by simp [flatB]
  | x :: t, c, h => by
    have h1 := flat_len t c (fun y hy => h y (List.mem_cons_of_mem _ hy))
    have h2 := splitB_len x
    have h3 := h x List.mem_cons_self
    unfold flatB at h1 ⊢
    rw [List.flatMap_cons, List.length_append, List.length_cons, Nat.succ_mul]
    omega
theorem allB_small {L : List Fld} (hL : Few L) (name : ByteArray) : (allB L name).length ≤ 100 ∧ ∀ x ∈ allB L name, x.size ≤ 2000 := by
  refine ⟨Nat.le_trans (allB_len L name) hL.1, fun x hx => ?_⟩
  unfold allB at hx
  obtain ⟨f, hf, rfl⟩ := List.mem_map.1 hx
  exact (hL.2 f (List.mem_filter.1 hf).1).2


end Go.Proofs.YtkaaeajidejchaaGreatDoor.Sp
end

/- slices.IndexFunc, slices.DeleteFunc, slices.Clone on fields. -/
section
namespace Go.Proofs.YtkaaeajidejchaaGreatDoor.Sp
open Go.RowKit Sl

/-- Below B all is as it was, but for the one block 'row'. -/
structure Aft (B : Nat) (row : Option Nat) (w w' : World) : Prop where
  os : w'.os = w.os
  tape : w'.tape = w.tape
  output : w'.output = w.output
  size : w.heap.size ≤ w'.heap.size
  block : ∀ k, k < B → some k ≠ row → w'.heap[k]? = w.heap[k]?
theorem Aft.refl (B : Nat) (row : Option Nat) (w : World) : Aft B row w w := ⟨rfl, rfl, rfl, Nat.le_refl _, fun _ _ _ => rfl⟩
theorem Aft.trans {B : Nat} {row : Option Nat} {a b c : World} (h : Aft B row a b) (k : Aft B row b c) : Aft B row a c :=
  ⟨k.os.trans h.os, k.tape.trans h.tape, k.output.trans h.output, Nat.le_trans h.size k.size, fun i hi hr => (k.block i hi hr).trans (h.block i hi hr)⟩
theorem Aft.of_below {B : Nat} {row : Option Nat} {a b : World} (h : Below B a b) : Aft B row a b := ⟨h.os, h.tape, h.output, h.size, fun k hk _ => h.block k hk⟩
theorem Aft.of_grown {B : Nat} {row : Option Nat} {a b : World} (h : a.grownBy b row) (hB : B ≤ a.heap.size) : Aft B row a b := ⟨h.os, h.tape, h.output, h.size, fun k hk hr => h.block k (by omega) hr⟩
theorem Aft.below {B : Nat} {a b : World} (h : Aft B none a b) : Below B a b := ⟨h.os, h.tape, h.output, h.size, fun k hk => h.block k hk (by simp)⟩

/-- A function value that takes a field and says yes or no; it may keep a state of its own, in one block below B. -/
structure Clo (g : FuncId) (cap : Array Value) (B : Nat) (row : Option Nat) {σ : Type} (I : World → σ → Prop) (step : σ → Fld → Bool × σ) : Prop where
  turn : ∀ w w' s, I w s → Below B w w' → I w' s
  call : ∀ (w : World) (s : σ) (f : Fld), I w s → f.1.size ≤ 2000 → B ≤ w.heap.size → Calls Tryz.prog g (#[.agg #[.string f.1, .string f.2]] ++ cap) w fun e w' => e = .returned (.bool (step s f).1) ∧ I w' (step s f).2 ∧ w.grownBy w' row
  rowlt : ∀ T, row = some T → T < B

section
variable {σ : Type} (step : σ → Fld → Bool × σ)
/-- the state behind these fields -/
def runS (s : σ) (L : List Fld) : σ := L.foldl (fun s f => (step s f).2) s
/-- what is kept -/
def keepF (s : σ) : List Fld → List Fld
  | [] => []
  | f :: t => if (step s f).1 = true then keepF (step s f).2 t else f :: keepF (step s f).2 t
/-- the first place where it says yes -/
def firstF (s : σ) : List Fld → Option Nat
  | [] => none
  | f :: t => if (step s f).1 = true then some 0 else (firstF (step s f).2 t).map (· + 1)
theorem runS_take (s : σ) (L : List Fld) (k : Nat) (h : k < L.length) : runS step s (L.take (k + 1)) = (step (runS step s (L.take k)) L[k]).2 := by
  unfold runS
  rw [List.take_succ_eq_append_getElem h, List.foldl_append]; rfl
end

theorem Clo.row {σ : Type} {step : σ → Fld → Bool × σ} {g : FuncId} {cap : Array Value} {B : Nat} {row : Option Nat} {I : World → σ → Prop} (hC : Clo g cap B row I step) {w w' : World} {e : TypeId} {sz : Nat} {v : Value} {n : Nat} {xs : List Value} (h : w.ownsRow B e sz v n xs) (hg : w.grownBy w' row) : w'.ownsRow B e sz v n xs := by
  refine h.kept hg ?_
  cases hv : v.ownBlock with
  | none => exact .inl rfl
  | some k =>
    refine .inr fun e => ?_
    have h1 := row_base h k hv
    have h2 := hC.rowlt k e.symm
    omega

end Go.Proofs.YtkaaeajidejchaaGreatDoor.Sp
end

/- slices.DeleteFunc on fields. -/
section
namespace Go.Proofs.YtkaaeajidejchaaGreatDoor.Sp
open Go.RowKit Sl

section
variable {σ : Type} (step : σ → Fld → Bool × σ)
theorem keepF_app (s : σ) (A B : List Fld) : keepF step s (A ++ B) = keepF step s A ++ keepF step (runS step s A) B := by
  induction A generalizing s with
  | nil => rfl
  | cons f t ih =>
    rw [List.cons_append, keepF, keepF, ih]
    have : runS step s (f :: t) = runS step (step s f).2 t := rfl
    rw [this]
    by_cases h : (step s f).1 = true
    · rw [if_pos h, if_pos h]
    · rw [if_neg h, if_neg h]; rfl
theorem keepF_take (s : σ) (L : List Fld) (k : Nat) (h : k < L.length) : keepF step s (L.take (k + 1)) = keepF step s (L.take k) ++ if (step (runS step s (L.take k)) L[k]).1 = true then [] else [L[k]] := by
  rw [List.take_succ_eq_append_getElem h, keepF_app]
  congr 1
theorem keepF_none (s : σ) (L : List Fld) : ∀ k, k ≤ L.length → (∀ j (h : j < k) (h2 : j < L.length), (step (runS step s (L.take j)) L[j]).1 = false) → keepF step s (L.take k) = L.take k
  | 0, _, _ => by simp [keepF]
  | k + 1, hk, h => by
    rw [keepF_take step s L k (by omega), keepF_none s L k (by omega) (fun j hj h2 => h j (by omega) h2), if_neg (by rw [h k (by omega) (by omega)]; decide), List.take_succ_eq_append_getElem (by omega)]
theorem keepF_len (s : σ) (L : List Fld) : (keepF step s L).length ≤ L.length := by
  induction L generalizing s with
  | nil => simp [keepF]
  | cons f t ih =>
    rw [keepF]
    split
    · have := ih (step s f).2; simp; omega
    · have := ih (step s f).2; simp; omega
theorem keepF_mem (s : σ) (L : List Fld) : ∀ f ∈ keepF step s L, f ∈ L := by
  induction L generalizing s with
  | nil => simp [keepF]
  | cons f t ih =>
    rw [keepF]
    intro x hx
    split at hx
    · exact List.mem_cons_of_mem _ (ih _ x hx)
    · rcases List.mem_cons.1 hx with rfl | hx
      · exact List.mem_cons_self
      · exact List.mem_cons_of_mem _ (ih _ x hx)
end

theorem own_setCells {B : Nat} {e : TypeId} {sz : Nat} {g n cap : Nat} : ∀ (l : List Value) (o : Nat) (w : World) (xs : List Value), w.ownsRow B e sz (.slice (some ⟨g, 0, none⟩) n cap) n xs →
    ∃ ys, ys.take o = xs.take o ∧ (w.setCells g o l).ownsRow B e sz (.slice (some ⟨g, 0, none⟩) n cap) n ys ∧ w.grownBy (w.setCells g o l) (some g)
  | [], o, w, xs, h => ⟨xs, rfl, h, rfl, rfl, rfl, Nat.le_refl _, fun _ _ _ => rfl⟩
  | v :: r, o, w, xs, h => by
    obtain ⟨h1, h2⟩ := h.stored o v
    obtain ⟨ys, e1, h3, h4⟩ := own_setCells r (o + 1) (w.setCell ⟨g, o, none⟩ v) _ h1
    refine ⟨ys, ?_, h3, h4.os.trans h2.os, h4.tape.trans h2.tape, h4.output.trans h2.output, Nat.le_trans h2.size h4.size, fun k hk hne => (h4.block k (Nat.lt_of_lt_of_le hk h2.size) hne).trans (h2.block k hk hne)⟩
    have e2 := congrArg (List.take o) e1
    rw [List.take_take, List.take_take, Nat.min_eq_left (Nat.le_succ o)] at e2
    rw [e2, List.take_set_of_le (Nat.le_refl _)]

theorem own_cut {w : World} {B : Nat} {e : TypeId} {sz : Nat} {g n cap i : Nat} {xs : List Value} (h : w.ownsRow B e sz (.slice (some ⟨g, 0, none⟩) n cap) n xs) (hi : i ≤ n) :
    w.ownsRow B e sz (.slice (some ⟨g, 0, none⟩) i cap) i (xs.take (i * sz)) := by
  rcases h with ⟨hl, ⟨h', _⟩ | ⟨g', cap', cur, h', hb, hg, hnc, hcm, hcs, ht⟩⟩
  · cases h'
  · cases h'
    have hm : i * sz ≤ n * sz := Nat.mul_le_mul_right _ hi
    refine ⟨by rw [List.length_take, hl]; omega, .inr ⟨g, cap, cur, rfl, hb, hg, Nat.le_trans hi hnc, hcm, hcs, ?_⟩⟩
    rw [← ht, List.take_take, Nat.min_eq_left hm]

theorem fldV_take (L : List Fld) (i : Nat) : (fldV L).take (i * 2) = fldV (L.take i) := by
  induction L generalizing i with
  | nil => simp [fldV]
  | cons f t ih =>
    cases i with
    | zero => rw [Nat.zero_mul, List.take_zero, List.take_zero]; rfl
    | succ i =>
      rw [List.take_succ_cons]
      have e1 : (i + 1) * 2 = i * 2 + 2 := by omega
      have e2 : ∀ f : Fld, ∀ l, fldV (f :: l) = Value.string f.1 :: Value.string f.2 :: fldV l := fun f l => by unfold fldV; rw [List.flatMap_cons]; rfl
      rw [e1, e2, e2, List.take_succ_cons, List.take_succ_cons, ih]
theorem fldV_set (L : List Fld) (i : Nat) (f : Fld) : ((fldV L).set (i * 2) (.string f.1)).set (i * 2 + 1) (.string f.2) = fldV (L.set i f) := by
  have e2 : ∀ f : Fld, ∀ l, fldV (f :: l) = Value.string f.1 :: Value.string f.2 :: fldV l := fun f l => by unfold fldV; rw [List.flatMap_cons]; rfl
  induction L generalizing i with
  | nil => simp [fldV]
  | cons x t ih =>
    cases i with
    | zero => rw [Nat.zero_mul, List.set_cons_zero, e2, e2, List.set_cons_zero]; rfl
    | succ i =>
      have e1 : (i + 1) * 2 = i * 2 + 2 := by omega
      rw [e1, List.set_cons_succ, e2, e2, ← ih]
      rfl

section
variable {P : Program} {ops : Array Oper} {rest : List Oper} {o : Oper} {a : Act} {w : World} {Q : Exit → Act → World → Prop}
theorem run_clear {ty : TypeId} (t e : TypeId) (z : Value) (ht : P.underlying t = some (.slice e)) (hz : ∀ w, (zeroValue e).run P w = .ok z w)
    (hz1 : ∀ u ∈ z.cells.toList, u.oneCell' = true) (hz2 : 0 < z.cells.size) (b off n c : Nat) (hn : 0 < n) (hc : ∀ j, j < n * z.cells.size → (w.cell? ⟨b, off + j, none⟩).isSome = true) (hf : ∀ j, j < n * z.cells.size → w.frozen? ⟨b, off + j, none⟩ = false) :
    ∃ l, (Builtin.clear_ #[t] ty #[.slice (some ⟨b, off, none⟩) n c]).run P w = .ok (.tuple #[]) (w.setCells b off l) := by
  have hlen : (Builtin.zeroCells z.cells n).toList.length = n * z.cells.size := by simp [Builtin.zeroCells]
  have h1 : ∀ u ∈ (Builtin.zeroCells z.cells n).toList, u.oneCell' = true := by
    intro u hu
    simp only [Builtin.zeroCells, Array.toList_map, List.mem_map] at hu
    obtain ⟨i, _, rfl⟩ := hu
    have hi : i % z.cells.size < z.cells.size := Nat.mod_lt _ hz2
    rw [getElem!_pos z.cells _ hi]
    exact hz1 _ (Array.mem_toList_iff.2 (Array.getElem_mem hi))
  have hst := run_storeCells_cells (P := P) b off (Builtin.zeroCells z.cells n).toList 0 w (by rw [hlen]; simpa using hc) (by rw [hlen]; simpa using hf) h1
  simp only [Nat.add_zero] at hst
  obtain ⟨m, rfl⟩ : ∃ m, n = m + 1 := ⟨n - 1, by omega⟩
  exact ⟨(Builtin.zeroCells z.cells (m + 1)).toList, by simp [Builtin.clear_, run_underlying ht, hz, hst]⟩
end
end Go.Proofs.YtkaaeajidejchaaGreatDoor.Sp
end

/- slices.DeleteFunc on fields: the walk. -/
section
namespace Go.Proofs.YtkaaeajidejchaaGreatDoor.Sp
open Go.RowKit Sl

theorem zeroFld (w : World) : (zeroValue 50).run Tryz.prog w = .ok (.agg #[.string ⟨#[]⟩, .string ⟨#[]⟩]) w := by kernel_rfl

theorem Aft.of_set {B : Nat} {row : Option Nat} {a b : World} {g : Nat} (h : a.grownBy b (some g)) (hg : B ≤ g) (hB : B ≤ a.heap.size) : Aft B row a b :=
  ⟨h.os, h.tape, h.output, h.size, fun k hk _ => h.block k (by omega) (fun e => by have := Option.some.inj e; omega)⟩

/-- What IndexFunc tells. -/
def Found {σ : Type} (step : σ → Fld → Bool × σ) (B : Nat) (row : Option Nat) (I : World → σ → Prop) (v : Value) (L : List Fld) (s : σ) (w w' : World) (r : Int) : Prop :=
  (r = -1 ∧ (∀ k (h : k < L.length), (step (runS step s (L.take k)) L[k]).1 = false) ∧ I w' (runS step s L) ∨
    ∃ k, ∃ h : k < L.length, r = k ∧ (∀ j (h : j < k) (h2 : j < L.length), (step (runS step s (L.take j)) L[j]).1 = false) ∧ (step (runS step s (L.take k)) L[k]).1 = true ∧ I w' (runS step s (L.take (k + 1)))) ∧
  w'.ownsRow B 50 2 v L.length (fldV L) ∧ Aft B row w w'

/-- Where DeleteFunc stands: i fields kept, those from j on as they were. -/
structure Mid {σ : Type} (step : σ → Fld → Bool × σ) (s : σ) (L R : List Fld) (i j : Nat) : Prop where
  lt : i < j
  le : j ≤ L.length
  len : R.length = L.length
  front : R.take i = keepF step s (L.take j)
  back : R.drop j = L.drop j
theorem Mid.start {σ : Type} {step : σ → Fld → Bool × σ} {s : σ} {L : List Fld} {k : Nat} (hk : k < L.length) (ha : ∀ j (h : j < k) (h2 : j < L.length), (step (runS step s (L.take j)) L[j]).1 = false) (ht : (step (runS step s (L.take k)) L[k]).1 = true) : Mid step s L L k (k + 1) :=
  ⟨by omega, by omega, rfl, by rw [keepF_take step s L k hk, if_pos ht, List.append_nil, keepF_none step s L k (by omega) ha], rfl⟩
theorem Mid.get {σ : Type} {step : σ → Fld → Bool × σ} {s : σ} {L R : List Fld} {i j : Nat} (h : Mid step s L R i j) (hj : j < L.length) : R[j]'(by rw [h.len]; exact hj) = L[j] := by
  have h1 : R[j]? = L[j]? := by
    have := congrArg (fun l : List Fld => l[0]?) h.back
    simpa using this
  have h2 : j < R.length := by rw [h.len]; exact hj
  rw [List.getElem?_eq_getElem h2, List.getElem?_eq_getElem hj] at h1
  exact Option.some.inj h1
theorem Mid.skip {σ : Type} {step : σ → Fld → Bool × σ} {s : σ} {L R : List Fld} {i j : Nat} (h : Mid step s L R i j) (hj : j < L.length) (hd : (step (runS step s (L.take j)) L[j]).1 = true) : Mid step s L R i (j + 1) := by
  refine ⟨by have := h.lt; omega, by omega, h.len, by rw [keepF_take step s L j hj, if_pos hd, List.append_nil]; exact h.front, ?_⟩
  have := congrArg (List.drop 1) h.back
  rwa [List.drop_drop, List.drop_drop] at this
theorem Mid.keep {σ : Type} {step : σ → Fld → Bool × σ} {s : σ} {L R : List Fld} {i j : Nat} (h : Mid step s L R i j) (hj : j < L.length) (hd : (step (runS step s (L.take j)) L[j]).1 = false) : Mid step s L (R.set i L[j]) (i + 1) (j + 1) := by
  have hi : i < R.length := by rw [h.len]; have := h.lt; omega
  refine ⟨by have := h.lt; omega, by omega, by rw [List.length_set]; exact h.len, ?_, ?_⟩
  · rw [keepF_take step s L j hj, if_neg (by rw [hd]; decide), ← h.front, List.take_succ_eq_append_getElem (by rw [List.length_set]; exact hi), List.getElem_set_self, List.take_set_of_le (Nat.le_refl _)]
  · rw [List.drop_set_of_lt (by have := h.lt; omega)]
    have := congrArg (List.drop 1) h.back
    rwa [List.drop_drop, List.drop_drop] at this
theorem Mid.done {σ : Type} {step : σ → Fld → Bool × σ} {s : σ} {L R : List Fld} {i : Nat} (h : Mid step s L R i L.length) : R.take i = keepF step s L := by
  have := h.front
  rwa [List.take_length] at this

theorem own_fld {w : World} {B : Nat} {e : TypeId} {g n cap : Nat} {R : List Fld} (h : w.ownsRow B e 2 (.slice (some ⟨g, 0, none⟩) n cap) n (fldV R)) (hn : R.length = n) (k : Nat) (hk : k < n) :
    w.cell? ⟨g, k * 2, none⟩ = some (.string (R[k]'(by omega)).1) ∧ w.cell? ⟨g, k * 2 + 1, none⟩ = some (.string (R[k]'(by omega)).2) := by
  have hg := fldV_get R k (by omega)
  exact ⟨(h.cellAt (k * 2) (by omega)).trans hg.1, (h.cellAt (k * 2 + 1) (by omega)).trans hg.2⟩

end Go.Proofs.YtkaaeajidejchaaGreatDoor.Sp
end

/- slices.Clone, kit.Own, kit.Same, kit.LightFields. -/
section
namespace Go.Proofs.YtkaaeajidejchaaGreatDoor.Sp
open Go.RowKit Sl

theorem own_empty (w : World) (e : TypeId) (sz : Nat) : (w.alloc (.cells #[] e)).ownsRow w.heap.size e sz (.slice (some ⟨w.heap.size, 0, none⟩) 0 0) 0 [] :=
  ⟨by simp, .inr ⟨w.heap.size, 0, #[], rfl, Nat.le_refl _, alloc_at _ _, Nat.le_refl _, by unfold maxLen; omega, by simp, by simp⟩⟩
theorem Own.fresh (w : World) (e : TypeId) (sz : Nat) : Own w (w.alloc (.cells #[] e)) w.heap.size e sz (.slice (some ⟨w.heap.size, 0, none⟩) 0 0) 0 [] :=
  ⟨own_empty w e sz, (Below.refl _ _).alloc (Nat.le_refl _) _, by simp⟩


end Go.Proofs.YtkaaeajidejchaaGreatDoor.Sp
end

/- The kit's Same at texts. -/
section
namespace Go.Proofs.YtkaaeajidejchaaGreatDoor.Sp
open Go.RowKit Sl

def sameLS (A B : List ByteArray) : Bool := decide (A = B)
theorem take_ne {α : Type} {A B : List α} {k : Nat} (hA : k < A.length) (hB : k < B.length) (h : A[k] ≠ B[k]) : A ≠ B := by
  intro e; subst e; exact h rfl

end Go.Proofs.YtkaaeajidejchaaGreatDoor.Sp
end

/- kit.Same, kit.LightFields, one. -/
section
namespace Go.Proofs.YtkaaeajidejchaaGreatDoor.Sp
open Go.RowKit Sl

set_option maxRecDepth 100000 in
set_option maxHeartbeats 2000000 in
theorem lightF_any (v : Value) (L : List Fld) (most bytes : Nat) (hL : L.length ≤ 9223372036854775807) (hb1 : most ≤ 1000) (hb2 : bytes ≤ 1000) (hf : ∀ f ∈ L, f.1.size ≤ 1000000000000000 ∧ f.2.size ≤ 1000000000000000) (w : World) (hv : Rd w v L.length 2 (fldV L)) :
    Calls Tryz.prog 21 #[v, .int .i64 most, .int .i64 bytes] w fun e w' => ∃ r, e = .returned (.bool r) ∧ (r = true → L.length ≤ most ∧ ∀ f ∈ L, f.1.size + f.2.size ≤ bytes) ∧ Below w.heap.size w w' := by
  obtain ⟨ao, cap, rfl⟩ := hv.form
  have HV := hide hv
  have HF := hide hf
  clear hv hf
  rcases Nat.lt_or_ge most L.length with hm | hm
  · go_enter Tryz.func21, Tryz.ntmps21
    go_wp2_with fail
    go_ret
    exact ⟨_, rfl, (by simp), Below.refl _ _⟩
  · go_enter Tryz.func21, Tryz.ntmps21
    go_wp2_with fail
    go_loopw [7, 8] (fun n i wr => ∃ k s : Nat, i = .int .i64 k ∧ n = .int .i64 s ∧ k ≤ L.length ∧ s ≤ bytes ∧ (∀ f ∈ L.take k, f.1.size + f.2.size ≤ bytes) ∧ Below w.heap.size w wr) (fun _ i _ => L.length - (intOf i).toNat)
    case atStart => exact ⟨0, 0, rfl, rfl, Nat.zero_le _, Nat.zero_le _, by simp, Below.refl _ _⟩
    case round =>
      obtain ⟨k, s, rfl, rfl, hk, hs, hall, hbel⟩ := hrel
      have HA := hide hall
      have HB := hide hbel
      rcases Nat.lt_or_ge k L.length with hlt | hge
      · obtain ⟨b, off, rfl, hb, c1, c2⟩ := fld_cells (unhide HV) rfl k hlt
        have d1 := (hbel.cell (p := ⟨b, off + k * 2, none⟩) hb).trans c1
        have d2 := (hbel.cell (p := ⟨b, off + k * 2 + 1, none⟩) hb).trans c2
        have z1 := ((unhide HF) L[k] (List.getElem_mem _)).1
        have z2 := ((unhide HF) L[k] (List.getElem_mem _)).2
        have HT := hide (List.take_succ_eq_append_getElem hlt)
        clear c1 c2 hall hbel
        have hbw : b < wr.heap.size := Nat.lt_of_lt_of_le hb (unhide HB).size
        go_wp2_with fail
        refine Reg.region_more (by kernel_rfl) (by kernel_rfl) ?_
        repeat (go_big_quiet_step (fail))
        refine wpQuiet_nil ?_
        intro w9 hb9; obtain ⟨hc9, hf9, hz9⟩ := bcell hb9; (try simp at hz9)
        have HB9 := hide ((unhide HB).trans (hb9.mono (unhide HB).size))
        clear hb9 hc9 hf9
        rcases Nat.lt_or_ge bytes (s + L[k].1.size + L[k].2.size) with hq | hq
        · go_wp2_with fail
          go_ret
          exact ⟨_, rfl, (by simp), unhide HB9⟩
        · go_wp2_with fail
          go_roundw
          case rel =>
            refine ⟨k + 1, s + L[k].1.size + L[k].2.size, by go_num, by go_num, by omega, by omega, fun f hf => ?_, unhide HB9⟩
            rw [unhide HT, List.mem_append] at hf
            rcases hf with hf | hf
            · exact unhide HA f hf
            · rw [List.mem_singleton] at hf; subst hf; omega
          case measure => simp [intOf]; omega
      · have hT : L.take k = L := List.take_of_length_le hge
        have HT := Lib.hid hT
        clear hT hall hbel
        go_wp2_with fail
        go_ret
        refine ⟨_, rfl, fun _ => ⟨hm, ?_⟩, unhide HB⟩
        have := unhide HA
        rw [HT.out] at this
        exact this

theorem eqFld (a b c d : ByteArray) (w : World) : (Op.equalIn 10000 50 (.agg #[.string a, .string b]) (.agg #[.string c, .string d])).run Tryz.prog w = .ok (a.toList == c.toList && b.toList == d.toList) w := by
  have u9 := Tryz.underlying9
  have a9 := Tryz.isAgg9
  have z9 := Tryz.sizeOf9
  have hS : Tryz.prog.underlying 50 = some (.struct (Tryz.prog.fieldsOf 50)) := by kernel_rfl
  have hp : Tryz.prog.stoodInHeld 50 = false := by kernel_rfl
  rw [show (10000 : Nat) = 9999 + 1 from rfl, run_equalIn_agg w 9999 50 _ _ hS hp]
  simp only [Program.fieldsOf, Tryz.underlying50]
  go_simp
  by_cases h1 : a.toList = c.toList <;> by_cases h2 : b.toList = d.toList <;> simp [h1, h2]
theorem neqFld (a b c d : ByteArray) (w : World) : (binOp .neq 50 (.agg #[.string a, .string b]) (.agg #[.string c, .string d])).run Tryz.prog w = .ok (.bool (!(a.toList == c.toList && b.toList == d.toList))) w := by
  rw [run_neq_struct, eqFld]; rfl
theorem eqlFld (a b c d : ByteArray) (w : World) : (binOp .eql 50 (.agg #[.string a, .string b]) (.agg #[.string c, .string d])).run Tryz.prog w = .ok (.bool (a.toList == c.toList && b.toList == d.toList)) w := by
  rw [run_eql_struct, eqFld]; rfl
theorem guardFld (op : BinOp) (x y : Operand) (xs ys : Array Value) (w : World) : (eqGuard op 50 x y (.agg xs) (.agg ys)).run Tryz.prog w = .ok () w := run_eqGuard_agg w op 50 x y xs ys (by kernel_rfl)

def sameLF (A B : List Fld) : Bool := decide (A = B)
end Go.Proofs.YtkaaeajidejchaaGreatDoor.Sp
end

/- strings.Cut at one byte. -/
section
namespace Go.Proofs.YtkaaeajidejchaaGreatDoor.Sp
open Go.RowKit

def cutS (c : UInt8) : List UInt8 → List UInt8 × List UInt8 × Bool
  | [] => ([], [], false)
  | b :: l => if b = c then ([], l, true) else (b :: (cutS c l).1, (cutS c l).2.1, (cutS c l).2.2)
theorem cut_one (c : UInt8) : ∀ l : List UInt8, Lib.cut l [c] = cutS c l
  | [] => rfl
  | b :: l => by
    have ih := cut_one c l
    have hg := Lib.index_ge l [c]
    unfold Lib.cut at ih ⊢
    unfold cutS Lib.index
    by_cases hb : b = c
    · subst hb
      simp
    · rw [if_neg hb]
      have hp : List.isPrefixOf [c] (b :: l) = false := by
        simp [List.isPrefixOf]
        exact fun h => hb h.symm
      rw [hp]
      simp only [Bool.false_eq_true, if_false]
      rw [← ih]
      by_cases hx : Lib.index l [c] = -1
      · simp [hx]
      · have h0 : 0 ≤ Lib.index l [c] := by omega
        have hx' : (Lib.index l [c] == -1) = false := by simpa using hx
        have h1 : 0 ≤ Lib.index l [c] + 1 := by omega
        rw [hx']
        simp only [Bool.false_eq_true, if_false]
        rw [if_pos h0, if_pos h1]
        have e1 : (Lib.index l [c] + 1).toNat = (Lib.index l [c]).toNat + 1 := by omega
        rw [e1]
        simp only [List.take_succ_cons, List.length_singleton, List.drop_succ_cons]
theorem cutS_len (c : UInt8) : ∀ l : List UInt8, (cutS c l).1.length ≤ l.length ∧ (cutS c l).2.1.length ≤ l.length
  | [] => ⟨Nat.le_refl _, Nat.le_refl _⟩
  | b :: l => by
    have ih := cutS_len c l
    unfold cutS
    split
    · simp
    · simp only [List.length_cons]; omega

/-- The library's variable MaxLen holds a number. -/
def MaxV (w : World) : Prop := ∃ m : Int, w.cell? ⟨5, 0, none⟩ = some (.int .i64 m)
theorem MaxV.below {w w' : World} (h : MaxV w) (hb : Below w.heap.size w w') : MaxV w' := by
  obtain ⟨m, hm⟩ := h
  exact ⟨m, (hb.cell (p := ⟨5, 0, none⟩) (World.block_lt_of_cell? w _ hm)).trans hm⟩

/-- strings.Cut at one byte. -/
theorem cut_any (s : ByteArray) (c : UInt8) (x y : ByteArray) (b : Bool) (hx : x.data.toList = (cutS c s.data.toList).1) (hy : y.data.toList = (cutS c s.data.toList).2.1) (hb : b = (cutS c s.data.toList).2.2)
    (hs : s.size < 4294967281) (w : World) (hM : MaxV w) :
    Calls Tryz.prog 78 #[.string s, .string ⟨#[c]⟩] w fun e w' => e = .returned (.tuple #[.string x, .string y, .bool b]) ∧ Below w.heap.size w w' := by
  obtain ⟨m, hm⟩ := hM
  refine (Tryz.strings_Cut s ⟨#[c]⟩ m w hs hm).mono ?_
  rintro e w' ⟨rfl, n, rfl⟩
  have e : Lib.cut s.data.toList (⟨#[c]⟩ : ByteArray).data.toList = cutS c s.data.toList := cut_one c _
  refine ⟨?_, below_drewN (Below.refl _ _) n⟩
  rw [e, ← hx, ← hy, hb]

end Go.Proofs.YtkaaeajidejchaaGreatDoor.Sp
end

/- field.value, Check, Line; the same by the reference. -/
section
namespace Go.Proofs.YtkaaeajidejchaaGreatDoor.Sp
open Go.RowKit Sl

theorem value_any (s : ByteArray) (hs : s.size ≤ 1000000) (w : World) :
    Calls Tryz.prog 69 #[.string s] w fun e w' => e = .returned (.bool (allS chr s.data.toList)) ∧ Below w.heap.size w w' := by
  cases h : allS chr s.data.toList
  · have hc := hide (fun w => quote_no s hs h w)
    clear h
    go_enter Tryz.func69, Tryz.ntmps69
    go_wp2_with (go_at_call 30; refine (unhide hc _).mono ?_; rintro e w1 ⟨rfl, hb1⟩; have HB := hide hb1; clear hb1)
    go_ret
    exact ⟨rfl, unhide HB⟩
  · have hc := hide (fun w => quote_ok s hs h w)
    clear h
    go_enter Tryz.func69, Tryz.ntmps69
    go_wp2_with (go_at_call 30; refine (unhide hc _).mono ?_; rintro e w1 ⟨rfl, hb1⟩; have HB := hide hb1; clear hb1)
    go_ret
    exact ⟨rfl, unhide HB⟩

/-- may it be a field? -/
def chkS (f : Fld) : Bool := (tokenS f.1.data.toList && allS chr f.2.data.toList) && ((ofL (trimW f.2.data.toList)).toList == f.2.toList)
def errI (ok : Bool) : Int := if ok = true then 0 else 4

set_option maxRecDepth 100000 in
set_option maxHeartbeats 2000000 in
theorem check_any (x y : ByteArray) (hx : x.size ≤ 1000000) (hy : y.size ≤ 1000000) (w : World) :
    Calls Tryz.prog 51 #[.agg #[.string x, .string y]] w fun e w' => e = .returned (.int .i64 (errI (chkS (x, y)))) ∧ Below w.heap.size w w' := by
  have h1 := fun w => token_any x (by omega) w
  have h2 := fun w => value_any y hy w
  have h3 := fun w => trim_any y (by omega) w
  have hc : chkS (x, y) = ((tokenS x.data.toList && allS chr y.data.toList) && ((ofL (trimW y.data.toList)).toList == y.toList)) := rfl
  rw [hc]
  obtain ⟨z, hz⟩ : ∃ z, ofL (trimW y.data.toList) = z := ⟨_, rfl⟩
  obtain ⟨a, ha⟩ : ∃ a, tokenS x.data.toList = a := ⟨_, rfl⟩
  obtain ⟨b, hb⟩ : ∃ b, allS chr y.data.toList = b := ⟨_, rfl⟩
  rw [ha] at h1 ⊢
  rw [hb] at h2 ⊢
  rw [hz] at h3 ⊢
  have H1 := hide h1
  have H2 := hide h2
  have H3 := hide h3
  clear h1 h2 h3 hc hz ha hb
  go_enter Tryz.func51, Tryz.ntmps51
  go_upto_region 1 with fail
  have HH := Reg.Has.new w [.string x, .string y] 50
  have HB := hide ((Below.refl w.heap.size w).alloc (Nat.le_refl _) (.cells #[.string x, .string y] 50))
  generalize w.alloc (.cells #[.string x, .string y] 50) = w1 at HH HB ⊢
  have p1 := HH.cell 0 _ rfl; have q1 := HH.cell 1 _ rfl; have u1 := HH.free 0 (by simp); have v1 := HH.free 1 (by simp); have z1 := HH.lt
  clear HH
  cases a <;> cases b
  all_goals
    refine Reg.region_more (by kernel_rfl) (by kernel_rfl) ?_
    repeat (go_big_quiet_step ((first | (go_at_call 68; exact Reg.Calls.more (unhide H1 _)) | (go_at_call 69; exact Reg.Calls.more (unhide H2 _)) | (go_at_call 70; exact Reg.Calls.more (unhide H3 _)))))
    refine wpQuiet_nil ?_
    intro w9 hb9; obtain ⟨hc9, hf9, hz9⟩ := bcell hb9; (try simp at hz9)
    have HB9 := hide ((unhide HB).trans (hb9.mono (unhide HB).size))
    clear hb9 hc9 hf9
  · go_wp2_with fail
    go_ret
    exact ⟨rfl, unhide HB9⟩
  · go_wp2_with fail
    go_ret
    exact ⟨rfl, unhide HB9⟩
  · go_wp2_with fail
    go_ret
    exact ⟨rfl, unhide HB9⟩
  · cases hzy : (z.toList == y.toList)
    · go_wp2_with fail
      go_ret
      exact ⟨by rw [hzy] <;> rfl, unhide HB9⟩
    · go_wp2_with fail
      go_ret
      exact ⟨by rw [hzy] <;> rfl, unhide HB9⟩
end Go.Proofs.YtkaaeajidejchaaGreatDoor.Sp
end

/- field.Line; the example that is asked first. -/
section
namespace Go.Proofs.YtkaaeajidejchaaGreatDoor.Sp
open Go.RowKit Sl

section
variable {ops : Array Oper} {rest : List Oper} {o : Oper} {a : Act} {w : World} {Q : Exit → Act → World → Prop}
theorem infoF : (Tryz.prog.info? 50).map (·.size) = some 2 := by kernel_rfl
theorem wpList_loadF (hgd : o.guard = none) (x : Operand) (ho : o.op = .load 50 x) (b : Nat) (hx : a.eval x = .pointer (some ⟨b, 0, none⟩)) (vs : List Value) (hl : vs.length = 2) (H : Reg.Has w b vs)
    (h : wpList Tryz.prog ops Q rest (a.put o.dst (.agg vs.toArray)) w) : wpList Tryz.prog ops Q (o :: rest) a w :=
  wpList_load_mid hgd 50 x ho b 0 hx vs _ (has_range H) Tryz.underlying50 rfl (by rw [infoF, hl]) h
theorem wpList_storeF (hgd : o.guard = none) (x y : Operand) (ho : o.op = .store 50 x y) (b : Nat) (hx : a.eval x = .pointer (some ⟨b, 0, none⟩)) (cells : Array Value) (hc : cells.size = 2) (hy : a.eval y = .agg cells) (old : List Value) (hl : old.length = 2) (H : Reg.Has w b old) (h1 : cells.all (·.oneCell') = true)
    (h : Reg.Has (w.setCells b 0 cells.toList) b cells.toList → wpList Tryz.prog ops Q rest (a.put o.dst undef) (w.setCells b 0 cells.toList)) : wpList Tryz.prog ops Q (o :: rest) a w := by
  have ht : w.there b 0 cells.size := by have := has_there H; rw [hl] at this; rw [hc]; exact this
  exact wpList_store_mid hgd 50 x y ho b 0 cells hx hy ht (by rw [infoF, hc]) h1 (h (has_setCells (by simp) ht H.lt (fun o w => size_setCells _ _ _ _)))
theorem run_loadF (b : Nat) (cells : Array Value) (hc : cells.size = 2) (H : Reg.Has w b cells.toList) : (loadVar 50 ⟨b, 0, none⟩).run Tryz.prog w = .ok (.agg cells) w :=
  run_loadVar_mid (P := Tryz.prog) w b 0 50 cells.toList _ (has_range H) Tryz.underlying50 rfl (by rw [infoF]; simp [hc])
end

def lineF (s : ByteArray) : Fld := (ofL (cutS 58 s.data.toList).1, ofL (trimW (cutS 58 s.data.toList).2.1))
def lineB (s : ByteArray) : Bool := (cutS 58 s.data.toList).2.2 && chkS (lineF s)
theorem lineF_size (s : ByteArray) : (lineF s).1.size ≤ s.size ∧ (lineF s).2.size ≤ s.size := by
  have h := cutS_len 58 s.data.toList
  have hs : s.data.toList.length = s.size := by simp
  have h2 := trim_len (cutS 58 s.data.toList).2.1
  unfold lineF
  refine ⟨?_, ?_⟩
  · show (ofL _).size ≤ _
    rw [size_list (l := (cutS 58 s.data.toList).1) rfl]; omega
  · show (ofL _).size ≤ _
    rw [size_list (l := trimW (cutS 58 s.data.toList).2.1) rfl]; omega

def fldOut (f : Fld) (ok : Bool) (e : Ending) : Prop := e = .returned (.tuple #[.agg #[.string (if ok = true then f.1 else ⟨#[]⟩), .string (if ok = true then f.2 else ⟨#[]⟩)], .int .i64 (errI ok)])

set_option maxRecDepth 100000 in
set_option maxHeartbeats 2000000 in
theorem line_any (s : ByteArray) (hs : s.size ≤ 1000000) (w : World) (hM : MaxV w) :
    Calls Tryz.prog 57 #[.string s] w fun e w' => fldOut (lineF s) (lineB s) e ∧ Below w.heap.size w w' := by
  obtain ⟨hz1, hz2⟩ := lineF_size s
  obtain ⟨is, his⟩ : ∃ is, (cutS 58 s.data.toList).2.2 = is := ⟨_, rfl⟩
  obtain ⟨r, hr⟩ : ∃ r : ByteArray, ofL (cutS 58 s.data.toList).2.1 = r := ⟨_, rfl⟩
  have hrl : r.data.toList = (cutS 58 s.data.toList).2.1 := by rw [← hr]; rfl
  have hrz : r.size ≤ s.size := by rw [size_list hrl]; have := (cutS_len 58 s.data.toList).2; simpa using this
  obtain ⟨⟨x, y⟩, hf⟩ : ∃ f, lineF s = f := ⟨_, rfl⟩
  have hx : x.data.toList = (cutS 58 s.data.toList).1 := by have := congrArg Prod.fst hf; rw [show x = ofL (cutS 58 s.data.toList).1 from this.symm]; rfl
  have hy : ofL (trimW r.data.toList) = y := by have := congrArg Prod.snd hf; rw [hrl]; exact this
  have hB : lineB s = (is && chkS (x, y)) := by unfold lineB; rw [his, hf]
  obtain ⟨ok, hok⟩ : ∃ ok, chkS (x, y) = ok := ⟨_, rfl⟩
  rw [hf] at hz1 hz2 ⊢
  rw [hB, hok]
  have hzx : x.size ≤ 1000000 := Nat.le_trans hz1 hs
  have hzy : y.size ≤ 1000000 := Nat.le_trans hz2 hs
  have HC := hide (fun w (h : MaxV w) => cut_any s 58 x r is hx hrl his.symm (by omega) w h)
  have ht := fun w => trim_any r (by omega) w
  rw [hy] at ht
  have HT := hide ht
  have hk := fun w => check_any x y hzx hzy w
  rw [hok] at hk
  have HK := hide hk
  have HM := hide hM
  clear ht hk hM hx hy hB hok hf hr hrl his hz1 hz2
  unfold fldOut
  go_enter Tryz.func57, Tryz.ntmps57
  go_upto_region 3 with (first
    | (go_at_call 78; refine (unhide HC _ ((unhide HM).below ((Below.refl _ _).alloc (Nat.le_refl _) _))).mono ?_; rintro e w1 ⟨rfl, hb1⟩; have HR := hide ((Reg.Has.new w [.string ⟨#[]⟩, .string ⟨#[]⟩] 50).call hb1); have HB := hide (((Below.refl w.heap.size w).alloc (Nat.le_refl _) (.cells #[.string ⟨#[]⟩, .string ⟨#[]⟩] 50)).trans (hb1.mono (by simp))); clear hb1)
    | (go_at_call 70; refine (unhide HT _).mono ?_; rintro e w2 ⟨rfl, hb2⟩; have HR := hide ((unhide HR).call hb2); have HB := hide ((unhide HB).trans (hb2.mono (unhide HB).size)); clear hb2))
  have HF := hide (Reg.Has.new w2 [.string x, .string y] 50)
  have HR := hide ((unhide HR).alloc (.cells #[.string x, .string y] 50))
  have HB := hide ((unhide HB).alloc (unhide HB).size (.cells #[.string x, .string y] 50))
  have zr := (unhide HR).lt
  have zf := (unhide HF).lt
  generalize w2.alloc (.cells #[.string x, .string y] 50) = w3 at HF HR HB zr zf ⊢
  generalize w2.heap.size = gf at *
  have p10 := (unhide HF).cell 0 _ rfl
  have p11 := (unhide HF).cell 1 _ rfl
  unfold errI at HK
  cases is
  · go_wp2_with (first
      | (refine wpList_storeF rfl _ _ rfl w.heap.size rfl #[.string ⟨#[]⟩, .string ⟨#[]⟩] rfl rfl _ rfl (unhide HR) (by kernel_rfl) ?_; intro HZ; have HBZ := below_setCells w.heap.size (Nat.le_refl _) (#[.string ⟨#[]⟩, .string ⟨#[]⟩]).toList 0 _ (unhide HB); generalize World.setCells _ w.heap.size 0 _ = w9 at HZ HBZ ⊢; have ZZ := hide HZ; have BZ := hide HBZ; clear HZ HBZ)
      | (refine wpList_loadF rfl _ rfl gf rfl _ rfl (unhide HF) ?_)
      | (go_at_call 51; refine (unhide HK _).mono ?_; rintro e w4 ⟨rfl, hb4⟩; have HR := hide ((unhide HR).call hb4); have HF := hide ((unhide HF).call hb4); have HB := hide ((unhide HB).trans (hb4.mono (unhide HB).size)); clear hb4))
    have hl := run_loadF w.heap.size #[.string ⟨#[]⟩, .string ⟨#[]⟩] rfl (unhide ZZ)
    exact bodyPost_ret (Mem.results_cell2 (ad := ⟨w.heap.size, 0, none⟩) Tryz.results57 rfl hl) rfl ⟨rfl, unhide BZ⟩
  · cases ok
    · simp only [Bool.false_eq_true, if_false] at HK
      go_wp2_with (first
        | (refine wpList_storeF rfl _ _ rfl w.heap.size rfl #[.string ⟨#[]⟩, .string ⟨#[]⟩] rfl rfl _ rfl (unhide HR) (by kernel_rfl) ?_; intro HZ; have HBZ := below_setCells w.heap.size (Nat.le_refl _) (#[.string ⟨#[]⟩, .string ⟨#[]⟩]).toList 0 _ (unhide HB); generalize World.setCells _ w.heap.size 0 _ = w9 at HZ HBZ ⊢; have ZZ := hide HZ; have BZ := hide HBZ; clear HZ HBZ)
        | (refine wpList_loadF rfl _ rfl gf rfl _ rfl (unhide HF) ?_)
        | (go_at_call 51; refine (unhide HK _).mono ?_; rintro e w4 ⟨rfl, hb4⟩; have HR := hide ((unhide HR).call hb4); have HF := hide ((unhide HF).call hb4); have HB := hide ((unhide HB).trans (hb4.mono (unhide HB).size)); clear hb4))
      have hl := run_loadF w.heap.size #[.string ⟨#[]⟩, .string ⟨#[]⟩] rfl (unhide ZZ)
      exact bodyPost_ret (Mem.results_cell2 (ad := ⟨w.heap.size, 0, none⟩) Tryz.results57 rfl hl) rfl ⟨rfl, unhide BZ⟩
    · simp only [if_true] at HK
      go_wp2_with (first
        | (refine wpList_storeF rfl _ _ rfl w.heap.size rfl #[.string x, .string y] rfl rfl _ rfl (unhide HR) (by kernel_rfl) ?_; intro HZ; have HBZ := below_setCells w.heap.size (Nat.le_refl _) (#[.string x, .string y]).toList 0 _ (unhide HB); generalize World.setCells _ w.heap.size 0 _ = w9 at HZ HBZ ⊢; have ZZ := hide HZ; have BZ := hide HBZ; clear HZ HBZ)
        | (refine wpList_loadF rfl _ rfl gf rfl _ rfl (unhide HF) ?_)
        | (go_at_call 51; refine (unhide HK _).mono ?_; rintro e w4 ⟨rfl, hb4⟩; have HR := hide ((unhide HR).call hb4); have HF := hide ((unhide HF).call hb4); have HB := hide ((unhide HB).trans (hb4.mono (unhide HB).size)); clear hb4))
      have hl := run_loadF w.heap.size #[.string x, .string y] rfl (unhide ZZ)
      exact bodyPost_ret (Mem.results_cell2 (ad := ⟨w.heap.size, 0, none⟩) Tryz.results57 rfl hl) rfl ⟨rfl, unhide BZ⟩
end Go.Proofs.YtkaaeajidejchaaGreatDoor.Sp
end
