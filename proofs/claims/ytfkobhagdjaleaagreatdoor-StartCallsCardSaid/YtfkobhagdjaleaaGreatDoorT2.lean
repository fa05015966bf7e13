/- token.Number. -/
import Derived.Test.YtfkobhagdjaleaaGreatDoorT1
import Derived.Shelf.Strings.SlTrimAscii
import Derived.Test.YtfkobhagdjaleaaGreatDoorMem
namespace Go.Proofs.YtfkobhagdjaleaaGreatDoor.Sp
open Go.RowKit

/-! ### plain -/
def outD (r : Nat) : Bool := decide (r < 48) || decide (57 < r)
theorem idx_digs (s : ByteArray) : ∀ (f pos : Nat), (s.data.toList.drop pos).all digB = true → Lib.idxFuncFrom outD true s f pos = -1
  | 0, _, _ => rfl
  | f + 1, pos, h => by
    unfold Lib.idxFuncFrom
    by_cases hp : pos < s.size
    · rw [if_pos hp]
      rw [drop_cons s pos hp, List.all_cons, Bool.and_eq_true] at h
      have hc := digB_t h.1
      rw [decode_ascii s pos hp (by omega)]
      have ho : outD s[pos].toNat = false := by unfold outD; simp; omega
      rw [if_neg (by rw [ho]; decide)]
      exact idx_digs s f (pos + 1) h.2
    · rw [if_neg hp]
theorem idx_digits (s : ByteArray) (h : s.data.toList.all digB = true) : Lib.idxFunc outD true s = -1 := by
  unfold Lib.idxFunc
  exact idx_digs s s.size 0 (by rw [List.drop_zero]; exact h)

theorem outD_pred (w : World) : PredAt Tryz.prog 48 #[] encR outD w := by
  intro W x _
  show Calls Tryz.prog 48 #[.int .i32 x] W _
  go_enter Tryz.func48, Tryz.ntmps48
  go_wp2
  all_goals go_ret
  all_goals refine ⟨ret_bool ?_, 0, rfl⟩
  all_goals (unfold outD; first | (have h : x < 48 := (by omega); simp [h]; done) | (have h : ¬ x < 48 := (by omega); simp [h]; omega))

/-- The library's variable strconv.ErrRange holds an error, or nothing. -/
def RangeV (w : World) : Prop := ∃ ev : Value, w.cell? ⟨2, 0, none⟩ = some ev ∧ (ev = .nilIface ∨ ∃ te pe, ev = .iface te pe)
theorem RangeV.below {w w' : World} (h : RangeV w) (hb : Below w.heap.size w w') : RangeV w' := by
  obtain ⟨v, hv, ho⟩ := h
  exact ⟨v, (hb.cell (p := ⟨2, 0, none⟩) (World.block_lt_of_cell? w _ hv)).trans hv, ho⟩

theorem parse_ok (s : ByteArray) (hs : s.size ≤ 281474976710656) (v : Int) (h : Lib.parseIntB 64 s.data.toList = .ok v) (w : World) :
    Calls Tryz.prog 49 #[.string s, .int .i64 10, .int .i64 64] w fun e w' => e = .returned (.tuple #[.int .i64 v, .nilIface]) ∧ Below w.heap.size w w' := by
  refine (Tryz.strconv_ParseInt_10_at64_ok s (by omega) v h w).mono ?_
  rintro e w' ⟨rfl, rfl | ⟨t, rfl⟩⟩
  · exact ⟨rfl, Below.refl _ _⟩
  · exact ⟨rfl, Mem.below_bytes _ _ _⟩
theorem parse_range (s : ByteArray) (hs : s.size ≤ 281474976710656) (h : Lib.parseIntB 64 s.data.toList = .range) (w : World) (hE : RangeV w) :
    Calls Tryz.prog 49 #[.string s, .int .i64 10, .int .i64 64] w fun e w' => ∃ (t : TypeId) (x : Int) (p : Value), e = .returned (.tuple #[.int .i64 x, .iface t p]) ∧ Below w.heap.size w w' := by
  obtain ⟨ev, hv, ho⟩ := hE
  refine (Tryz.strconv_ParseInt_10_at64_range s hs h ev w hv ho).mono ?_
  rintro e w' ⟨N, rfl, _, _, hb⟩
  exact ⟨_, _, _, rfl, hb⟩

set_option maxRecDepth 100000 in
set_option maxHeartbeats 1000000 in
theorem number_any (s : ByteArray) (hs : s.size ≤ 281474976710656) (w : World) (hE : RangeV w) :
    Calls Tryz.prog 23 #[.string s] w fun e w' => e = .returned (.tuple #[.int .i64 (numS s.data.toList).1, .int .i64 (numS s.data.toList).2]) ∧ Below w.heap.size w w' := by
  have ct := hide (fun w => Any.strings_Trim_laid Tryz.lays160 (by kernel_rfl) s ⟨#[48, 49, 50, 51, 52, 53, 54, 55, 56, 57]⟩ w (by omega) (by decide) (ascii_of_all (by decide)))
  rcases empty_case s with ⟨he, he2⟩ | ⟨he, he2⟩
  · have hn := hide (numS_bad (l := s.data.toList) (by rw [he2]; rfl))
    clear he2 ct hE
    go_enter Tryz.func23, Tryz.ntmps23
    go_wp2_with fail
    go_ret2
    exact ⟨by rw [unhide hn] <;> rfl, Below.refl _ _⟩
  · cases hd : s.data.toList.all digB
    · have hn := hide (numS_bad (l := s.data.toList) (by unfold digsS; rw [hd, Bool.and_false]))
      have ht := trim_nodigs hd
      obtain ⟨t, htr⟩ := of_list (Lib.trimS s.data.toList tenD)
      have hte : t.toList.isEmpty = false := by
        rcases empty_case t with ⟨_, h2⟩ | ⟨h1, _⟩
        · exact absurd (htr.symm.trans h2) ht
        · exact h1
      have ct2 : ∀ w, Calls Tryz.prog 46 #[.string s, .string ⟨#[48, 49, 50, 51, 52, 53, 54, 55, 56, 57]⟩] w fun e w' => e = .returned (.string t) ∧ Below w.heap.size w w' := by
        intro w
        refine (unhide ct w).mono ?_
        rintro e w' ⟨rfl, hb⟩
        exact ⟨by rw [ba_eq htr] <;> rfl, hb⟩
      have CT := hide ct2
      clear ct ct2 hd ht htr he2 hE
      go_enter Tryz.func23, Tryz.ntmps23
      go_wp2_with fail
      refine (unhide CT _).mono ?_; rintro e w1 ⟨rfl, hb1⟩
      go_wp2_with fail
      go_ret2
      exact ⟨by rw [unhide hn] <;> rfl, hb1⟩
    · have hdig : digsS s.data.toList = true := by
        unfold digsS
        rw [hd, Bool.and_true]
        cases hl : s.data.toList with
        | nil => exact absurd hl he2
        | cons c t => rfl
      have ct2 : ∀ w, Calls Tryz.prog 46 #[.string s, .string ⟨#[48, 49, 50, 51, 52, 53, 54, 55, 56, 57]⟩] w fun e w' => e = .returned (.string ⟨#[]⟩) ∧ Below w.heap.size w w' := by
        intro w
        refine (unhide ct w).mono ?_
        rintro e w' ⟨rfl, hb⟩
        refine ⟨?_, hb⟩
        show Ending.returned (.string ⟨(Lib.trimS s.data.toList tenD).toArray⟩) = _
        rw [trim_digs hd]
      have CT := hide ct2
      have hi := Lib.hid (idx_digits s hd)
      have ci := hide (fun w => Tryz.strings_IndexFunc 48 #[] (fun _ _ => by kernel_rfl) outD s w (outD_pred _))
      have hp := parse_digs hdig
      by_cases h1 : valN s.data.toList ≤ 9223372036854775807
      · rw [if_pos h1] at hp
        have cp := hide (fun w => parse_ok s hs _ hp w)
        by_cases h2 : valN s.data.toList ≤ 9007199254740991
        · have hn := hide (numS_ok hdig h2)
          generalize valN s.data.toList = N at *
          clear ct ct2 hd he2 hE hp hdig
          go_enter Tryz.func23, Tryz.ntmps23
          go_wp2_with fail
          refine (unhide CT _).mono ?_; rintro e w1 ⟨rfl, hb1⟩
          go_wp2_with fail
          refine (unhide ci _).mono ?_; rintro e w2 ⟨rfl, hb2⟩
          rw [hi.out]
          replace hb2 := hb1.trans (hb2.mono hb1.size)
          clear hb1
          go_wp2_with fail
          refine (unhide cp _).mono ?_; rintro e w3 ⟨rfl, hb3⟩
          replace hb3 := hb2.trans (hb3.mono hb2.size)
          clear hb2
          go_wp2_with fail
          go_ret2
          exact ⟨by rw [unhide hn] <;> rfl, hb3⟩
        · have hn := hide (numS_long hdig h2)
          generalize valN s.data.toList = N at *
          clear ct ct2 hd he2 hE hp hdig
          go_enter Tryz.func23, Tryz.ntmps23
          go_wp2_with fail
          refine (unhide CT _).mono ?_; rintro e w1 ⟨rfl, hb1⟩
          go_wp2_with fail
          refine (unhide ci _).mono ?_; rintro e w2 ⟨rfl, hb2⟩
          rw [hi.out]
          replace hb2 := hb1.trans (hb2.mono hb1.size)
          clear hb1
          go_wp2_with fail
          refine (unhide cp _).mono ?_; rintro e w3 ⟨rfl, hb3⟩
          replace hb3 := hb2.trans (hb3.mono hb2.size)
          clear hb2
          go_wp2_with fail
          go_ret2
          exact ⟨by rw [unhide hn] <;> rfl, hb3⟩
      · rw [if_neg h1] at hp
        have cp := hide (fun w hE => parse_range s hs hp w hE)
        have hn := hide (numS_long hdig (by omega))
        have HE := hide hE
        clear ct ct2 hd he2 hE hp hdig h1
        go_enter Tryz.func23, Tryz.ntmps23
        go_wp2_with fail
        refine (unhide CT _).mono ?_; rintro e w1 ⟨rfl, hb1⟩
        go_wp2_with fail
        refine (unhide ci _).mono ?_; rintro e w2 ⟨rfl, hb2⟩
        rw [hi.out]
        replace hb2 := hb1.trans (hb2.mono hb1.size)
        clear hb1
        go_wp2_with fail
        refine (unhide cp _ ((unhide HE).below hb2)).mono ?_; rintro e w3 ⟨t, x, p, rfl, hb3⟩
        replace hb3 := hb2.trans (hb3.mono hb2.size)
        clear hb2
        go_wp2_with fail
        go_ret2
        exact ⟨by rw [unhide hn] <;> rfl, hb3⟩
end Go.Proofs.YtfkobhagdjaleaaGreatDoor.Sp
