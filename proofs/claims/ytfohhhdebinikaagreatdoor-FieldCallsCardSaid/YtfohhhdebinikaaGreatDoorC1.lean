/- Trimming, by the program and by the reference. -/
import Derived.Test.YtfohhhdebinikaaGreatDoorB2
import Derived.Test.YtfohhhdebinikaaGreatDoorSpPl2
import Derived.Shelf.Strings.SlTrimAscii
namespace Go.Proofs.YtfohhhdebinikaaGreatDoor.Sp
open Go.RowKit

theorem trim_any (s : ByteArray) (hs : s.size ≤ 9223372036854775807) (w : World) :
    Calls Tryz.prog 43 #[.string s] w fun e w' => e = .returned (.string (ofL (trimW s.data.toList))) ∧ Below w.heap.size w w' := by
  have c := hide (fun w => Any.strings_Trim_laid Tryz.lays160 (by kernel_rfl) s ⟨#[32, 9]⟩ w hs (by decide) (ascii_of_all (by decide)))
  go_enter Tryz.func43, Tryz.ntmps43
  go_wp2_with fail
  refine (unhide c _).mono ?_; rintro e w1 ⟨rfl, hb⟩
  go_wp2_with fail
  go_ret
  exact ⟨rfl, hb⟩

def whiteI (c : Int) : Bool := decide (c = 32 ∨ c = 9)
theorem white_any (c : Int) (w : World) : Calls Tryz.prog 68 #[.int .u8 c] w fun e w' => e = .returned (.bool (whiteI c)) ∧ w = w' := by
  go_enter Tryz.func68, Tryz.ntmps68
  go_wp2
  all_goals go_ret
  all_goals exact ⟨ret_bool (by unfold whiteI; (first | (with_reducible refine dec_t ?_; omega) | (with_reducible refine dec_f ?_; omega) | (with_reducible refine dec_d ?_; omega) | (with_reducible refine dec_e ?_; omega) | (with_reducible refine dec_n ?_; omega) | (with_reducible refine dec_nd ?_; omega))), rfl⟩
theorem whiteI_B (c : UInt8) : whiteI c.toNat = whiteB c := by
  have := byte_all (fun c => whiteI c.toNat == whiteB c) (by decide +kernel) c
  simpa using this

/-! ### plain -/
theorem left_step {c : UInt8} {t : List UInt8} (h : whiteB c = true) : Lib.trimLeftS (c :: t) [32, 9] = Lib.trimLeftS t [32, 9] := List.dropWhile_cons_of_pos (by exact h)
theorem left_stop {c : UInt8} {t : List UInt8} (h : whiteB c = false) : Lib.trimLeftS (c :: t) [32, 9] = c :: t := List.dropWhile_cons_of_neg (by unfold whiteB at h; rw [h]; decide)
theorem right_step {c : UInt8} {t : List UInt8} (h : whiteB c = true) : Lib.trimRightS (t ++ [c]) [32, 9] = Lib.trimRightS t [32, 9] := by
  unfold Lib.trimRightS
  rw [List.reverse_append]
  show (List.dropWhile _ (c :: t.reverse)).reverse = _
  rw [List.dropWhile_cons_of_pos (by exact h)]
theorem right_stop {c : UInt8} {t : List UInt8} (h : whiteB c = false) : Lib.trimRightS (t ++ [c]) [32, 9] = t ++ [c] := by
  unfold Lib.trimRightS
  rw [List.reverse_append]
  show (List.dropWhile _ (c :: t.reverse)).reverse = _
  rw [List.dropWhile_cons_of_neg (by unfold whiteB at h; rw [h]; decide)]
  simp
theorem take_last (x : ByteArray) (h : 0 < x.size) : x.data.toList = x.data.toList.take (x.size - 1) ++ [x[x.size - 1]'(by omega)] := by
  have hl : x.data.toList.length = x.size := by simp
  have := List.take_succ_eq_append_getElem (l := x.data.toList) (i := x.size - 1) (by omega)
  rw [show x.size - 1 + 1 = x.size by omega, List.take_of_length_le (by omega)] at this
  exact this
def strLen : Value → Nat
  | .string s => s.size
  | _ => 0
theorem ne_case (x : ByteArray) : (x.toList = [] ∧ x.size = 0) ∨ (x.toList.isEmpty = false ∧ 0 < x.size) := by
  have hl : x.data.toList.length = x.size := by simp
  rcases empty_case x with ⟨a, b⟩ | ⟨a, b⟩
  · exact .inl ⟨a, by rw [← hl, b]; rfl⟩
  · refine .inr ⟨a, ?_⟩
    rw [← hl]
    cases h : x.data.toList with
    | nil => exact absurd h b
    | cons c t => simp

set_option maxHeartbeats 1000000 in
theorem rtrim_any (s : ByteArray) (hs : s.size ≤ 9223372036854775807) (w : World) :
    Calls Tryz.prog 49 #[.string s] w fun e w' => e = .returned (.string (ofL (trimW s.data.toList))) ∧ w = w' := by
  go_enter Tryz.func49, Tryz.ntmps49
  go_wp2_with fail
  go_loop [0] (fun v => ∃ x : ByteArray, v = .string x ∧ x.size ≤ s.size ∧ Lib.trimLeftS x.data.toList [32, 9] = Lib.trimLeftS s.data.toList [32, 9]) (fun v => strLen v)
  case atStart => exact ⟨s, rfl, Nat.le_refl _, rfl⟩
  case round =>
    obtain ⟨x, rfl, hx, hl⟩ := hrel
    have HL := Lib.hid hl
    clear hl
    have hcase : (x.data.toList = Lib.trimLeftS s.data.toList [32, 9] ∧ (x.size = 0 ∧ x.toList = [] ∨ ∃ h : 0 < x.size, x.toList.isEmpty = false ∧ whiteI x[0].toNat = false)) ∨ ∃ h : 0 < x.size, x.toList.isEmpty = false ∧ whiteI x[0].toNat = true := by
      rcases ne_case x with ⟨e1, e2⟩ | ⟨e1, e2⟩
      · refine .inl ⟨?_, .inl ⟨e2, e1⟩⟩
        rw [← HL.out]
        have : x.data.toList = [] := List.eq_nil_of_length_eq_zero (by simpa using e2)
        rw [this]; rfl
      · have hd : x.data.toList = x[0] :: x.data.toList.drop 1 := by have := drop_cons x 0 e2; rwa [List.drop_zero] at this
        cases hw : whiteI x[0].toNat
        · refine .inl ⟨?_, .inr ⟨e2, e1, hw⟩⟩
          rw [← HL.out]
          conv => lhs; rw [hd]
          conv => rhs; rw [hd]
          exact (left_stop (by rw [← whiteI_B]; exact hw)).symm
        · exact .inr ⟨e2, e1, hw⟩
    rcases hcase with ⟨hdone, hwhy⟩ | ⟨e2, e1, hw⟩
    rotate_left
    · have hd : x.data.toList = x[0] :: x.data.toList.drop 1 := by have := drop_cons x 0 e2; rwa [List.drop_zero] at this
      have HD := Lib.hid hd
      have he : (x.extract 1 x.size).data.toList = x.data.toList.drop 1 := Lib.extract_to_end x 1
      have hes : (x.extract 1 x.size).size = x.size - 1 := by rw [size_list he, List.length_drop]; simp
      have HE := Lib.hid he
      have HES := Lib.hid hes
      clear hd he hes
      go_wp2_with (go_at_call 68; refine (white_any _ _).mono ?_; rintro e w' ⟨rfl, rfl⟩)
      go_round
      case rel =>
        refine ⟨_, rfl, by rw [HES.out]; omega, ?_⟩
        rw [HE.out, ← HL.out]
        conv => rhs; rw [HD.out]
        exact (left_step (by rw [← whiteI_B]; exact hw)).symm
      case measure => show (x.extract 1 x.size).size < x.size; rw [HES.out]; omega
    have HD := Lib.hid hdone
    clear hdone
    rcases hwhy with ⟨e2, e1⟩ | ⟨e2, e1, hw⟩
    all_goals
      go_wp2_with (go_at_call 68; refine (white_any _ _).mono ?_; rintro e w' ⟨rfl, rfl⟩)
      go_loop [0] (fun v => ∃ y : ByteArray, v = .string y ∧ y.size ≤ s.size ∧ Lib.trimRightS y.data.toList [32, 9] = Lib.trimRightS (Lib.trimLeftS s.data.toList [32, 9]) [32, 9]) (fun v => strLen v)
      case atStart => exact ⟨x, rfl, hx, by rw [HD.out]⟩
      case round =>
        obtain ⟨y, rfl, hy, hr⟩ := hrel
        have HR := Lib.hid hr
        clear hr hx HL HD
        rcases ne_case y with ⟨y1, y2⟩ | ⟨y1, y2⟩
        · have hfin : y = ofL (trimW s.data.toList) := by
            have : y.data.toList = [] := List.eq_nil_of_length_eq_zero (by simpa using y2)
            rw [← trim_comm, ← HR.out, this]
            exact ba_eq this
          have HF := Lib.hid hfin
          clear hfin
          go_wp2_with fail
          go_ret
          exact ⟨by rw [← HF.out] <;> rfl, rfl⟩
        · have hz : y.size - 1 < y.size := by omega
          have hd := take_last y y2
          cases hv : whiteI (y[y.size - 1]'hz).toNat
          · have hfin : y = ofL (trimW s.data.toList) := by
              rw [← trim_comm, ← HR.out]
              have : Lib.trimRightS y.data.toList [32, 9] = y.data.toList := by
                rw [hd]; exact right_stop (by rw [← whiteI_B]; exact hv)
              rw [this]; rfl
            have HF := Lib.hid hfin
            clear hfin hd
            go_wp2_with (go_at_call 68; refine (white_any _ _).mono ?_; rintro e w' ⟨rfl, rfl⟩)
            go_ret
            exact ⟨by rw [← HF.out] <;> rfl, rfl⟩
          · have HD := Lib.hid hd
            have he : (y.extract 0 (y.size - 1)).data.toList = y.data.toList.take (y.size - 1) := by rw [Lib.extract_data]; rfl
            have hes : (y.extract 0 (y.size - 1)).size = y.size - 1 := by rw [size_list he, List.length_take]; simp
            have HE := Lib.hid he
            have HES := Lib.hid hes
            clear hd he hes
            go_wp2_with (go_at_call 68; refine (white_any _ _).mono ?_; rintro e w' ⟨rfl, rfl⟩)
            go_round
            case rel =>
              refine ⟨_, rfl, by rw [HES.out]; omega, ?_⟩
              rw [HE.out, ← HR.out]
              conv => rhs; rw [HD.out]
              exact (right_step (by rw [← whiteI_B]; exact hv)).symm
            case measure => show (y.extract 0 (y.size - 1)).size < y.size; rw [HES.out]; omega
end Go.Proofs.YtfohhhdebinikaaGreatDoor.Sp
