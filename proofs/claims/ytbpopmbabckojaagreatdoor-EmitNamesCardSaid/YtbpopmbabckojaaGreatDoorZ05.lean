/- Lemmas for the statement's proof, several texts in one: C1, Rt, S10, Ch, S11. -/
import Derived.Test.YtbpopmbabckojaaGreatDoorZ01
import Derived.Test.YtbpopmbabckojaaGreatDoorZ02
import Derived.Shelf.Strings.SlTrimAscii
import Derived.Test.YtbpopmbabckojaaGreatDoorZ04
/- Trimming, by the program and by the reference. -/
namespace Go.Proofs.YtbpopmbabckojaaGreatDoor.Sp
open Go.RowKit

theorem trim_any (s : ByteArray) (hs : s.size ≤ 9223372036854775807) (w : World) :
    Calls Tryz.prog 93 #[.string s] w fun e w' => e = .returned (.string (ofL (trimW s.data.toList))) ∧ Below w.heap.size w w' := by
  have c := hide (fun w => Any.strings_Trim_laid Tryz.lays160 (by kernel_rfl) s ⟨#[32, 9]⟩ w hs (by decide) (ascii_of_all (by decide)))
  go_enter Tryz.func93, Tryz.ntmps93
  go_wp2_with fail
  refine (unhide c _).mono ?_; rintro e w1 ⟨rfl, hb⟩
  go_wp2_with fail
  go_ret
  exact ⟨rfl, hb⟩

def whiteI (c : Int) : Bool := decide (c = 32 ∨ c = 9)
theorem white_any (c : Int) (w : World) : Calls Tryz.prog 118 #[.int .u8 c] w fun e w' => e = .returned (.bool (whiteI c)) ∧ w = w' := by
  go_enter Tryz.func118, Tryz.ntmps118
  go_wp2
  all_goals go_ret
  all_goals exact ⟨ret_bool (by unfold whiteI; (first | (with_reducible refine dec_t ?_; omega) | (with_reducible refine dec_f ?_; omega) | (with_reducible refine dec_d ?_; omega) | (with_reducible refine dec_e ?_; omega) | (with_reducible refine dec_n ?_; omega) | (with_reducible refine dec_nd ?_; omega))), rfl⟩
theorem whiteI_B (c : UInt8) : whiteI c.toNat = whiteB c := by
  have := byte_all (fun c => whiteI c.toNat == whiteB c) (by decide +kernel) c
  simpa using this

/-! ### plain -/
theorem left_step {c : UInt8} {t : List UInt8} (h : whiteB c = true) : Lib.trimLeftS (c :: t) [32, 9] = Lib.trimLeftS t [32, 9] := List.dropWhile_cons_of_pos (by exact h)
theorem left_stop {c : UInt8} {t : List UInt8} (h : whiteB c = false) : Lib.trimLeftS (c :: t) [32, 9] = c :: t := List.dropWhile_cons_of_neg (by unfold whiteB at h; rw [h]; decide)
theorem right_step {c : UInt8} {t : List UInt8} (h : whiteB c = true) : Lib.trimRightS (t ++ [c]) [32, 9] = Lib.trimRightS t [32, 9] := by
  unfold Lib.trimRightS
  rw [List.reverse_append]
  show (List.dropWhile _ (c :: t.reverse)).reverse = _
  rw [List.dropWhile_cons_of_pos (by exact h)]
theorem right_stop {c : UInt8} {t : List UInt8} (h : whiteB c = false) : Lib.trimRightS (t ++ [c]) [32, 9] = t ++ [c] := by
  unfold Lib.trimRightS
  rw [List.reverse_append]
  show (List.dropWhile _ (c :: t.reverse)).reverse = _
  rw [List.dropWhile_cons_of_neg (by unfold whiteB at h; rw [h]; decide)]
  simp
theorem take_last (x : ByteArray) (h : 0 < x.size) : x.data.toList = x.data.toList.take (x.size - 1) ++ [x[x.size - 1]'(by omega)] := by
  have hl : x.data.toList.length = x.size := by simp
  have := List.take_succ_eq_append_getElem (l := x.data.toList) (i := x.size - 1) (by omega)
  rw [show x.size - 1 + 1 = x.size by omega, List.take_of_length_le (by omega)] at this
  exact this
def strLen : Value → Nat
  | .string s => s.size
  | _ => 0
theorem ne_case (x : ByteArray) : (x.toList = [] ∧ x.size = 0) ∨ (x.toList.isEmpty = false ∧ 0 < x.size) := by
  have hl : x.data.toList.length = x.size := by simp
  rcases empty_case x with ⟨a, b⟩ | ⟨a, b⟩
  · exact .inl ⟨a, by rw [← hl, b]; rfl⟩
  · refine .inr ⟨a, ?_⟩
    rw [← hl]
    cases h : x.data.toList with
    | nil => exact absurd h b
    | cons c t => simp

set_option maxHeartbeats 1000000 in
theorem rtrim_any (s : ByteArray) (hs : s.size ≤ 9223372036854775807) (w : World) :
    Calls Tryz.prog 98 #[.string s] w fun e w' => e = .returned (.string (ofL (trimW s.data.toList))) ∧ w = w' := by
  go_enter Tryz.func98, Tryz.ntmps98
  go_wp2_with fail
  go_loop [0] (fun v => ∃ x : ByteArray, v = .string x ∧ x.size ≤ s.size ∧ Lib.trimLeftS x.data.toList [32, 9] = Lib.trimLeftS s.data.toList [32, 9]) (fun v => strLen v)
  case atStart => exact ⟨s, rfl, Nat.le_refl _, rfl⟩
  case round =>
    obtain ⟨x, rfl, hx, hl⟩ := hrel
    have HL := Lib.hid hl
    clear hl
    have hcase : (x.data.toList = Lib.trimLeftS s.data.toList [32, 9] ∧ (x.size = 0 ∧ x.toList = [] ∨ ∃ h : 0 < x.size, x.toList.isEmpty = false ∧ whiteI x[0].toNat = false)) ∨ ∃ h : 0 < x.size, x.toList.isEmpty = false ∧ whiteI x[0].toNat = true := by
      rcases ne_case x with ⟨e1, e2⟩ | ⟨e1, e2⟩
      · refine .inl ⟨?_, .inl ⟨e2, e1⟩⟩
        rw [← HL.out]
        have : x.data.toList = [] := List.eq_nil_of_length_eq_zero (by simpa using e2)
        rw [this]; rfl
      · have hd : x.data.toList = x[0] :: x.data.toList.drop 1 := by have := drop_cons x 0 e2; rwa [List.drop_zero] at this
        cases hw : whiteI x[0].toNat
        · refine .inl ⟨?_, .inr ⟨e2, e1, hw⟩⟩
          rw [← HL.out]
          conv => lhs; rw [hd]
          conv => rhs; rw [hd]
          exact (left_stop (by rw [← whiteI_B]; exact hw)).symm
        · exact .inr ⟨e2, e1, hw⟩
    rcases hcase with ⟨hdone, hwhy⟩ | ⟨e2, e1, hw⟩
    rotate_left
    · have hd : x.data.toList = x[0] :: x.data.toList.drop 1 := by have := drop_cons x 0 e2; rwa [List.drop_zero] at this
      have HD := Lib.hid hd
      have he : (x.extract 1 x.size).data.toList = x.data.toList.drop 1 := Lib.extract_to_end x 1
      have hes : (x.extract 1 x.size).size = x.size - 1 := by rw [size_list he, List.length_drop]; simp
      have HE := Lib.hid he
      have HES := Lib.hid hes
      clear hd he hes
      go_wp2_with (go_at_call 118; refine (white_any _ _).mono ?_; rintro e w' ⟨rfl, rfl⟩)
      go_round
      case rel =>
        refine ⟨_, rfl, by rw [HES.out]; omega, ?_⟩
        rw [HE.out, ← HL.out]
        conv => rhs; rw [HD.out]
        exact (left_step (by rw [← whiteI_B]; exact hw)).symm
      case measure => show (x.extract 1 x.size).size < x.size; rw [HES.out]; omega
    have HD := Lib.hid hdone
    clear hdone
    rcases hwhy with ⟨e2, e1⟩ | ⟨e2, e1, hw⟩
    all_goals
      go_wp2_with (go_at_call 118; refine (white_any _ _).mono ?_; rintro e w' ⟨rfl, rfl⟩)
      go_loop [0] (fun v => ∃ y : ByteArray, v = .string y ∧ y.size ≤ s.size ∧ Lib.trimRightS y.data.toList [32, 9] = Lib.trimRightS (Lib.trimLeftS s.data.toList [32, 9]) [32, 9]) (fun v => strLen v)
      case atStart => exact ⟨x, rfl, hx, by rw [HD.out]⟩
      case round =>
        obtain ⟨y, rfl, hy, hr⟩ := hrel
        have HR := Lib.hid hr
        clear hr hx HL HD
        rcases ne_case y with ⟨y1, y2⟩ | ⟨y1, y2⟩
        · have hfin : y = ofL (trimW s.data.toList) := by
            have : y.data.toList = [] := List.eq_nil_of_length_eq_zero (by simpa using y2)
            rw [← trim_comm, ← HR.out, this]
            exact ba_eq this
          have HF := Lib.hid hfin
          clear hfin
          go_wp2_with fail
          go_ret
          exact ⟨by rw [← HF.out] <;> rfl, rfl⟩
        · have hz : y.size - 1 < y.size := by omega
          have hd := take_last y y2
          cases hv : whiteI (y[y.size - 1]'hz).toNat
          · have hfin : y = ofL (trimW s.data.toList) := by
              rw [← trim_comm, ← HR.out]
              have : Lib.trimRightS y.data.toList [32, 9] = y.data.toList := by
                rw [hd]; exact right_stop (by rw [← whiteI_B]; exact hv)
              rw [this]; rfl
            have HF := Lib.hid hfin
            clear hfin hd
            go_wp2_with (go_at_call 118; refine (white_any _ _).mono ?_; rintro e w' ⟨rfl, rfl⟩)
            go_ret
            exact ⟨by rw [← HF.out] <;> rfl, rfl⟩
          · have HD := Lib.hid hd
            have he : (y.extract 0 (y.size - 1)).data.toList = y.data.toList.take (y.size - 1) := by rw [Lib.extract_data]; rfl
            have hes : (y.extract 0 (y.size - 1)).size = y.size - 1 := by rw [size_list he, List.length_take]; simp
            have HE := Lib.hid he
            have HES := Lib.hid hes
            clear hd he hes
            go_wp2_with (go_at_call 118; refine (white_any _ _).mono ?_; rintro e w' ⟨rfl, rfl⟩)
            go_round
            case rel =>
              refine ⟨_, rfl, by rw [HES.out]; omega, ?_⟩
              rw [HE.out, ← HR.out]
              conv => rhs; rw [HD.out]
              exact (right_step (by rw [← whiteI_B]; exact hv)).symm
            case measure => show (y.extract 0 (y.size - 1)).size < y.size; rw [HES.out]; omega
end Go.Proofs.YtbpopmbabckojaaGreatDoor.Sp

/- The reference's Letter, Digit, in, Tchar, Token. -/
namespace Go.Proofs.YtbpopmbabckojaaGreatDoor.Sp
open Go.RowKit Sl

def letterI (c : Int) : Bool := decide ((97 ≤ c ∧ c ≤ 122) ∨ (65 ≤ c ∧ c ≤ 90))
def digitI (c : Int) : Bool := decide (48 ≤ c ∧ c ≤ 57)
def inS (c : Int) (l : List UInt8) : Bool := l.any fun x => decide ((x.toNat : Int) = c)
def markB : ByteArray := ⟨#[33, 35, 36, 37, 38, 39, 42, 43, 45, 46, 94, 95, 96, 124, 126]⟩
def rtchI (c : Int) : Bool := letterI c || digitI c || inS c markB.data.toList

theorem letter_any (c : Int) (w : World) : Calls Tryz.prog 59 #[.int .u8 c] w fun e w' => e = .returned (.bool (letterI c)) ∧ w = w' := by
  go_enter Tryz.func59, Tryz.ntmps59
  go_wp2
  all_goals go_ret
  all_goals exact ⟨ret_bool (by unfold letterI; (first | (with_reducible refine dec_t ?_; omega) | (with_reducible refine dec_f ?_; omega) | (with_reducible refine dec_d ?_; omega) | (with_reducible refine dec_e ?_; omega) | (with_reducible refine dec_n ?_; omega) | (with_reducible refine dec_nd ?_; omega))), rfl⟩
theorem r1digit_any (c : Int) (w : World) : Calls Tryz.prog 60 #[.int .u8 c] w fun e w' => e = .returned (.bool (digitI c)) ∧ w = w' := by
  go_enter Tryz.func60, Tryz.ntmps60
  go_wp2
  all_goals go_ret
  all_goals exact ⟨ret_bool (by unfold digitI; (first | (with_reducible refine dec_t ?_; omega) | (with_reducible refine dec_f ?_; omega) | (with_reducible refine dec_d ?_; omega) | (with_reducible refine dec_e ?_; omega) | (with_reducible refine dec_n ?_; omega) | (with_reducible refine dec_nd ?_; omega))), rfl⟩

theorem inS_take (c : Int) (s : ByteArray) (k : Nat) (h : k < s.size) : inS c (s.data.toList.take (k + 1)) = (inS c (s.data.toList.take k) || decide ((s[k].toNat : Int) = c)) := by
  unfold inS
  rw [List.take_succ_eq_append_getElem (by simpa using h), List.any_append]
  simp only [List.any_cons, List.any_nil, Bool.or_false]
  rfl
theorem inS_yes (c : Int) (s : ByteArray) (k : Nat) (h : k < s.size) (hc : (s[k].toNat : Int) = c) : inS c s.data.toList = true := by
  unfold inS
  rw [List.any_eq_true]
  exact ⟨s[k], by rw [show s[k] = s.data.toList[k]'(by simpa using h) from rfl]; exact List.getElem_mem _, by simp [hc]⟩

set_option maxHeartbeats 1000000 in
theorem in_any (c : Int) (s : ByteArray) (hs : s.size ≤ 9223372036854775807) (w : World) : Calls Tryz.prog 61 #[.int .u8 c, .string s] w fun e w' => e = .returned (.bool (inS c s.data.toList)) ∧ w = w' := by
  go_enter Tryz.func61, Tryz.ntmps61
  go_wp2_with fail
  go_loop [5] (fun n => ∃ k : Nat, k ≤ s.size ∧ n = .int .i64 k ∧ inS c (s.data.toList.take k) = false) (fun n => s.size - (intOf n).toNat)
  case atStart => exact ⟨0, Nat.zero_le _, rfl, rfl⟩
  case round =>
    obtain ⟨k, hk, rfl, hall⟩ := hrel
    have HA := Lib.hid hall
    clear hall
    by_cases hlt : k < s.size
    · have HY := hide (inS_yes c s k hlt)
      have HT := hide (inS_take c s k hlt)
      by_cases hc : (s[k].toNat : Int) = c
      · have hb : ((s[k].toNat : Int) == c) = true := by simp [hc]
        have HC := Lib.hid hc
        clear hc
        go_wp2
        go_ret
        exact ⟨ret_bool (by rw [unhide HY HC.out]), rfl⟩
      · have hb : ((s[k].toNat : Int) == c) = false := by simp [hc]
        have HC := Lib.hid hc
        clear hc
        go_wp2
        go_round
        case rel => exact ⟨k + 1, by omega, by go_num, by rw [unhide HT, HA.out, decide_eq_false HC.out]; rfl⟩
        case measure => simp [intOf]; omega
    · have hke : k = s.size := by omega
      subst hke
      go_wp2
      go_ret
      refine ⟨ret_bool ?_, rfl⟩
      have := HA.out
      rw [List.take_of_length_le (by simp)] at this
      exact this.symm

set_option maxHeartbeats 1000000 in
theorem rtchar_any (c : Int) (w : World) : Calls Tryz.prog 37 #[.int .u8 c] w fun e w' => e = .returned (.bool (rtchI c)) ∧ w = w' := by
  unfold rtchI
  obtain ⟨a, ha⟩ : ∃ a, letterI c = a := ⟨_, rfl⟩
  obtain ⟨b, hb⟩ : ∃ b, digitI c = b := ⟨_, rfl⟩
  obtain ⟨d, hd⟩ : ∃ d, inS c markB.data.toList = d := ⟨_, rfl⟩
  have h1 := hide (letter_any c)
  have h2 := hide (r1digit_any c)
  have h3 := hide (in_any c markB (by decide))
  rw [ha] at h1 ⊢
  rw [hb] at h2 ⊢
  rw [hd] at h3 ⊢
  clear ha hb hd
  unfold markB at h3
  cases a <;> cases b
  all_goals
    go_enter Tryz.func37, Tryz.ntmps37
    go_wp2_with (first
      | (go_at_call 59; refine (unhide h1 _).mono ?_; rintro e w1 ⟨rfl, rfl⟩)
      | (go_at_call 60; refine (unhide h2 _).mono ?_; rintro e w1 ⟨rfl, rfl⟩)
      | (go_at_call 61; refine (unhide h3 _).mono ?_; rintro e w1 ⟨rfl, rfl⟩))
    go_ret
    exact ⟨rfl, rfl⟩
theorem rtchI_B (c : UInt8) : rtchI c.toNat = tch c := by
  have := byte_all (fun c => rtchI c.toNat == tch c) (by decide +kernel) c
  simpa using this

set_option maxHeartbeats 1000000 in
theorem rtoken_any (s : ByteArray) (hs : s.size ≤ 9223372036854775807) (w : World) :
    Calls Tryz.prog 10 #[.string s] w fun e w' => e = .returned (.bool (tokenS s.data.toList)) ∧ w = w' := by
  go_enter Tryz.func10, Tryz.ntmps10
  go_wp2_with fail
  go_loop [3] (fun n => ∃ k : Nat, k ≤ s.size ∧ n = .int .i64 k ∧ (s.data.toList.take k).all tch = true) (fun n => s.size - (intOf n).toNat)
  case atStart => exact ⟨0, Nat.zero_le _, rfl, rfl⟩
  case round =>
    obtain ⟨k, hk, rfl, hall⟩ := hrel
    have HA := Lib.hid hall
    clear hall
    by_cases hlt : k < s.size
    · have hN := Lib.hid (all_no (q := tch) s k hlt)
      have hT := Lib.hid (all_take (q := tch) s k hlt)
      have hc := hide (rtchar_any s[k].toNat)
      rw [rtchI_B] at hc
      have hne : s.data.toList ≠ [] := by
        intro e
        have h8 : s.data.toList.length = 0 := by rw [e]; rfl
        have h9 : s.data.toList.length = s.size := by simp
        omega
      have HNE := Lib.hid hne
      clear hne
      cases hq : tch s[k]
      · rw [hq] at hc
        have HQ := Lib.hid hq
        clear hq
        go_wp2_with (go_at_call 37; refine (unhide hc _).mono ?_; rintro e w1 ⟨rfl, rfl⟩)
        go_ret
        exact ⟨ret_bool (by unfold tokenS allS; rw [hN.out HQ.out, Bool.and_false]), rfl⟩
      · rw [hq] at hc
        have HQ := Lib.hid hq
        clear hq
        go_wp2_with (go_at_call 37; refine (unhide hc _).mono ?_; rintro e w1 ⟨rfl, rfl⟩)
        go_round
        case rel => exact ⟨k + 1, by omega, by go_num, by rw [hT.out, HA.out, HQ.out]; rfl⟩
        case measure => simp [intOf]; omega
    · have hke : k = s.size := by omega
      subst hke
      have hall := HA.out
      rw [List.take_of_length_le (by simp)] at hall
      have hfin : tokenS s.data.toList = !(s.toList.isEmpty) := by
        unfold tokenS allS
        rw [hall, Bool.and_true, Lib.toList_data]
      have HF := Lib.hid hfin
      clear hall hfin HA
      rcases ne_case s with ⟨e1, e2⟩ | ⟨e1, e2⟩
      all_goals
        go_wp2_with fail
        go_ret
        refine ⟨ret_bool ?_, rfl⟩
        rw [HF.out]
        first | (rw [e1]; rfl) | simp [e1] | (rw [e1])
end Go.Proofs.YtbpopmbabckojaaGreatDoor.Sp

/- The reference's cut, seen, version. -/
namespace Go.Proofs.YtbpopmbabckojaaGreatDoor.Sp
open Go.RowKit Sl

theorem cut_step {c : UInt8} {l : List UInt8} {k : Nat} (h : k < l.length) (hc : l[k] ≠ c) (hk : cutS c l = (l.take k ++ (cutS c (l.drop k)).1, (cutS c (l.drop k)).2.1, (cutS c (l.drop k)).2.2)) :
    cutS c l = (l.take (k + 1) ++ (cutS c (l.drop (k + 1))).1, (cutS c (l.drop (k + 1))).2.1, (cutS c (l.drop (k + 1))).2.2) := by
  have hd : l.drop k = l[k] :: l.drop (k + 1) := List.drop_eq_getElem_cons h
  have e : cutS c (l.drop k) = (l[k] :: (cutS c (l.drop (k + 1))).1, (cutS c (l.drop (k + 1))).2.1, (cutS c (l.drop (k + 1))).2.2) := by
    rw [hd]
    conv => lhs; unfold cutS
    rw [if_neg hc]
  rw [hk, e, List.take_succ_eq_append_getElem h, List.append_assoc]
  rfl
theorem cut_found {c : UInt8} {l : List UInt8} {k : Nat} (h : k < l.length) (hc : l[k] = c) (hk : cutS c l = (l.take k ++ (cutS c (l.drop k)).1, (cutS c (l.drop k)).2.1, (cutS c (l.drop k)).2.2)) :
    cutS c l = (l.take k, l.drop (k + 1), true) := by
  have hd : l.drop k = l[k] :: l.drop (k + 1) := List.drop_eq_getElem_cons h
  have e : cutS c (l.drop k) = ([], l.drop (k + 1), true) := by
    rw [hd]
    conv => lhs; unfold cutS
    rw [if_pos hc]
  rw [hk, e]
  simp
theorem cut_over {c : UInt8} {l : List UInt8} {k : Nat} (h : l.length ≤ k) (hk : cutS c l = (l.take k ++ (cutS c (l.drop k)).1, (cutS c (l.drop k)).2.1, (cutS c (l.drop k)).2.2)) : cutS c l = (l, [], false) := by
  rw [hk, List.drop_eq_nil_of_le h, List.take_of_length_le h]
  show (l ++ [], [], false) = _
  rw [List.append_nil]

set_option maxRecDepth 100000 in
set_option maxHeartbeats 2000000 in
theorem rcut_any (s x y : ByteArray) (b : Bool) (hx : x.data.toList = (cutS 32 s.data.toList).1) (hy : y.data.toList = (cutS 32 s.data.toList).2.1) (hb : b = (cutS 32 s.data.toList).2.2) (hs : s.size ≤ 9223372036854775806) (w : World) :
    Calls Tryz.prog 124 #[.string s] w fun e w' => e = .returned (.tuple #[.string x, .string y, .bool b]) ∧ Below w.heap.size w w' := by
  have hl : s.data.toList.length = s.size := by simp
  have HL := Lib.hid hl
  have HX := Lib.hid hx
  have HY := Lib.hid hy
  have HB := Lib.hid hb
  clear hl hx hy hb
  go_enter Tryz.func124, Tryz.ntmps124
  go_wp2_with fail
  go_loop [5] (fun n => ∃ k : Nat, k ≤ s.size ∧ n = .int .i64 k ∧ cutS 32 s.data.toList = (s.data.toList.take k ++ (cutS 32 (s.data.toList.drop k)).1, (cutS 32 (s.data.toList.drop k)).2.1, (cutS 32 (s.data.toList.drop k)).2.2)) (fun n => s.size - (intOf n).toNat)
  case atStart => exact ⟨0, Nat.zero_le _, rfl, by simp⟩
  case round =>
    obtain ⟨k, hk, rfl, hc⟩ := hrel
    have HC := Lib.hid hc
    clear hc
    rcases Nat.lt_or_ge k s.size with hlt | hge
    · have hlt' : k < s.data.toList.length := by rw [HL.out]; exact hlt
      have hkb : decide ((k : Int) < (s.size : Int)) = true := by rw [decide_eq_true_iff]; omega
      by_cases h32 : (s[k].toNat : Int) = 32
      · have hf := cut_found hlt' (c := 32) (u8_eq h32) HC.out
        have b32 : ((s[k].toNat : Int) == 32) = true := by rw [beq_iff_eq]; exact h32
        have ex : s.extract 0 k = x := by
          have h : x.data.toList = s.data.toList.take k := by rw [HX.out, hf]
          rw [ba_eq h]
          exact ba_eq (by rw [Lib.extract_data]; rfl)
        have ey : s.extract (k + 1) s.size = y := by
          have h : y.data.toList = s.data.toList.drop (k + 1) := by rw [HY.out, hf]
          rw [ba_eq h]
          exact ba_eq (by rw [Lib.extract_to_end])
        have eb : b = true := by rw [HB.out, hf]
        subst eb
        clear hf h32 HX HY HB
        go_upto_region 5 with fail
        refine Reg.region_more (by kernel_rfl) (by kernel_rfl) ?_
        repeat (go_big_quiet_step (fail))
        refine wpQuiet_nil ?_
        intro w9 hb9; obtain ⟨hc9, hf9, hz9⟩ := bcell hb9; (try simp at hz9)
        have HB9 := hide hb9
        clear hb9 hc9 hf9
        go_wp2_with fail
        refine bodyPost_ret (by simp [results, Tryz.results124, go_sem, *] <;> rfl) rfl ?_
        exact ⟨rfl, unhide HB9⟩
      · have hf := Lib.hid (cut_step hlt' (c := 32) (u8_ne (by decide) h32) HC.out)
        have b32 : ((s[k].toNat : Int) == 32) = false := by rw [beq_eq_false_iff_ne]; exact h32
        clear h32
        go_wp2_with fail
        go_round
        case rel => exact ⟨k + 1, by omega, by go_num, hf.out⟩
        case measure => simp [intOf]; omega
    · have hkb : decide ((k : Int) < (s.size : Int)) = false := by rw [decide_eq_false_iff_not]; omega
      have hf := cut_over (by rw [HL.out]; exact hge) HC.out
      have ex : x = s := by
        have h : x.data.toList = s.data.toList := by rw [HX.out, hf]
        rw [ba_eq h]
      have ey : y = ⟨#[]⟩ := by
        have h : y.data.toList = [] := by rw [HY.out, hf]
        rw [ba_eq h]
      have eb : b = false := by rw [HB.out, hf]
      subst ex ey eb
      clear hf HX HY HB
      go_wp2_with fail
      refine bodyPost_ret (by simp [results, Tryz.results124, go_sem, *] <;> rfl) rfl ?_
      exact ⟨rfl, Below.refl _ _⟩

set_option maxHeartbeats 1000000 in
theorem rseen_any (s : ByteArray) (hs : s.size ≤ 9223372036854775806) (w : World) :
    Calls Tryz.prog 96 #[.string s] w fun e w' => e = .returned (.bool (seenS s.data.toList)) ∧ w = w' := by
  go_enter Tryz.func96, Tryz.ntmps96
  go_wp2_with fail
  go_loop [3] (fun n => ∃ k : Nat, k ≤ s.size ∧ n = .int .i64 k ∧ (s.data.toList.take k).all seenB = true) (fun n => s.size - (intOf n).toNat)
  case atStart => exact ⟨0, Nat.zero_le _, rfl, rfl⟩
  case round =>
    obtain ⟨k, hk, rfl, hall⟩ := hrel
    have HA := Lib.hid hall
    clear hall
    by_cases hlt : k < s.size
    · have hN := Lib.hid (all_no (q := seenB) s k hlt)
      have hT := Lib.hid (all_take (q := seenB) s k hlt)
      have hne : s.data.toList ≠ [] := by
        intro e
        have h8 : s.data.toList.length = 0 := by rw [e]; rfl
        have h9 : s.data.toList.length = s.size := by simp
        omega
      have HNE := Lib.hid hne
      clear hne
      by_cases hq : 33 ≤ s[k].toNat ∧ s[k].toNat ≤ 126
      · have HQ := Lib.hid (seen_t hq)
        have b1 : decide ((s[k].toNat : Int) < 33) = false := decide_eq_false (by omega)
        have b2 : decide ((126 : Int) < (s[k].toNat : Int)) = false := decide_eq_false (by omega)
        clear hq
        go_wp2_with fail
        go_round
        case rel => exact ⟨k + 1, by omega, by go_num, by rw [hT.out, HA.out, HQ.out]; rfl⟩
        case measure => simp [intOf]; omega
      · have HQ := Lib.hid (seen_f hq)
        have hb : decide ((s[k].toNat : Int) < 33) = true ∨ (decide ((s[k].toNat : Int) < 33) = false ∧ decide ((126 : Int) < (s[k].toNat : Int)) = true) := by
          by_cases h : s[k].toNat < 33
          · exact .inl (decide_eq_true (by omega))
          · exact .inr ⟨decide_eq_false (by omega), decide_eq_true (by omega)⟩
        clear hq
        rcases hb with b1 | ⟨b1, b2⟩
        all_goals
          go_wp2_with fail
          go_ret
          exact ⟨ret_bool (by rw [seenS_of _ HNE.out, hN.out HQ.out]), rfl⟩
    · have hke : k = s.size := by omega
      subst hke
      have hall := HA.out
      rw [List.take_of_length_le (by simp)] at hall
      have hfin : seenS s.data.toList = !(s.toList.isEmpty) := by
        unfold seenS
        rw [hall, Bool.and_true, Lib.toList_data]
      have HF := Lib.hid hfin
      clear hall hfin HA
      rcases ne_case s with ⟨e1, e2⟩ | ⟨e1, e2⟩
      all_goals
        go_wp2_with fail
        go_ret
        refine ⟨ret_bool ?_, rfl⟩
        rw [HF.out]
        first | (rw [e1]; rfl) | simp [e1] | (rw [e1])

theorem prefix_five (s : ByteArray) (h : 5 ≤ s.size) : Lib.hasPrefix s.data.toList verP = ((s.extract 0 5).toList == [72, 84, 84, 80, 47]) := by
  have e : (s.extract 0 5).data.toList = s.data.toList.take 5 := by rw [Lib.extract_data]; rfl
  rw [Lib.toList_data, e]
  unfold Lib.hasPrefix
  rw [Bool.eq_iff_iff, List.isPrefixOf_iff_prefix, beq_iff_eq]
  constructor
  · rintro ⟨t, ht⟩
    rw [← ht]; rfl
  · intro ht
    refine ⟨s.data.toList.drop 5, ?_⟩
    show verP ++ _ = _
    have : verP = s.data.toList.take 5 := ht.symm
    rw [this, List.take_append_drop]
set_option maxHeartbeats 2000000 in
theorem rver_any (s : ByteArray) (hs : s.size ≤ 9223372036854775806) (w : World) :
    Calls Tryz.prog 125 #[.string s] w fun e w' => e = .returned (.tuple #[.int .i64 (ver s.data.toList).1, .int .i64 (ver s.data.toList).2]) ∧ w = w' := by
  have hl : s.data.toList.length = s.size := by simp
  by_cases h8 : s.size = 8
  rotate_left
  · have hv : ver s.data.toList = (0, 400) := by
      unfold ver
      rw [if_neg]
      rintro ⟨h1, h2⟩
      rw [List.length_drop] at h2
      omega
    have HV := Lib.hid hv
    have hb : ((s.size : Int) != 8) = true := by rw [bne_iff_ne]; omega
    clear hv hl h8
    go_enter Tryz.func125, Tryz.ntmps125
    go_wp2_with fail
    go_ret2
    exact ⟨by rw [HV.out]; rfl, rfl⟩
  have hb : ((s.size : Int) != 8) = false := by rw [h8]; rfl
  have k5 : 5 < s.size := by omega
  have k6 : 6 < s.size := by omega
  have k7 : 7 < s.size := by omega
  have hp := prefix_five s (by omega)
  obtain ⟨P, hP⟩ : ∃ P, s.extract 0 5 = P := ⟨_, rfl⟩
  rw [hP] at hp
  cases hpf : Lib.hasPrefix s.data.toList verP
  · have hv : ver s.data.toList = (0, 400) := by unfold ver; rw [if_neg (by rw [hpf]; simp)]
    have HV := Lib.hid hv
    rw [hpf] at hp
    have hpb := hp.symm
    clear hv hl hpf hp h8
    go_enter Tryz.func125, Tryz.ntmps125
    go_wp2_with fail
    go_ret2
    exact ⟨by rw [HV.out]; rfl, rfl⟩
  have hv : ver s.data.toList = verC (s[5]'k5) (s[6]'k6) (s[7]'k7) := by
    unfold ver
    rw [if_pos ⟨hpf, by rw [List.length_drop]; omega⟩]
    have g : ∀ (i : Nat) (h : i < s.size), s.data.toList.getD i 0 = s[i]'h := fun i h => by
      rw [List.getD, List.getElem?_eq_getElem (by rw [hl]; exact h)]; rfl
    rw [g 5 k5, g 6 k6, g 7 k7]
  have HV := Lib.hid hv
  rw [hpf] at hp
  have hpb := hp.symm
  clear hv hl hpf hp h8
  have c5 := hide (fun w => r1digit_any (s[5]'k5).toNat w)
  have c7 := hide (fun w => r1digit_any (s[7]'k7).toNat w)
  have hdd : ∀ c : Int, digitI c = digI c := fun _ => rfl
  rw [hdd] at c5 c7
  obtain ⟨a, ha⟩ : ∃ a, s[5]'k5 = a := ⟨_, rfl⟩
  obtain ⟨b, hbb⟩ : ∃ b, s[6]'k6 = b := ⟨_, rfl⟩
  obtain ⟨c, hc⟩ : ∃ c, s[7]'k7 = c := ⟨_, rfl⟩
  rw [ha] at c5 HV
  rw [hbb] at HV
  rw [hc] at c7 HV
  cases h5d : digI a.toNat
  · have HB := Lib.hid (verC_bad (a := a) (b := b) (c := c) (by rintro ⟨h, _⟩; rw [h5d] at h; cases h))
    rw [h5d] at c5
    clear h5d
    go_enter Tryz.func125, Tryz.ntmps125
    go_wp2_with (go_at_call 60; refine (unhide c5 _).mono ?_; rintro e w' ⟨rfl, rfl⟩)
    go_ret2
    exact ⟨by rw [HV.out, HB.out]; rfl, rfl⟩
  by_cases h46 : (b.toNat : Int) = 46
  rotate_left
  · have HB := Lib.hid (verC_bad (a := a) (b := b) (c := c) (by rintro ⟨_, h, _⟩; exact h46 (by omega)))
    have b46 : ((b.toNat : Int) != 46) = true := by rw [bne_iff_ne]; exact h46
    rw [h5d] at c5
    clear h5d h46
    go_enter Tryz.func125, Tryz.ntmps125
    go_wp2_with (go_at_call 60; refine (unhide c5 _).mono ?_; rintro e w' ⟨rfl, rfl⟩)
    go_ret2
    exact ⟨by rw [HV.out, HB.out]; rfl, rfl⟩
  have b46 : ((b.toNat : Int) != 46) = false := by rw [h46]; rfl
  cases h7d : digI c.toNat
  · have HB := Lib.hid (verC_bad (a := a) (b := b) (c := c) (by rintro ⟨_, _, h⟩; rw [h7d] at h; cases h))
    rw [h5d] at c5
    rw [h7d] at c7
    clear h5d h46 h7d
    go_enter Tryz.func125, Tryz.ntmps125
    go_wp2_with fail
    refine (unhide c5 _).mono ?_; rintro e w' ⟨rfl, rfl⟩
    go_wp2_with fail
    refine (unhide c7 _).mono ?_; rintro e w' ⟨rfl, rfl⟩
    go_wp2_with fail
    go_ret2
    exact ⟨by rw [HV.out, HB.out]; rfl, rfl⟩
  have hok : digI a.toNat = true ∧ b.toNat = 46 ∧ digI c.toNat = true := ⟨h5d, by omega, h7d⟩
  have hcd := digI_t h7d
  rw [h5d] at c5
  rw [h7d] at c7
  by_cases ho : a.toNat ≠ 49 ∨ 49 < c.toNat
  · have HB := Lib.hid (verC_other hok ho)
    have hbs : ((a.toNat : Int) != 49) = true ∨ (((a.toNat : Int) != 49) = false ∧ decide ((49 : Int) < (c.toNat : Int)) = true) := by
      by_cases h : a.toNat = 49
      · exact .inr ⟨by rw [h]; rfl, decide_eq_true (by omega)⟩
      · exact .inl (by rw [bne_iff_ne]; omega)
    clear h5d h46 h7d hok ho
    rcases hbs with g1 | ⟨g1, g2⟩
    all_goals
      go_enter Tryz.func125, Tryz.ntmps125
      go_wp2_with fail
      refine (unhide c5 _).mono ?_; rintro e w' ⟨rfl, rfl⟩
      go_wp2_with fail
      refine (unhide c7 _).mono ?_; rintro e w' ⟨rfl, rfl⟩
      go_wp2_with fail
      go_ret2
      exact ⟨by rw [HV.out, HB.out]; rfl, rfl⟩
  · have HB := Lib.hid (verC_ok hok ho)
    have g1 : ((a.toNat : Int) != 49) = false := by rw [bne_eq_false_iff_eq]; omega
    have g2 : decide ((49 : Int) < (c.toNat : Int)) = false := decide_eq_false (by omega)
    have hu : IntKind.u8.wrap ((c.toNat : Int) - 48) = (c.toNat : Int) - 48 := by rw [IntKind.wrap_u8]; omega
    clear h5d h46 h7d hok ho
    go_enter Tryz.func125, Tryz.ntmps125
    go_wp2_with fail
    refine (unhide c5 _).mono ?_; rintro e w' ⟨rfl, rfl⟩
    go_wp2_with fail
    refine (unhide c7 _).mono ?_; rintro e w' ⟨rfl, rfl⟩
    go_wp2_with fail
    go_ret2
    exact ⟨by rw [HV.out, HB.out]; rfl, rfl⟩
end Go.Proofs.YtbpopmbabckojaaGreatDoor.Sp

/- The reference's Char, Chars. -/
namespace Go.Proofs.YtbpopmbabckojaaGreatDoor.Sp
open Go.RowKit

def charI (c : Int) : Bool := decide (c = 9 ∨ (32 ≤ c ∧ c ≤ 126) ∨ 128 ≤ c)
theorem charI_B (c : UInt8) : charI c.toNat = chr c := by
  have := byte_all (fun c => charI c.toNat == chr c) (by decide +kernel) c
  simpa using this
theorem char_any (c : Int) (w : World) : Calls Tryz.prog 117 #[.int .u8 c] w fun e w' => e = .returned (.bool (charI c)) ∧ w = w' := by
  go_enter Tryz.func117, Tryz.ntmps117
  by_cases h9 : c = 9
  · have hb : (c == 9) = true := by simp [h9]
    have H := Lib.hid h9
    clear h9
    go_wp2
    all_goals go_ret
    all_goals exact ⟨ret_bool (by unfold charI; rw [decide_eq_true (Or.inl H.out)]), rfl⟩
  · have hb : (c == 9) = false := by simp [h9]
    have H := Lib.hid h9
    clear h9
    go_wp2
    all_goals go_ret
    all_goals exact ⟨ret_bool (by unfold charI; have := H.out; (first | (with_reducible refine dec_t ?_; omega) | (with_reducible refine dec_f ?_; omega) | (with_reducible refine dec_d ?_; omega) | (with_reducible refine dec_e ?_; omega) | (with_reducible refine dec_n ?_; omega) | (with_reducible refine dec_nd ?_; omega))), rfl⟩

set_option maxHeartbeats 1000000 in
theorem chars_any (s : ByteArray) (hs : s.size ≤ 9223372036854775807) (w : World) :
    Calls Tryz.prog 97 #[.string s] w fun e w' => e = .returned (.bool (allS chr s.data.toList)) ∧ w = w' := by
  go_enter Tryz.func97, Tryz.ntmps97
  go_wp2_with fail
  go_loop [3] (fun n => ∃ k : Nat, k ≤ s.size ∧ n = .int .i64 k ∧ (s.data.toList.take k).all chr = true) (fun n => s.size - (intOf n).toNat)
  case atStart => exact ⟨0, Nat.zero_le _, rfl, rfl⟩
  case round =>
    obtain ⟨k, hk, rfl, hall⟩ := hrel
    have HA := Lib.hid hall
    clear hall
    by_cases hlt : k < s.size
    · have hN := Lib.hid (all_no (q := chr) s k hlt)
      have hT := Lib.hid (all_take (q := chr) s k hlt)
      have hc := hide (char_any s[k].toNat)
      rw [charI_B] at hc
      cases hq : chr s[k]
      · rw [hq] at hc
        have HQ := Lib.hid hq
        clear hq
        go_wp2_with (go_at_call 117; refine (unhide hc _).mono ?_; rintro e w1 ⟨rfl, rfl⟩)
        go_ret
        exact ⟨ret_bool (by unfold allS; rw [hN.out HQ.out]), rfl⟩
      · rw [hq] at hc
        have HQ := Lib.hid hq
        clear hq
        go_wp2_with (go_at_call 117; refine (unhide hc _).mono ?_; rintro e w1 ⟨rfl, rfl⟩)
        go_round
        case rel => exact ⟨k + 1, by omega, by go_num, by rw [hT.out, HA.out, HQ.out]; rfl⟩
        case measure => simp [intOf]; omega
    · have hke : k = s.size := by omega
      subst hke
      have hall := HA.out
      rw [List.take_of_length_le (by simp)] at hall
      have HF := Lib.hid hall
      clear hall
      go_wp2
      go_ret
      exact ⟨ret_bool (by unfold allS; rw [HF.out]), rfl⟩

end Go.Proofs.YtbpopmbabckojaaGreatDoor.Sp

/- The reference's Number of few digits, Request, Status. -/
namespace Go.Proofs.YtbpopmbabckojaaGreatDoor.Sp
open Go.RowKit Sl

theorem digitI_B (c : UInt8) : digitI c.toNat = digB c := by
  have := byte_all (fun c => digitI c.toNat == digB c) (by decide +kernel) c
  simpa using this
theorem valN_take (s : ByteArray) (k : Nat) (h : k < s.size) : valN (s.data.toList.take (k + 1)) = valN (s.data.toList.take k) * 10 + (s[k].toNat - 48) := by
  unfold valN
  rw [List.take_succ_eq_append_getElem (by simpa using h), valF_app, valF_cons, valF_nil]
  rfl
theorem valF_lt : ∀ (l : List UInt8) (a : Nat), l.all digB = true → valF a l < (a + 1) * 10 ^ l.length
  | [], a, _ => by rw [valF_nil]; simp
  | c :: r, a, h => by
    rw [List.all_cons, Bool.and_eq_true] at h
    have hc := digB_t h.1
    have ih := valF_lt r (a * 10 + (c.toNat - 48)) h.2
    rw [valF_cons, List.length_cons, Nat.pow_succ, Nat.mul_comm (10 ^ r.length) 10, ← Nat.mul_assoc]
    refine Nat.lt_of_lt_of_le ih (Nat.mul_le_mul_right _ ?_)
    omega

set_option maxRecDepth 100000 in
set_option maxHeartbeats 2000000 in
theorem rnumber_any (s : ByteArray) (hs : s.size ≤ 14) (w : World) :
    Calls Tryz.prog 126 #[.string s] w fun e w' => e = .returned (.tuple #[.int .i64 (numS s.data.toList).1, .int .i64 (numS s.data.toList).2]) ∧ w = w' := by
  have hl : s.data.toList.length = s.size := by simp
  rcases empty_case s with ⟨he, he2⟩ | ⟨he, he2⟩
  · have hn := hide (numS_bad (l := s.data.toList) (by rw [he2]; rfl))
    clear he2 hl
    go_enter Tryz.func126, Tryz.ntmps126
    go_wp2_with fail
    go_ret2
    exact ⟨by rw [unhide hn] <;> rfl, rfl⟩
  · have HL := Lib.hid hl
    have HNE := Lib.hid he2
    clear hl he2
    go_enter Tryz.func126, Tryz.ntmps126
    go_wp2_with fail
    go_loop [4] (fun i => ∃ k : Nat, k ≤ s.size ∧ i = .int .i64 k ∧ (s.data.toList.take k).all digB = true) (fun i => s.size - (intOf i).toNat)
    case atStart => exact ⟨0, Nat.zero_le _, rfl, rfl⟩
    case round =>
      obtain ⟨k, hk, rfl, hall⟩ := hrel
      have HA := Lib.hid hall
      clear hall
      rcases Nat.lt_or_ge k s.size with hlt | hge
      · have hkb : decide ((k : Int) < (s.size : Int)) = true := by rw [decide_eq_true_iff]; omega
        have hN := Lib.hid (all_no (q := digB) s k hlt)
        have hT := Lib.hid (all_take (q := digB) s k hlt)
        have hc := hide (fun w => r1digit_any s[k].toNat w)
        rw [digitI_B] at hc
        cases hq : digB s[k]
        · rw [hq] at hc
          have hn := hide (numS_bad (l := s.data.toList) (by unfold digsS; rw [hN.out hq, Bool.and_false]))
          clear hq
          go_wp2_with (go_at_call 60; refine (unhide hc _).mono ?_; rintro e w1 ⟨rfl, rfl⟩)
          go_ret2
          exact ⟨by rw [unhide hn] <;> rfl, rfl⟩
        · rw [hq] at hc
          have HQ := Lib.hid hq
          clear hq
          go_wp2_with (go_at_call 60; refine (unhide hc _).mono ?_; rintro e w1 ⟨rfl, rfl⟩)
          go_round
          case rel => exact ⟨k + 1, by omega, by go_num, by rw [hT.out, HA.out, HQ.out]; rfl⟩
          case measure => simp [intOf]; omega
      · have hkb : decide ((k : Int) < (s.size : Int)) = false := by rw [decide_eq_false_iff_not]; omega
        have hall : s.data.toList.all digB = true := by
          have := HA.out
          rw [List.take_of_length_le (by rw [HL.out]; exact hge)] at this
          exact this
        have hdig : digsS s.data.toList = true := by
          unfold digsS
          rw [hall, Bool.and_true]
          cases hh : s.data.toList with
          | nil => exact absurd hh HNE.out
          | cons c t => rfl
        have HALL := Lib.hid hall
        have HDIG := Lib.hid hdig
        clear hall hdig HA
        go_wp2_with fail
        go_loop [5, 6] (fun n i => ∃ k : Nat, k ≤ s.size ∧ i = .int .i64 k ∧ n = .int .i64 (valN (s.data.toList.take k) : Nat)) (fun _ i => s.size - (intOf i).toNat)
        case atStart => exact ⟨0, Nat.zero_le _, rfl, by rw [List.take_zero]; unfold valN; rw [valF_nil]; rfl⟩
        case round =>
          obtain ⟨k, hk, rfl, rfl⟩ := hrel
          have hvl : valN (s.data.toList.take k) < 100000000000000 := by
            have h := valF_lt (s.data.toList.take k) 0 (by
              rw [List.all_eq_true]
              intro c hc
              exact List.all_eq_true.1 HALL.out c (List.mem_of_mem_take hc))
            have h2 : (s.data.toList.take k).length ≤ 14 := by rw [List.length_take, HL.out]; omega
            have h3 : 10 ^ (s.data.toList.take k).length ≤ 10 ^ 14 := Nat.pow_le_pow_right (by decide) h2
            unfold valN
            omega
          rcases Nat.lt_or_ge k s.size with hlt | hge
          · have hkb : decide ((k : Int) < (s.size : Int)) = true := by rw [decide_eq_true_iff]; omega
            have hd := digB_t (List.all_eq_true.1 HALL.out s[k] (by rw [show s[k] = s.data.toList[k]'(by simpa using hlt) from rfl]; exact List.getElem_mem _))
            have hstep := valN_take s k hlt
            obtain ⟨D, hD⟩ : ∃ D, s[k].toNat - 48 = D := ⟨_, rfl⟩
            rw [hD] at hstep
            have hD9 : D ≤ 9 := by omega
            have hu : IntKind.u8.wrap ((s[k].toNat : Int) - 48) = (D : Int) := by rw [IntKind.wrap_u8]; omega
            have hu2 : (s[k].toNat : Int) - 48 = (D : Int) := by omega
            obtain ⟨N', hN'⟩ : ∃ N', valN (s.data.toList.take (k + 1)) = N' := ⟨_, rfl⟩
            obtain ⟨N, hN⟩ : ∃ N, valN (s.data.toList.take k) = N := ⟨_, rfl⟩
            rw [hN', hN] at hstep
            rw [hN] at hvl ⊢
            have hsum : 10 * (N : Int) + (D : Int) = (N' : Int) := by omega
            obtain ⟨M, hM⟩ : ∃ M : Nat, (9007199254740991 : Int) - (D : Int) = (M : Int) := ⟨9007199254740991 - D, by omega⟩
            obtain ⟨Q, hQ⟩ : ∃ Q : Nat, M / 10 = Q := ⟨_, rfl⟩
            have hq : Int.tdiv (M : Int) 10 = (Q : Int) := by rw [Int.tdiv_eq_ediv_of_nonneg (by omega)]; omega
            have hQb : Q ≤ 1000000000000000 := by omega
            have hQN : N ≤ Q := by omega
            have hqb : decide ((Q : Int) < (N : Int)) = false := decide_eq_false (by omega)
            have HN' := Lib.hid hN'
            clear hd hstep hD hN hN' hQ
            go_wp2_with fail
            go_round
            case rel => exact ⟨k + 1, by omega, by go_num, by rw [HN'.out]⟩
            case measure => simp [intOf]; omega
          · have hkb : decide ((k : Int) < (s.size : Int)) = false := by rw [decide_eq_false_iff_not]; omega
            have htk : s.data.toList.take k = s.data.toList := List.take_of_length_le (by rw [HL.out]; exact hge)
            rw [htk] at hvl ⊢
            have hn := hide (numS_ok HDIG.out (by omega))
            clear htk
            go_wp2_with fail
            go_ret2
            exact ⟨by rw [unhide hn] <;> rfl, rfl⟩

theorem ver_zero {l : List UInt8} (h : (ver l).2 ≠ 0) : (ver l).1 = 0 := by
  unfold ver at h ⊢
  split
  · rename_i hp
    rw [if_pos hp] at h
    unfold verC at h ⊢
    split
    · rename_i h1
      rw [if_pos h1] at h
      split
      · rfl
      · rename_i h2
        rw [if_neg h2] at h
        exact absurd rfl h
    · rfl
  · rfl

set_option maxRecDepth 100000 in
set_option maxHeartbeats 2000000 in
theorem rrequest_any (s : ByteArray) (hs : s.size ≤ 1000000) (w : World) :
    Calls Tryz.prog 105 #[.string s] w (ReqPost s w) := by
  obtain ⟨m, hm⟩ := of_list (cutS 32 s.data.toList).1
  obtain ⟨r, hr⟩ := of_list (cutS 32 s.data.toList).2.1
  obtain ⟨t, ht⟩ := of_list (cutS 32 r.data.toList).1
  obtain ⟨v, hv⟩ := of_list (cutS 32 r.data.toList).2.1
  have hl := cutS_len 32 s.data.toList
  have hl2 := cutS_len 32 r.data.toList
  have sm := size_list hm
  have sr := size_list hr
  have st := size_list ht
  have sv := size_list hv
  have zs : s.data.toList.length = s.size := by simp
  have zr : r.data.toList.length = r.size := by simp
  have hrs : r.size ≤ 1000000 := by omega
  have hms : m.size ≤ 1000000 := by omega
  have hts : t.size ≤ 1000000 := by omega
  have hvs : v.size ≤ 1000000 := by omega
  clear sm sr st sv zs zr hl hl2
  obtain ⟨ok, hok⟩ : ∃ b, b = (cutS 32 s.data.toList).2.2 := ⟨_, rfl⟩
  obtain ⟨is, his⟩ : ∃ b, b = (cutS 32 r.data.toList).2.2 := ⟨_, rfl⟩
  have hO : reqOK s.data.toList = (ok && is && tokenS m.data.toList && seenS t.data.toList) := by
    unfold reqOK; rw [← hr, ← hm, ← ht, ← hok, ← his]
  have hV : reqV s.data.toList = ver v.data.toList := by unfold reqV; rw [← hr, ← hv]
  have c1 := hide (fun w => rcut_any s m r ok hm hr hok (by omega) w)
  have c2 := hide (fun w => rcut_any r t v is ht hv his (by omega) w)
  have c3 := hide (fun w => rtoken_any m (by omega) w)
  have c4 := hide (fun w => rseen_any t (by omega) w)
  have c5 := hide (fun w => rver_any v (by omega) w)
  have HO := Lib.hid hO
  have HV := Lib.hid hV
  have E1 := Lib.hid hm
  have E2 : Hid (t.data.toList = (cutS 32 (cutS 32 s.data.toList).2.1).1) := Lib.hid (by rw [ht, hr])
  clear hO hV hm hr ht hv hok his
  go_enter Tryz.func105, Tryz.ntmps105
  go_wp2_with fail
  refine (unhide c1 _).mono ?_; rintro e w1 ⟨rfl, hb1⟩
  go_wp2_with fail
  refine (unhide c2 _).mono ?_; rintro e w2 ⟨rfl, hb2⟩
  have hb := hb1.trans (hb2.mono hb1.size)
  clear hb1 hb2 c1 c2
  cases ok
  · go_wp2_with fail
    refine bodyPost_ret (Mem.results_tmp4 Tryz.results105 _ _ _) rfl ?_
    exact req_bad s w _ (by rw [HO.out]; rfl) hb
  cases is
  · go_wp2_with fail
    refine bodyPost_ret (Mem.results_tmp4 Tryz.results105 _ _ _) rfl ?_
    exact req_bad s w _ (by rw [HO.out]; rfl) hb
  go_wp2_with fail
  refine (unhide c3 _).mono ?_; rintro e w3 ⟨rfl, rfl⟩
  cases hT : tokenS m.data.toList
  · go_wp2_with fail
    refine bodyPost_ret (Mem.results_tmp4 Tryz.results105 _ _ _) rfl ?_
    exact req_bad s w _ (by rw [HO.out, hT]; rfl) hb
  go_wp2_with fail
  refine (unhide c4 _).mono ?_; rintro e w4 ⟨rfl, rfl⟩
  cases hS : seenS t.data.toList
  · go_wp2_with fail
    refine bodyPost_ret (Mem.results_tmp4 Tryz.results105 _ _ _) rfl ?_
    exact req_bad s w _ (by rw [HO.out, hT, hS]; rfl) hb
  have hO : reqOK s.data.toList = true := by rw [HO.out, hT, hS]; rfl
  have HO2 := Lib.hid hO
  clear hT hS hO HO
  go_wp2_with fail
  refine (unhide c5 _).mono ?_; rintro e w5 ⟨rfl, rfl⟩
  by_cases h0 : (ver v.data.toList).2 = 0
  · have H0 := Lib.hid h0
    have h0' : ((ver v.data.toList).2 != 0) = false := by rw [h0]; rfl
    have hq := Lib.hid (req_ok s m t _ w _ HO2.out HV.out h0 E1.out E2.out hb)
    rw [h0] at hq
    clear h0
    go_wp2_with fail
    refine bodyPost_ret (Mem.results_tmp4 Tryz.results105 _ _ _) rfl ?_
    exact hq.out
  · have h0' : ((ver v.data.toList).2 != 0) = true := by rw [bne_iff_ne]; exact h0
    have hq := Lib.hid (req_ver s _ w _ HO2.out HV.out h0 hb)
    rw [ver_zero h0] at hq
    clear h0
    go_wp2_with fail
    refine bodyPost_ret (Mem.results_tmp4 Tryz.results105 _ _ _) rfl ?_
    exact hq.out

set_option maxRecDepth 100000 in
set_option maxHeartbeats 4000000 in
theorem rstatus_any (s : ByteArray) (hs : s.size ≤ 1000000) (w : World) :
    Calls Tryz.prog 104 #[.string s] w (StPost s w) := by
  obtain ⟨v, hv⟩ := of_list (cutS 32 s.data.toList).1
  obtain ⟨r, hr⟩ := of_list (cutS 32 s.data.toList).2.1
  obtain ⟨d, hd⟩ := of_list (cutS 32 r.data.toList).1
  obtain ⟨y, hy⟩ := of_list (cutS 32 r.data.toList).2.1
  have hl := cutS_len 32 s.data.toList
  have hl2 := cutS_len 32 r.data.toList
  have sv := size_list hv
  have sr := size_list hr
  have sd := size_list hd
  have sy := size_list hy
  have zs : s.data.toList.length = s.size := by simp
  have zr : r.data.toList.length = r.size := by simp
  have zd : d.size ≤ 1000000 := by omega
  have zy : y.size ≤ 1000000 := by omega
  have zv : v.size ≤ 1000000 := by omega
  have zrs : r.size ≤ 1000000 := by omega
  obtain ⟨ok, hok⟩ : ∃ b, b = (cutS 32 s.data.toList).2.2 := ⟨_, rfl⟩
  obtain ⟨is, his⟩ : ∃ b, b = (cutS 32 r.data.toList).2.2 := ⟨_, rfl⟩
  obtain ⟨bad, hbad⟩ : ∃ b, b = (ver v.data.toList).2 := ⟨_, rfl⟩
  obtain ⟨mi, hmi⟩ : ∃ b, b = (ver v.data.toList).1 := ⟨_, rfl⟩
  obtain ⟨n, hn⟩ : ∃ b, b = (numS d.data.toList).1 := ⟨_, rfl⟩
  obtain ⟨er, her⟩ : ∃ b, b = (numS d.data.toList).2 := ⟨_, rfl⟩
  obtain ⟨vb, hvb⟩ : ∃ b, b = allS chr y.data.toList := ⟨_, rfl⟩
  have hO : stOK s.data.toList ↔ (ok = true ∧ is = true ∧ bad = 0 ∧ er = 0 ∧ d.size = 3 ∧ 100 ≤ n ∧ n ≤ 599 ∧ vb = true) := by
    have e1 : stRest s.data.toList = r.data.toList := hr.symm
    unfold stOK stDig stWhy stV
    rw [e1, ← hd, ← hy, ← hv, ← hok, ← his, ← hbad, ← her, ← hn, ← hvb, show d.data.toList.length = d.size by simp]
  have c1 := hide (fun w => rcut_any s v r ok hv hr hok (by omega) w)
  have c2 := hide (fun w => rcut_any r d y is hd hy his (by omega) w)
  have c3 := hide (fun w => rver_any v (by omega) w)
  rw [← hbad, ← hmi] at c3
  have c4 := hide (fun h3 w => rnumber_any d h3 w)
  rw [← hn, ← her] at c4
  have c5 := hide (fun w => chars_any y (by omega) w)
  rw [← hvb] at c5
  have HO := hide hO
  have E1 := Lib.hid (show mi = (ver (stV s.data.toList)).1 by rw [hmi, hv]; rfl)
  have E2 := Lib.hid (show n = (numS (stDig s.data.toList)).1 by rw [hn, hd, hr]; rfl)
  have E3 := Lib.hid (show y.data.toList = stWhy s.data.toList by rw [hy, hr]; rfl)
  clear hO hv hr hd hy hl hl2 sv sr sd sy zs zr hok his hbad hmi hn her hvb zrs zy zv
  go_enter Tryz.func104, Tryz.ntmps104
  go_wp2_with fail
  refine (unhide c1 _).mono ?_; rintro e w1 ⟨rfl, hb1⟩
  go_wp2_with fail
  refine (unhide c3 _).mono ?_; rintro e w2 ⟨rfl, rfl⟩
  go_wp2_with fail
  refine (unhide c2 _).mono ?_; rintro e w3 ⟨rfl, hb3⟩
  replace hb3 := hb1.trans (hb3.mono hb1.size)
  clear hb1
  have hno : ∀ P : Prop, (stOK s.data.toList → P) → ¬ P → Hid (¬ stOK s.data.toList) := fun P h k => hide fun g => k (h g)
  cases ok
  · have HN := hno _ (fun g => ((unhide HO).1 g).1) (by decide)
    go_wp2_with fail
    refine bodyPost_ret (Mem.results_tmp4 Tryz.results104 _ _ _) rfl ?_
    exact stp_no s w _ (unhide HN) hb3
  cases is
  · have HN := hno _ (fun g => ((unhide HO).1 g).2.1) (by decide)
    go_wp2_with fail
    refine bodyPost_ret (Mem.results_tmp4 Tryz.results104 _ _ _) rfl ?_
    exact stp_no s w _ (unhide HN) hb3
  by_cases h3 : bad = 0
  rotate_left
  · have HN := hno _ (fun g => ((unhide HO).1 g).2.2.1) h3
    have b3 : (bad != 0) = true := by rw [bne_iff_ne]; exact h3
    clear h3 hno
    go_wp2_with fail
    refine bodyPost_ret (Mem.results_tmp4 Tryz.results104 _ _ _) rfl ?_
    exact stp_no s w _ (unhide HN) hb3
  have b3 : (bad != 0) = false := by rw [h3]; rfl
  by_cases h5 : d.size = 3
  rotate_left
  · have HN := hno _ (fun g => ((unhide HO).1 g).2.2.2.2.1) h5
    have b5 : ((d.size : Int) != 3) = true := by rw [bne_iff_ne]; omega
    clear h3 h5 hno
    go_wp2_with fail
    refine bodyPost_ret (Mem.results_tmp4 Tryz.results104 _ _ _) rfl ?_
    exact stp_no s w _ (unhide HN) hb3
  have b5 : ((d.size : Int) != 3) = false := by rw [h5]; rfl
  have c4' := hide (unhide c4 (by omega))
  have H3 := Lib.hid h3
  have H5 := Lib.hid h5
  clear c4 h3 h5
  cases vb
  · have HN := hno _ (fun g => ((unhide HO).1 g).2.2.2.2.2.2.2) (by decide)
    clear hno
    go_wp2_with fail
    refine (unhide c5 _).mono ?_; rintro e w4 ⟨rfl, rfl⟩
    go_wp2_with fail
    refine bodyPost_ret (Mem.results_tmp4 Tryz.results104 _ _ _) rfl ?_
    exact stp_no s w _ (unhide HN) hb3
  go_wp2_with fail
  refine (unhide c5 _).mono ?_; rintro e w4 ⟨rfl, rfl⟩
  go_wp2_with fail
  refine (unhide c4' _).mono ?_; rintro e w5 ⟨rfl, rfl⟩
  by_cases h4 : er = 0
  rotate_left
  · have HN := hno _ (fun g => ((unhide HO).1 g).2.2.2.1) h4
    have b4 : (er != 0) = true := by rw [bne_iff_ne]; exact h4
    clear h4 hno
    go_wp2_with fail
    refine bodyPost_ret (Mem.results_tmp4 Tryz.results104 _ _ _) rfl ?_
    exact stp_no s w _ (unhide HN) hb3
  have b4 : (er != 0) = false := by rw [h4]; rfl
  by_cases h6 : 100 ≤ n
  rotate_left
  · have HN := hno _ (fun g => ((unhide HO).1 g).2.2.2.2.2.1) h6
    have b6 : decide (n < 100) = true := decide_eq_true (by omega)
    clear h4 h6 hno
    go_wp2_with fail
    refine bodyPost_ret (Mem.results_tmp4 Tryz.results104 _ _ _) rfl ?_
    exact stp_no s w _ (unhide HN) hb3
  have b6 : decide (n < 100) = false := decide_eq_false (by omega)
  by_cases h7 : n ≤ 599
  rotate_left
  · have HN := hno _ (fun g => ((unhide HO).1 g).2.2.2.2.2.2.1) h7
    have b7 : decide (599 < n) = true := decide_eq_true (by omega)
    clear h4 h6 h7 hno
    go_wp2_with fail
    refine bodyPost_ret (Mem.results_tmp4 Tryz.results104 _ _ _) rfl ?_
    exact stp_no s w _ (unhide HN) hb3
  have b7 : decide (599 < n) = false := decide_eq_false (by omega)
  have HY := hide ((unhide HO).2 ⟨by trivial, by trivial, H3.out, h4, H5.out, h6, h7, by trivial⟩)
  clear h4 hno
  go_wp2_with fail
  refine bodyPost_ret (Mem.results_tmp4 Tryz.results104 _ _ _) rfl ?_
  exact stp_ok s y _ _ w _ (unhide HY) E1.out E2.out E3.out hb3
end Go.Proofs.YtbpopmbabckojaaGreatDoor.Sp
