/- Lemmas for the statement's proof, several texts in one: Rt, S10, A7. -/
import Derived.Test.YtbpopmbabckojaaGreatDoorZ03
import Derived.Test.YtbpopmbabckojaaGreatDoorZ08
import Derived.Test.YtbpopmbabckojaaGreatDoorZ11
import Derived.Test.YtbpopmbabckojaaGreatDoorZ04
import Derived.Lib.IndexBytes
set_option linter.unusedVariables false
set_option linter.unusedSimpArgs false
/- The reference's Letter, Digit, in, Tchar, Token. -/
section
namespace Go.Proofs.YtbpopmbabckojaaGreatDoor.Sp
open Go.RowKit Sl

def letterI (c : Int) : Bool := decide ((97 ≤ c ∧ c ≤ 122) ∨ (65 ≤ c ∧ c ≤ 90))
def digitI (c : Int) : Bool := decide (48 ≤ c ∧ c ≤ 57)
def inS (c : Int) (l : List UInt8) : Bool := l.any fun x => decide ((x.toNat : Int) = c)
def markB : ByteArray := ⟨#[33, 35, 36, 37, 38, 39, 42, 43, 45, 46, 94, 95, 96, 124, 126]⟩
def rtchI (c : Int) : Bool := letterI c || digitI c || inS c markB.data.toList

theorem letter_any (c : Int) (w : World) : Calls Tryz.prog 59 #[.int .u8 c] w fun e w' => e = .returned (.bool (letterI c)) ∧ w = w' := by
  go_enter Tryz.func59, Tryz.ntmps59
  go_wp2
  all_goals go_ret
  all_goals exact ⟨ret_bool (by unfold letterI; (first | (with_reducible refine dec_t ?_; omega) | (with_reducible refine dec_f ?_; omega) | (with_reducible refine dec_d ?_; omega) | (with_reducible refine dec_e ?_; omega) | (with_reducible refine dec_n ?_; omega) | (with_reducible refine dec_nd ?_; omega))), rfl⟩
theorem r1digit_any (c : Int) (w : World) : Calls Tryz.prog 60 #[.int .u8 c] w fun e w' => e = .returned (.bool (digitI c)) ∧ w = w' := by
  go_enter Tryz.func60, Tryz.ntmps60
  go_wp2
  all_goals go_ret
  all_goals exact ⟨ret_bool (by unfold digitI; (first | (with_reducible refine dec_t ?_; omega) | (with_reducible refine dec_f ?_; omega) | (with_reducible refine dec_d ?_; omega) | (with_reducible refine dec_e ?_; omega) | (with_reducible refine dec_n ?_; omega) | (with_reducible refine dec_nd ?_; omega))), rfl⟩

theorem inS_take (c : Int) (s : ByteArray) (k : Nat) (h : k < s.size) : inS c (s.data.toList.take (k + 1)) = (inS c (s.data.toList.take k) || decide ((s[k].toNat : Int) = c)) := by
  unfold inS
  rw [List.take_succ_eq_append_getElem (by simpa using h), List.any_append]
  simp only [List.any_cons, List.any_nil, Bool.or_false]
  rfl
theorem inS_yes (c : Int) (s : ByteArray) (k : Nat) (h : k < s.size) (hc : (s[k].toNat : Int) = c) : inS c s.data.toList = true := by
  unfold inS
  rw [List.any_eq_true]
  exact ⟨s[k], by rw [show s[k] = s.data.toList[k]'(by simpa using h) from rfl]; exact List.getElem_mem _, by simp [hc]⟩

set_option maxHeartbeats 1000000 in
theorem in_any (c : Int) (s : ByteArray) (hs : s.size ≤ 9223372036854775807) (w : World) : Calls Tryz.prog 61 #[.int .u8 c, .string s] w fun e w' => e = .returned (.bool (inS c s.data.toList)) ∧ w = w' := by
  go_enter Tryz.func61, Tryz.ntmps61
  go_wp2_with fail
  go_loop [5] (fun n => ∃ k : Nat, k ≤ s.size ∧ n = .int .i64 k ∧ inS c (s.data.toList.take k) = false) (fun n => s.size - (intOf n).toNat)
  case atStart => exact ⟨0, Nat.zero_le _, rfl, rfl⟩
  case round =>
    obtain ⟨k, hk, rfl, hall⟩ := hrel
    have HA := Lib.hid hall
    clear hall
    by_cases hlt : k < s.size
    · have HY := hide (inS_yes c s k hlt)
      have HT := hide (inS_take c s k hlt)
      by_cases hc : (s[k].toNat : Int) = c
      · have hb : ((s[k].toNat : Int) == c) = true := by simp [hc]
        have HC := Lib.hid hc
        clear hc
        go_wp2
        go_ret
        exact ⟨ret_bool (by rw [unhide HY HC.out]), rfl⟩
      · have hb : ((s[k].toNat : Int) == c) = false := by simp [hc]
        have HC := Lib.hid hc
        clear hc
        go_wp2
        go_round
        case rel => exact ⟨k + 1, by omega, by go_num, by rw [unhide HT, HA.out, decide_eq_false HC.out]; rfl⟩
        case measure => simp [intOf]; omega
    · have hke : k = s.size := by omega
      subst hke
      go_wp2
      go_ret
      refine ⟨ret_bool ?_, rfl⟩
      have := HA.out
      rw [List.take_of_length_le (by simp)] at this
      exact this.symm

set_option maxHeartbeats 1000000 in
theorem rtchar_any (c : Int) (w : World) : Calls Tryz.prog 37 #[.int .u8 c] w fun e w' => e = .returned (.bool (rtchI c)) ∧ w = w' := by
  unfold rtchI
  obtain ⟨a, ha⟩ : ∃ a, letterI c = a := ⟨_, rfl⟩
  obtain ⟨b, hb⟩ : ∃ b, digitI c = b := ⟨_, rfl⟩
  obtain ⟨d, hd⟩ : ∃ d, inS c markB.data.toList = d := ⟨_, rfl⟩
  have h1 := hide (letter_any c)
  have h2 := hide (r1digit_any c)
  have h3 := hide (in_any c markB (by decide))
  rw [ha] at h1 ⊢
  rw [hb] at h2 ⊢
  rw [hd] at h3 ⊢
  clear ha hb hd
  unfold markB at h3
  cases a <;> cases b
  all_goals
    go_enter Tryz.func37, Tryz.ntmps37
    go_wp2_with (first
      | (go_at_call 59; refine (unhide h1 _).mono ?_; rintro e w1 ⟨rfl, rfl⟩)
      | (go_at_call 60; refine (unhide h2 _).mono ?_; rintro e w1 ⟨rfl, rfl⟩)
      | (go_at_call 61; refine (unhide h3 _).mono ?_; rintro e w1 ⟨rfl, rfl⟩))
    go_ret
    exact ⟨rfl, rfl⟩
theorem rtchI_B (c : UInt8) : rtchI c.toNat = tch c := by
  have := byte_all (fun c => rtchI c.toNat == tch c) (by decide +kernel) c
  simpa using this

set_option maxHeartbeats 1000000 in
theorem rtoken_any (s : ByteArray) (hs : s.size ≤ 9223372036854775807) (w : World) :
    Calls Tryz.prog 10 #[.string s] w fun e w' => e = .returned (.bool (tokenS s.data.toList)) ∧ w = w' := by
  go_enter Tryz.func10, Tryz.ntmps10
  go_wp2_with fail
  go_loop [3] (fun n => ∃ k : Nat, k ≤ s.size ∧ n = .int .i64 k ∧ (s.data.toList.take k).all tch = true) (fun n => s.size - (intOf n).toNat)
  case atStart => exact ⟨0, Nat.zero_le _, rfl, rfl⟩
  case round =>
    obtain ⟨k, hk, rfl, hall⟩ := hrel
    have HA := Lib.hid hall
    clear hall
    by_cases hlt : k < s.size
    · have hN := Lib.hid (all_no (q := tch) s k hlt)
      have hT := Lib.hid (all_take (q := tch) s k hlt)
      have hc := hide (rtchar_any s[k].toNat)
      rw [rtchI_B] at hc
      have hne : s.data.toList ≠ [] := by
        intro e
        have h8 : s.data.toList.length = 0 := by rw [e]; rfl
        have h9 : s.data.toList.length = s.size := by simp
        omega
      have HNE := Lib.hid hne
      clear hne
      cases hq : tch s[k]
      · rw [hq] at hc
        have HQ := Lib.hid hq
        clear hq
        go_wp2_with (go_at_call 37; refine (unhide hc _).mono ?_; rintro e w1 ⟨rfl, rfl⟩)
        go_ret
        exact ⟨ret_bool (by unfold tokenS allS; rw [hN.out HQ.out, Bool.and_false]), rfl⟩
      · rw [hq] at hc
        have HQ := Lib.hid hq
        clear hq
        go_wp2_with (go_at_call 37; refine (unhide hc _).mono ?_; rintro e w1 ⟨rfl, rfl⟩)
        go_round
        case rel => exact ⟨k + 1, by omega, by go_num, by rw [hT.out, HA.out, HQ.out]; rfl⟩
        case measure => simp [intOf]; omega
    · have hke : k = s.size := by omega
      subst hke
      have hall := HA.out
      rw [List.take_of_length_le (by simp)] at hall
      have hfin : tokenS s.data.toList = !(s.toList.isEmpty) := by
        unfold tokenS allS
        rw [hall, Bool.and_true, Lib.toList_data]
      have HF := Lib.hid hfin
      clear hall hfin HA
      rcases ne_case s with ⟨e1, e2⟩ | ⟨e1, e2⟩
      all_goals
        go_wp2_with fail
        go_ret
        refine ⟨ret_bool ?_, rfl⟩
        rw [HF.out]
        first | (rw [e1]; rfl) | simp [e1] | (rw [e1])
end Go.Proofs.YtbpopmbabckojaaGreatDoor.Sp
end

/- The reference's cut, seen, version. -/
section
namespace Go.Proofs.YtbpopmbabckojaaGreatDoor.Sp
open Go.RowKit Sl

theorem cut_step {c : UInt8} {l : List UInt8} {k : Nat} (h : k < l.length) (hc : l[k] ≠ c) (hk : cutS c l = (l.take k ++ (cutS c (l.drop k)).1, (cutS c (l.drop k)).2.1, (cutS c (l.drop k)).2.2)) :
    cutS c l = (l.take (k + 1) ++ (cutS c (l.drop (k + 1))).1, (cutS c (l.drop (k + 1))).2.1, (cutS c (l.drop (k + 1))).2.2) := by
  have hd : l.drop k = l[k] :: l.drop (k + 1) := List.drop_eq_getElem_cons h
  have e : cutS c (l.drop k) = (l[k] :: (cutS c (l.drop (k + 1))).1, (cutS c (l.drop (k + 1))).2.1, (cutS c (l.drop (k + 1))).2.2) := by
    rw [hd]
    conv => lhs; unfold cutS
    rw [if_neg hc]
  rw [hk, e, List.take_succ_eq_append_getElem h, List.append_assoc]
  rfl
theorem cut_found {c : UInt8} {l : List UInt8} {k : Nat} (h : k < l.length) (hc : l[k] = c) (hk : cutS c l = (l.take k ++ (cutS c (l.drop k)).1, (cutS c (l.drop k)).2.1, (cutS c (l.drop k)).2.2)) :
    cutS c l = (l.take k, l.drop (k + 1), true) := by
  have hd : l.drop k = l[k] :: l.drop (k + 1) := List.drop_eq_getElem_cons h
  have e : cutS c (l.drop k) = ([], l.drop (k + 1), true) := by
    rw [hd]
    conv => lhs; unfold cutS
    rw [if_pos hc]
  rw [hk, e]
  simp
theorem cut_over {c : UInt8} {l : List UInt8} {k : Nat} (h : l.length ≤ k) (hk : cutS c l = (l.take k ++ (cutS c (l.drop k)).1, (cutS c (l.drop k)).2.1, (cutS c (l.drop k)).2.2)) : cutS c l = (l, [], false) := by
  rw [hk, List.drop_eq_nil_of_le h, List.take_of_length_le h]
  show (l ++ [], [], false) = _
  rw [List.append_nil]

set_option maxRecDepth 100000 in
set_option maxHeartbeats 2000000 in
theorem rcut_any (s x y : ByteArray) (b : Bool) (hx : x.data.toList = (cutS 32 s.data.toList).1) (hy : y.data.toList = (cutS 32 s.data.toList).2.1) (hb : b = (cutS 32 s.data.toList).2.2) (hs : s.size ≤ 9223372036854775806) (w : World) :
    Calls Tryz.prog 124 #[.string s] w fun e w' => e = .returned (.tuple #[.string x, .string y, .bool b]) ∧ Below w.heap.size w w' := by
  have hl : s.data.toList.length = s.size := by simp
  have HL := Lib.hid hl
  have HX := Lib.hid hx
  have HY := Lib.hid hy
  have HB := Lib.hid hb
  clear hl hx hy hb
  go_enter Tryz.func124, Tryz.ntmps124
  go_wp2_with fail
  go_loop [5] (fun n => ∃ k : Nat, k ≤ s.size ∧ n = .int .i64 k ∧ cutS 32 s.data.toList = (s.data.toList.take k ++ (cutS 32 (s.data.toList.drop k)).1, (cutS 32 (s.data.toList.drop k)).2.1, (cutS 32 (s.data.toList.drop k)).2.2)) (fun n => s.size - (intOf n).toNat)
  case atStart => exact ⟨0, Nat.zero_le _, rfl, by simp⟩
  case round =>
    obtain ⟨k, hk, rfl, hc⟩ := hrel
    have HC := Lib.hid hc
    clear hc
    rcases Nat.lt_or_ge k s.size with hlt | hge
    · have hlt' : k < s.data.toList.length := by rw [HL.out]; exact hlt
      have hkb : decide ((k : Int) < (s.size : Int)) = true := by rw [decide_eq_true_iff]; omega
      by_cases h32 : (s[k].toNat : Int) = 32
      · have hf := cut_found hlt' (c := 32) (u8_eq h32) HC.out
        have b32 : ((s[k].toNat : Int) == 32) = true := by rw [beq_iff_eq]; exact h32
        have ex : s.extract 0 k = x := by
          have h : x.data.toList = s.data.toList.take k := by rw [HX.out, hf]
          rw [ba_eq h]
          exact ba_eq (by rw [Lib.extract_data]; rfl)
        have ey : s.extract (k + 1) s.size = y := by
          have h : y.data.toList = s.data.toList.drop (k + 1) := by rw [HY.out, hf]
          rw [ba_eq h]
          exact ba_eq (by rw [Lib.extract_to_end])
        have eb : b = true := by rw [HB.out, hf]
        subst eb
        clear hf h32 HX HY HB
        go_upto_region 5 with fail
        refine Reg.region_more (by kernel_rfl) (by kernel_rfl) ?_
        repeat (go_big_quiet_step (fail))
        refine wpQuiet_nil ?_
        intro w9 hb9; obtain ⟨hc9, hf9, hz9⟩ := bcell hb9; (try simp at hz9)
        have HB9 := hide hb9
        clear hb9 hc9 hf9
        go_wp2_with fail
        refine bodyPost_ret (by simp [results, Tryz.results124, go_sem, *] <;> rfl) rfl ?_
        exact ⟨rfl, unhide HB9⟩
      · have hf := Lib.hid (cut_step hlt' (c := 32) (u8_ne (by decide) h32) HC.out)
        have b32 : ((s[k].toNat : Int) == 32) = false := by rw [beq_eq_false_iff_ne]; exact h32
        clear h32
        go_wp2_with fail
        go_round
        case rel => exact ⟨k + 1, by omega, by go_num, hf.out⟩
        case measure => simp [intOf]; omega
    · have hkb : decide ((k : Int) < (s.size : Int)) = false := by rw [decide_eq_false_iff_not]; omega
      have hf := cut_over (by rw [HL.out]; exact hge) HC.out
      have ex : x = s := by
        have h : x.data.toList = s.data.toList := by rw [HX.out, hf]
        rw [ba_eq h]
      have ey : y = ⟨#[]⟩ := by
        have h : y.data.toList = [] := by rw [HY.out, hf]
        rw [ba_eq h]
      have eb : b = false := by rw [HB.out, hf]
      subst ex ey eb
      clear hf HX HY HB
      go_wp2_with fail
      refine bodyPost_ret (by simp [results, Tryz.results124, go_sem, *] <;> rfl) rfl ?_
      exact ⟨rfl, Below.refl _ _⟩

set_option maxHeartbeats 1000000 in
theorem rseen_any (s : ByteArray) (hs : s.size ≤ 9223372036854775806) (w : World) :
    Calls Tryz.prog 96 #[.string s] w fun e w' => e = .returned (.bool (seenS s.data.toList)) ∧ w = w' := by
  go_enter Tryz.func96, Tryz.ntmps96
  go_wp2_with fail
  go_loop [3] (fun n => ∃ k : Nat, k ≤ s.size ∧ n = .int .i64 k ∧ (s.data.toList.take k).all seenB = true) (fun n => s.size - (intOf n).toNat)
  case atStart => exact ⟨0, Nat.zero_le _, rfl, rfl⟩
  case round =>
    obtain ⟨k, hk, rfl, hall⟩ := hrel
    have HA := Lib.hid hall
    clear hall
    by_cases hlt : k < s.size
    · have hN := Lib.hid (all_no (q := seenB) s k hlt)
      have hT := Lib.hid (all_take (q := seenB) s k hlt)
      have hne : s.data.toList ≠ [] := by
        intro e
        have h8 : s.data.toList.length = 0 := by rw [e]; rfl
        have h9 : s.data.toList.length = s.size := by simp
        omega
      have HNE := Lib.hid hne
      clear hne
      by_cases hq : 33 ≤ s[k].toNat ∧ s[k].toNat ≤ 126
      · have HQ := Lib.hid (seen_t hq)
        have b1 : decide ((s[k].toNat : Int) < 33) = false := decide_eq_false (by omega)
        have b2 : decide ((126 : Int) < (s[k].toNat : Int)) = false := decide_eq_false (by omega)
        clear hq
        go_wp2_with fail
        go_round
        case rel => exact ⟨k + 1, by omega, by go_num, by rw [hT.out, HA.out, HQ.out]; rfl⟩
        case measure => simp [intOf]; omega
      · have HQ := Lib.hid (seen_f hq)
        have hb : decide ((s[k].toNat : Int) < 33) = true ∨ (decide ((s[k].toNat : Int) < 33) = false ∧ decide ((126 : Int) < (s[k].toNat : Int)) = true) := by
          by_cases h : s[k].toNat < 33
          · exact .inl (decide_eq_true (by omega))
          · exact .inr ⟨decide_eq_false (by omega), decide_eq_true (by omega)⟩
        clear hq
        rcases hb with b1 | ⟨b1, b2⟩
        all_goals
          go_wp2_with fail
          go_ret
          exact ⟨ret_bool (by rw [seenS_of _ HNE.out, hN.out HQ.out]), rfl⟩
    · have hke : k = s.size := by omega
      subst hke
      have hall := HA.out
      rw [List.take_of_length_le (by simp)] at hall
      have hfin : seenS s.data.toList = !(s.toList.isEmpty) := by
        unfold seenS
        rw [hall, Bool.and_true, Lib.toList_data]
      have HF := Lib.hid hfin
      clear hall hfin HA
      rcases ne_case s with ⟨e1, e2⟩ | ⟨e1, e2⟩
      all_goals
        go_wp2_with fail
        go_ret
        refine ⟨ret_bool ?_, rfl⟩
        rw [HF.out]
        first | (rw [e1]; rfl) | simp [e1] | (rw [e1])

theorem prefix_five (s : ByteArray) (h : 5 ≤ s.size) : Lib.hasPrefix s.data.toList verP = ((s.extract 0 5).toList == [72, 84, 84, 80, 47]) := by
  have e : (s.extract 0 5).data.toList = s.data.toList.take 5 := by rw [Lib.extract_data]; rfl
  rw [Lib.toList_data, e]
  unfold Lib.hasPrefix
  rw [Bool.eq_iff_iff, List.isPrefixOf_iff_prefix, beq_iff_eq]
  constructor
  · rintro ⟨t, ht⟩
    rw [← ht]; rfl
  · intro ht
    refine ⟨s.data.toList.drop 5, ?_⟩
    show verP ++ _ = _
    have : verP = s.data.toList.take 5 := ht.symm
    rw [this, List.take_append_drop]
set_option maxHeartbeats 2000000 in
theorem rver_any (s : ByteArray) (hs : s.size ≤ 9223372036854775806) (w : World) :
    Calls Tryz.prog 125 #[.string s] w fun e w' => e = .returned (.tuple #[.int .i64 (ver s.data.toList).1, .int .i64 (ver s.data.toList).2]) ∧ w = w' := by
  have hl : s.data.toList.length = s.size := by simp
  by_cases h8 : s.size = 8
  rotate_left
  · have hv : ver s.data.toList = (0, 400) := by
      unfold ver
      rw [if_neg]
      rintro ⟨h1, h2⟩
      rw [List.length_drop] at h2
      omega
    have HV := Lib.hid hv
    have hb : ((s.size : Int) != 8) = true := by rw [bne_iff_ne]; omega
    clear hv hl h8
    go_enter Tryz.func125, Tryz.ntmps125
    go_wp2_with fail
    go_ret2
    exact ⟨by rw [HV.out]; rfl, rfl⟩
  have hb : ((s.size : Int) != 8) = false := by rw [h8]; rfl
  have k5 : 5 < s.size := by omega
  have k6 : 6 < s.size := by omega
  have k7 : 7 < s.size := by omega
  have hp := prefix_five s (by omega)
  obtain ⟨P, hP⟩ : ∃ P, s.extract 0 5 = P := ⟨_, rfl⟩
  rw [hP] at hp
  cases hpf : Lib.hasPrefix s.data.toList verP
  · have hv : ver s.data.toList = (0, 400) := by unfold ver; rw [if_neg (by rw [hpf]; simp)]
    have HV := Lib.hid hv
    rw [hpf] at hp
    have hpb := hp.symm
    clear hv hl hpf hp h8
    go_enter Tryz.func125, Tryz.ntmps125
    go_wp2_with fail
    go_ret2
    exact ⟨by rw [HV.out]; rfl, rfl⟩
  have hv : ver s.data.toList = verC (s[5]'k5) (s[6]'k6) (s[7]'k7) := by
    unfold ver
    rw [if_pos ⟨hpf, by rw [List.length_drop]; omega⟩]
    have g : ∀ (i : Nat) (h : i < s.size), s.data.toList.getD i 0 = s[i]'h := fun i h => by
      rw [List.getD, List.getElem?_eq_getElem (by rw [hl]; exact h)]; rfl
    rw [g 5 k5, g 6 k6, g 7 k7]
  have HV := Lib.hid hv
  rw [hpf] at hp
  have hpb := hp.symm
  clear hv hl hpf hp h8
  have c5 := hide (fun w => r1digit_any (s[5]'k5).toNat w)
  have c7 := hide (fun w => r1digit_any (s[7]'k7).toNat w)
  have hdd : ∀ c : Int, digitI c = digI c := fun _ => rfl
  rw [hdd] at c5 c7
  obtain ⟨a, ha⟩ : ∃ a, s[5]'k5 = a := ⟨_, rfl⟩
  obtain ⟨b, hbb⟩ : ∃ b, s[6]'k6 = b := ⟨_, rfl⟩
  obtain ⟨c, hc⟩ : ∃ c, s[7]'k7 = c := ⟨_, rfl⟩
  rw [ha] at c5 HV
  rw [hbb] at HV
  rw [hc] at c7 HV
  cases h5d : digI a.toNat
  · have HB := Lib.hid (verC_bad (a := a) (b := b) (c := c) (by rintro ⟨h, _⟩; rw [h5d] at h; cases h))
    rw [h5d] at c5
    clear h5d
    go_enter Tryz.func125, Tryz.ntmps125
    go_wp2_with (go_at_call 60; refine (unhide c5 _).mono ?_; rintro e w' ⟨rfl, rfl⟩)
    go_ret2
    exact ⟨by rw [HV.out, HB.out]; rfl, rfl⟩
  by_cases h46 : (b.toNat : Int) = 46
  rotate_left
  · have HB := Lib.hid (verC_bad (a := a) (b := b) (c := c) (by rintro ⟨_, h, _⟩; exact h46 (by omega)))
    have b46 : ((b.toNat : Int) != 46) = true := by rw [bne_iff_ne]; exact h46
    rw [h5d] at c5
    clear h5d h46
    go_enter Tryz.func125, Tryz.ntmps125
    go_wp2_with (go_at_call 60; refine (unhide c5 _).mono ?_; rintro e w' ⟨rfl, rfl⟩)
    go_ret2
    exact ⟨by rw [HV.out, HB.out]; rfl, rfl⟩
  have b46 : ((b.toNat : Int) != 46) = false := by rw [h46]; rfl
  cases h7d : digI c.toNat
  · have HB := Lib.hid (verC_bad (a := a) (b := b) (c := c) (by rintro ⟨_, _, h⟩; rw [h7d] at h; cases h))
    rw [h5d] at c5
    rw [h7d] at c7
    clear h5d h46 h7d
    go_enter Tryz.func125, Tryz.ntmps125
    go_wp2_with fail
    refine (unhide c5 _).mono ?_; rintro e w' ⟨rfl, rfl⟩
    go_wp2_with fail
    refine (unhide c7 _).mono ?_; rintro e w' ⟨rfl, rfl⟩
    go_wp2_with fail
    go_ret2
    exact ⟨by rw [HV.out, HB.out]; rfl, rfl⟩
  have hok : digI a.toNat = true ∧ b.toNat = 46 ∧ digI c.toNat = true := ⟨h5d, by omega, h7d⟩
  have hcd := digI_t h7d
  rw [h5d] at c5
  rw [h7d] at c7
  by_cases ho : a.toNat ≠ 49 ∨ 49 < c.toNat
  · have HB := Lib.hid (verC_other hok ho)
    have hbs : ((a.toNat : Int) != 49) = true ∨ (((a.toNat : Int) != 49) = false ∧ decide ((49 : Int) < (c.toNat : Int)) = true) := by
      by_cases h : a.toNat = 49
      · exact .inr ⟨by rw [h]; rfl, decide_eq_true (by omega)⟩
      · exact .inl (by rw [bne_iff_ne]; omega)
    clear h5d h46 h7d hok ho
    rcases hbs with g1 | ⟨g1, g2⟩
    all_goals
      go_enter Tryz.func125, Tryz.ntmps125
      go_wp2_with fail
      refine (unhide c5 _).mono ?_; rintro e w' ⟨rfl, rfl⟩
      go_wp2_with fail
      refine (unhide c7 _).mono ?_; rintro e w' ⟨rfl, rfl⟩
      go_wp2_with fail
      go_ret2
      exact ⟨by rw [HV.out, HB.out]; rfl, rfl⟩
  · have HB := Lib.hid (verC_ok hok ho)
    have g1 : ((a.toNat : Int) != 49) = false := by rw [bne_eq_false_iff_eq]; omega
    have g2 : decide ((49 : Int) < (c.toNat : Int)) = false := decide_eq_false (by omega)
    have hu : IntKind.u8.wrap ((c.toNat : Int) - 48) = (c.toNat : Int) - 48 := by rw [IntKind.wrap_u8]; omega
    clear h5d h46 h7d hok ho
    go_enter Tryz.func125, Tryz.ntmps125
    go_wp2_with fail
    refine (unhide c5 _).mono ?_; rintro e w' ⟨rfl, rfl⟩
    go_wp2_with fail
    refine (unhide c7 _).mono ?_; rintro e w' ⟨rfl, rfl⟩
    go_wp2_with fail
    go_ret2
    exact ⟨by rw [HV.out, HB.out]; rfl, rfl⟩
end Go.Proofs.YtbpopmbabckojaaGreatDoor.Sp
end

/- start.port, Host. -/
section
namespace Go.Proofs.YtbpopmbabckojaaGreatDoor.Sp
open Go.RowKit

def tailP (l : List UInt8) (n : Nat) : Int × Bool :=
  if n = 0 then (0, false) else if n = l.length then (0, true) else
    (((Lib.trimPrefix (l.drop n) [58]).length : Int), Lib.hasPrefix (l.drop n) [58] && decide ((Lib.trimPrefix (l.drop n) [58]).length ≤ 5) && decide (runN digI (Lib.trimPrefix (l.drop n) [58]) = (Lib.trimPrefix (l.drop n) [58]).length))
def brackOK (r : List UInt8) : Prop := runN addrI r ≠ 0 ∧ runN addrI r < r.length ∧ r.getD (runN addrI r) 0 = 93
instance (r : List UInt8) : Decidable (brackOK r) := inferInstanceAs (Decidable (_ ∧ _ ∧ _))
def portS (l : List UInt8) : Int × Bool :=
  if Lib.hasPrefix l [91] = true then (if brackOK (l.drop 1) then tailP l (runN addrI (l.drop 1) + 2) else (0, false)) else tailP l (runN hostI l)

theorem runN_le (p : Int → Bool) (l : List UInt8) : runN p l ≤ l.length := by
  unfold runN; exact (List.takeWhile_sublist _).length_le
theorem prefix_pos {l : List UInt8} {c : UInt8} (h : Lib.hasPrefix l [c] = true) : ∃ t, l = c :: t := by
  cases l with
  | nil => simp [Lib.hasPrefix, List.isPrefixOf] at h
  | cons b t => simp [Lib.hasPrefix, List.isPrefixOf] at h; exact ⟨t, by rw [h]⟩

theorem ret_pb {a c : Int} {b d : Bool} (h : (a, b) = (c, d)) : Ending.returned (.tuple #[.int .i64 a, .bool b]) = .returned (.tuple #[.int .i64 c, .bool d]) := by cases h; rfl


end Go.Proofs.YtbpopmbabckojaaGreatDoor.Sp
end
