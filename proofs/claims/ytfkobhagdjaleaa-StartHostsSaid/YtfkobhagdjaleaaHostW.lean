/- The walk of the law StartHosts. -/
import Derived.Test.YtfkobhagdjaleaaA9
import Derived.Test.YtfkobhagdjaleaaPl3
namespace Go.Proofs.Ytfkobhagdjaleaa.Sp
open Go.RowKit

set_option maxRecDepth 100000 in
set_option maxHeartbeats 2000000 in
theorem ho_long (n p : ByteArray) (hl : 100 < n.size ∨ (n.size ≤ 100 ∧ 100 < p.size)) (h1 : n.size ≤ 9223372036854775807) (h2 : p.size ≤ 9223372036854775807) (w : World) (hM : MaxV w) :
    Calls Try.prog 5 #[.string n, .string p] w fun e w' => e = .returned (.bool true) ∧ Below w.heap.size w w' := by
  have cL := hide (lives_any w hM)
  clear hM
  rcases hl with hl | ⟨hl, hl2⟩
  · have g1 : decide ((100 : Int) < n.size) = true := decide_eq_true (by omega)
    go_enter Try.func5, Try.ntmps5
    go_wp2_with fail
    refine (unhide cL).mono ?_; rintro e w1 ⟨rfl, hb⟩
    go_wp2_with fail
    go_ret
    exact ⟨rfl, hb⟩
  · have g1 : decide ((100 : Int) < n.size) = false := decide_eq_false (by omega)
    have g2 : decide ((100 : Int) < p.size) = true := decide_eq_true (by omega)
    go_enter Try.func5, Try.ntmps5
    go_wp2_with fail
    refine (unhide cL).mono ?_; rintro e w1 ⟨rfl, hb⟩
    go_wp2_with fail
    go_ret
    exact ⟨rfl, hb⟩

/-- the digits so far -/
def digTo (p : ByteArray) (k : Nat) : Bool := decide (p.size ≤ 5) && (p.data.toList.take k).all fun c => digI c.toNat
theorem digTo_next (p : ByteArray) (k : Nat) (h : k < p.size) : digTo p (k + 1) = (digTo p k && digI p[k].toNat) := by
  unfold digTo
  rw [all_take p k h, Bool.and_assoc]
theorem digTo_zero (p : ByteArray) : digTo p 0 = decide ((p.size : Int) ≤ 5) := by
  unfold digTo
  simp
  omega
theorem digTo_all (p : ByteArray) : digTo p p.size = digS p.data.toList := by
  unfold digTo digS
  rw [List.take_of_length_le (by simp)]
  have : p.data.toList.length = p.size := by simp
  rw [this]
/-- does a text begin with a bracket? -/
def brk (n : ByteArray) : Bool := Lib.hasPrefix n.data.toList [91]
theorem brk_at (n : ByteArray) (h : 0 < n.size) : brk n = decide (n[0].toNat = 91) := by
  unfold brk
  have := drop_cons n 0 h
  rw [List.drop_zero] at this
  rw [this]
  show ((91 : UInt8) == n[0] && true) = _
  rw [Bool.and_true, Bool.eq_iff_iff, beq_iff_eq, decide_eq_true_iff]
  constructor
  · intro h; rw [← h]; rfl
  · intro h; exact (UInt8.toNat_inj.1 h).symm
theorem no_colon (n : ByteArray) (k : Nat) (h : k < n.size) (h1 : (58 : UInt8) ∉ n.data.toList.take k) (h2 : n[k].toNat ≠ 58) : (58 : UInt8) ∉ n.data.toList.take (k + 1) := by
  rw [List.take_succ_eq_append_getElem (by simpa using h), List.mem_append]
  rintro (h3 | h3)
  · exact h1 h3
  · rw [List.mem_singleton] at h3
    have : n[k] = 58 := h3.symm
    exact h2 (by rw [this]; rfl)
theorem last_of (n : ByteArray) (h0 : 0 < n.size) (hb : brk n = true) (hl : (n[n.size - 1]'(by omega)).toNat = 93) : ∃ r, n.data.toList = 91 :: (r ++ [93]) := by
  obtain ⟨t, ht⟩ := prefix_pos hb
  have zn : n.data.toList.length = n.size := by simp
  have hlast : n.data.toList[n.size - 1]? = some 93 := by
    have : n.size - 1 < n.data.toList.length := by omega
    rw [List.getElem?_eq_getElem this]
    exact congrArg some (UInt8.toNat_inj.1 hl)
  rw [ht] at hlast zn
  rcases List.eq_nil_or_concat t with rfl | ⟨r, x, rfl⟩
  · have : n.size = 1 := by simpa using zn.symm
    rw [this] at hlast
    cases hlast
  · have hs : n.size - 1 = r.length + 1 := by simp at zn; omega
    rw [hs] at hlast
    simp at hlast
    exact ⟨r, by rw [ht, hlast]; simp⟩

set_option maxRecDepth 100000 in
set_option maxHeartbeats 4000000 in
theorem ho_any (n p : ByteArray) (hn : n.size ≤ 100) (hp : p.size ≤ 100) (w : World) (hM : MaxV w) :
    Calls Try.prog 5 #[.string n, .string p] w fun e w' => e = .returned (.bool true) ∧ Below w.heap.size w w' := by
  have cL := hide (lives_any w hM)
  clear hM
  have g1 : decide ((100 : Int) < n.size) = false := decide_eq_false (by omega)
  have g2 : decide ((100 : Int) < p.size) = false := decide_eq_false (by omega)
  go_enter Try.func5, Try.ntmps5
  go_wp2_with fail
  refine (unhide cL).mono ?_; rintro e w1 ⟨rfl, hb⟩
  clear cL
  go_wp2_with fail
  clear g1 g2
  go_loop [5] (fun i => ∃ k : Nat, k ≤ n.size ∧ i = .int .i64 k ∧ (brk n = false → (58 : UInt8) ∉ n.data.toList.take k)) (fun i => n.size - (intOf i).toNat)
  case atStart => exact ⟨0, Nat.zero_le _, rfl, fun _ => by simp⟩
  case round =>
    obtain ⟨k, hk, rfl, hno⟩ := hrel
    have HNo := hide hno
    clear hno
    by_cases hlt : k < n.size
    · have h0 : 0 < n.size := by omega
      have hbk := brk_at n h0
      by_cases h58 : n[k].toNat = 58
      · have h58' : ((n[k].toNat : Int) == 58) = true := by rw [h58]; rfl
        clear h58
        by_cases h91 : n[0].toNat = 91
        · have h91' : ((n[0].toNat : Int) != 91) = false := by rw [h91]; rfl
          have hbt : brk n = true := by rw [hbk, decide_eq_true h91]
          clear h91 hbk
          go_wp2_with fail
          go_round
          case rel => exact ⟨k + 1, by omega, by go_num, fun h => by rw [hbt] at h; cases h⟩
          case measure => simp [intOf]; omega
        · have h91' : ((n[0].toNat : Int) != 91) = true := by rw [bne_iff_ne]; omega
          clear h91 hbk
          go_wp2_with fail
          go_ret
          exact ⟨rfl, hb⟩
      · have h58' : ((n[k].toNat : Int) == 58) = false := by rw [beq_eq_false_iff_ne]; omega
        go_wp2_with fail
        go_round
        case rel => exact ⟨k + 1, by omega, by go_num, fun h => no_colon n k hlt (unhide HNo h) h58⟩
        case measure => simp [intOf]; omega
    · have hke : k = n.size := by omega
      subst hke
      have hno : brk n = false → (58 : UInt8) ∉ n.data.toList := fun h => by
        have := unhide HNo h
        rwa [List.take_of_length_le (by simp)] at this
      replace HNo := hide hno
      clear hno hlt hk
      have HZ := Lib.hid (digTo_zero p)
      go_wp2_with fail
      go_loop [6, 7] (fun d i => ∃ k : Nat, k ≤ p.size ∧ i = .int .i64 k ∧ d = .bool (digTo p k)) (fun _ i => p.size - (intOf i).toNat)
      case atStart => exact ⟨0, Nat.zero_le _, rfl, by rw [HZ.out]⟩
      case round =>
        obtain ⟨k, hk, rfl, rfl⟩ := hrel
        by_cases hlt : k < p.size
        · have HN := Lib.hid (digTo_next p k hlt)
          cases hd : digTo p k
          · go_wp2_with fail
            go_round
            case rel => exact ⟨k + 1, by omega, by go_num, by rw [HN.out, hd]; rfl⟩
            case measure => simp [intOf]; omega
          · go_wp2_with fail
            all_goals go_round
            all_goals try (case measure => simp [intOf]; omega)
            all_goals refine ⟨k + 1, by omega, by go_num, ?_⟩
            all_goals rw [HN.out, hd, Bool.true_and]
            all_goals refine congrArg Value.bool ?_
            all_goals (unfold digI; (first | (with_reducible refine dec_t ?_; omega) | (with_reducible refine dec_f ?_; omega) | (with_reducible refine dec_d ?_; omega) | (with_reducible refine dec_e ?_; omega) | (with_reducible refine dec_n ?_; omega) | (with_reducible refine dec_nd ?_; omega)))
        · have hke : k = p.size := by omega
          subst hke
          have cB := hide (fun w => host_any n (by omega) w)
          have HD := Lib.hid (digTo_all p)
          obtain ⟨b, hbv⟩ : ∃ b, b = (portS n.data.toList).2 := ⟨_, rfl⟩
          obtain ⟨d, hdv⟩ : ∃ d, d = digS p.data.toList := ⟨_, rfl⟩
          have HBV := Lib.hid hbv
          rw [← hbv] at cB
          have hdt : digTo p p.size = d := by rw [HD.out, hdv]
          have HDV := Lib.hid hdv
          clear HD HZ hbv hdv hlt hk
          go_wp2_with fail
          refine (unhide cB _).mono ?_; rintro e w' ⟨rfl, rfl⟩
          clear hdt
          obtain ⟨lo, hlo⟩ := of_list (lower n.data.toList)
          have los : lo.size ≤ 9223372036854775807 := by
            have z := size_list hlo
            rw [lower_len] at z
            have : n.data.toList.length = n.size := by simp
            omega
          have cR := hide (fun w => rlower_any n (by omega) w)
          rw [← ba_eq hlo] at cR
          have cO := hide (fun w => host_any lo los w)
          rw [hlo, port_low, ← HBV.out] at cO
          have ex : ((n ++ ⟨#[58]⟩) ++ p : ByteArray).data.toList = n.data.toList ++ 58 :: p.data.toList := by rw [app_data, app_data, List.append_assoc]; rfl
          have exs : ((n ++ ⟨#[58]⟩) ++ p : ByteArray).size ≤ 9223372036854775807 := by
            rw [size_list ex, List.length_append, List.length_cons]
            have : n.data.toList.length = n.size := by simp
            have : p.data.toList.length = p.size := by simp
            omega
          have cN := hide (fun w => host_any ((n ++ ⟨#[58]⟩) ++ p) exs w)
          rw [ex] at cN
          clear hlo ex exs los
          have hfin : brk n = false ∨ (∃ r, n.data.toList = 91 :: (r ++ [93])) → (portS (n.data.toList ++ 58 :: p.data.toList)).2 = (b && d) := by
            rintro (h | ⟨r, hr⟩)
            · rw [hosts_a (unhide HNo h) h, HBV.out, HDV.out]
            · rw [HBV.out, HDV.out, hr]; exact hosts_b
          have HF := hide hfin
          clear hfin HNo HBV HDV
          rcases empty_case n with ⟨e1, e2⟩ | ⟨e1, e2⟩
          · have hx := unhide HF (.inl (by unfold brk; rw [e2]; rfl))
            rw [hx] at cN
            clear hx e2 HF
            cases b <;> cases d
            all_goals
              go_wp2_with fail
              refine (unhide cN _).mono ?_; rintro e w' ⟨rfl, rfl⟩
              go_wp2_with fail
              refine (unhide cR _).mono ?_; rintro e w5 ⟨rfl, hb5⟩
              go_wp2_with fail
              refine (unhide cO _).mono ?_; rintro e w' ⟨rfl, rfl⟩
              go_wp2_with fail
              go_ret
              exact ⟨rfl, hb.trans (hb5.mono hb.size)⟩
          · have h0 : 0 < n.size := by
              have : n.data.toList.length = n.size := by simp
              rw [← this]
              cases hl : n.data.toList with
              | nil => exact absurd hl e2
              | cons c t => simp
            have hbk := brk_at n h0
            clear e2
            by_cases h91 : n[0].toNat = 91
            · have h91' : ((n[0].toNat : Int) == 91) = true := by rw [h91]; rfl
              have hbt : brk n = true := by rw [hbk, decide_eq_true h91]
              have hz : n.size - 1 < n.size := by omega
              by_cases h93 : (n[n.size - 1]'hz).toNat = 93
              · have h93' : (((n[n.size - 1]'hz).toNat : Int) != 93) = false := by rw [h93]; rfl
                have hx := unhide HF (.inr (last_of n h0 hbt h93))
                rw [hx] at cN
                clear hx HF hbk h91 h93 hbt
                cases b <;> cases d
                all_goals
                  go_wp2_with fail
                  refine (unhide cN _).mono ?_; rintro e w' ⟨rfl, rfl⟩
                  go_wp2_with fail
                  refine (unhide cR _).mono ?_; rintro e w5 ⟨rfl, hb5⟩
                  go_wp2_with fail
                  refine (unhide cO _).mono ?_; rintro e w' ⟨rfl, rfl⟩
                  go_wp2_with fail
                  go_ret
                  exact ⟨rfl, hb.trans (hb5.mono hb.size)⟩
              · have h93' : (((n[n.size - 1]'hz).toNat : Int) != 93) = true := by rw [bne_iff_ne]; omega
                clear HF hbk h91 h93 hbt
                go_wp2_with fail
                go_ret
                exact ⟨rfl, hb⟩
            · have h91' : ((n[0].toNat : Int) == 91) = false := by rw [beq_eq_false_iff_ne]; omega
              have hx := unhide HF (.inl (by rw [hbk]; exact decide_eq_false h91))
              rw [hx] at cN
              clear hx HF hbk h91
              cases b <;> cases d
              all_goals
                go_wp2_with fail
                refine (unhide cN _).mono ?_; rintro e w' ⟨rfl, rfl⟩
                go_wp2_with fail
                refine (unhide cR _).mono ?_; rintro e w5 ⟨rfl, hb5⟩
                go_wp2_with fail
                refine (unhide cO _).mono ?_; rintro e w' ⟨rfl, rfl⟩
                go_wp2_with fail
                go_ret
                exact ⟨rfl, hb.trans (hb5.mono hb.size)⟩
end Go.Proofs.Ytfkobhagdjaleaa.Sp
