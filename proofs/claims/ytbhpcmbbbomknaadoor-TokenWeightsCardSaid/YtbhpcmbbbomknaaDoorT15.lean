/- The reference's Digit, WeightText; kit.Float. -/
import Derived.Test.YtbhpcmbbbomknaaDoorT10
import Derived.Test.YtbhpcmbbbomknaaDoorT4
import Derived.Laws.Externs
namespace Go.Proofs.YtbhpcmbbbomknaaDoor.Sp
open Go.RowKit Sl

def digI (c : Int) : Bool := decide (48 ≤ c ∧ c ≤ 57)
theorem digI_B (c : UInt8) : digI c.toNat = digB c := by
  have := byte_all (fun c => digI c.toNat == digB c) (by decide +kernel) c
  simpa using this
theorem rdigit_any (c : Int) (w : World) : Calls Tryd.prog 23 #[.int .u8 c] w fun e w' => e = .returned (.bool (digI c)) ∧ w = w' := by
  go_enter Tryd.func23, Tryd.ntmps23
  go_wp2
  all_goals go_ret
  all_goals exact ⟨ret_bool (by unfold digI; (first | (with_reducible refine dec_t ?_; omega) | (with_reducible refine dec_f ?_; omega) | (with_reducible refine dec_d ?_; omega) | (with_reducible refine dec_e ?_; omega) | (with_reducible refine dec_n ?_; omega) | (with_reducible refine dec_nd ?_; omega))), rfl⟩

theorem bits_run (b : Nat) (w : World) : (callFunc 24 #[.float .f64 b]).run Tryd.prog w = .ok (.value (.int .u64 (b : Int))) w := by
  rw [run_callFunc_extern (e := Extern.MathFloatBits.float64bits) Tryd.func24 (by kernel_rfl) (by kernel_rfl) (by kernel_rfl) (by kernel_rfl)]
  rfl
set_option maxRecDepth 100000 in
theorem float_same (b : Nat) (h : FloatKind.f64.format.order b b = some .eq) (w : World) :
    Calls Tryd.prog 12 #[.float .f64 b, .float .f64 b] w fun e w' => e = .returned (.bool true) ∧ w = w' := by
  have hb := fun w => bits_run b w
  go_enter Tryd.func12, Tryd.ntmps12
  go_wp2_with fail
  go_ret
  exact ⟨rfl, rfl⟩

theorem fB_eq : ((List.range 1001).all fun k => FloatKind.f64.format.order (fB k) (fB k) == some .eq) = true := by decide +kernel
theorem fB_self (k : Nat) (h : k ≤ 1000) : FloatKind.f64.format.order (fB k) (fB k) = some .eq := by
  have h1 := fB_eq
  rw [List.all_eq_true] at h1
  have h2 := h1 k (List.mem_range.2 (by omega))
  rwa [beq_iff_eq] at h2

/-! ### WeightText -/
theorem right_go (l : List UInt8) (n : Nat) (h : n < l.length) (hc : l[n] = 48) : Lib.trimRightS (l.take (n + 1)) [48] = Lib.trimRightS (l.take n) [48] := by
  rw [List.take_succ_eq_append_getElem h, hc]
  unfold Lib.trimRightS
  rw [List.reverse_append]
  show (List.dropWhile _ (48 :: (l.take n).reverse)).reverse = _
  rw [List.dropWhile_cons_of_pos (by decide)]
theorem right_halt (l : List UInt8) (n : Nat) (h : n < l.length) (hc : l[n] ≠ 48) : Lib.trimRightS (l.take (n + 1)) [48] = l.take (n + 1) := by
  have e := List.take_succ_eq_append_getElem h
  rw [e]
  unfold Lib.trimRightS
  rw [List.reverse_append]
  show (List.dropWhile _ (l[n] :: (l.take n).reverse)).reverse = _
  rw [List.dropWhile_cons_of_neg (by simp; exact hc)]
  simp
theorem trim_point (l : List UInt8) : Lib.trimRightS ([48, 46] ++ l) [48] = [48, 46] ++ Lib.trimRightS l [48] := by
  unfold Lib.trimRightS
  rw [List.reverse_append, List.dropWhile_append]
  have e : (List.dropWhile (fun x => [(48 : UInt8)].contains x) [48, 46].reverse) = [46, 48] := by decide
  rw [e]
  split
  · rename_i h
    have h0 : List.dropWhile (fun x => [(48 : UInt8)].contains x) l.reverse = [] := by simpa using h
    rw [h0]; rfl
  · rw [List.reverse_append]; rfl
def sliceLen : Value → Nat
  | .slice _ n _ => n
  | _ => 0
/-- the five bytes -/
def fiveL (k : Nat) : List UInt8 := [48, 46] ++ dig3 k
theorem five_text (k : Nat) (h0 : 0 < k) (h : k < 1000) : Lib.trimRightS (fiveL k) [48] = kText k := by
  rw [kText_mid k h0 h]
  exact trim_point _
theorem wrap_u8 (n : Int) (h : 0 ≤ n ∧ n < 256) : IntKind.u8.wrap n = n := by
  rw [IntKind.wrap_u8]; omega

set_option maxRecDepth 100000 in
set_option maxHeartbeats 4000000 in
theorem rweightText_any (q : Nat) (w : World) :
    Calls Tryd.prog 14 #[.float .f64 q] w fun e w' => e = .returned (.string (ofL (wtS q))) ∧ Below w.heap.size w w' := by
  cases hin : inF q
  · have hr := hide (wtS_out hin)
    unfold inF geF leF at hin
    rcases order_cases q 0 with h1 | h1 | h1 | h1 <;> rcases order_cases q 4607182418800017408 with h2 | h2 | h2 | h2 <;> rw [h1, h2] at hin <;> first | (exfalso; revert hin; decide) | skip
    all_goals
      clear hin
      go_enter Tryd.func14, Tryd.ntmps14
      go_wp2_with fail
      go_ret
      exact ⟨by rw [unhide hr] <;> rfl, Below.refl _ _⟩
  · have hr := Lib.hid (wtS_in hin)
    unfold inF geF leF at hin
    rcases order_cases q 0 with h1 | h1 | h1 | h1 <;> rcases order_cases q 4607182418800017408 with h2 | h2 | h2 | h2 <;> rw [h1, h2] at hin <;> first | (exfalso; revert hin; decide) | skip
    all_goals
      clear hin
      go_enter Tryd.func14, Tryd.ntmps14
      go_wp2_with fail
      clear h1 h2
      go_loop [3] (fun n => ∃ k : Nat, k ≤ 1000 ∧ n = .int .i64 k ∧ kOf q = kFrom q (1000 - k) k) (fun n => 1000 - (intOf n).toNat)
      case atStart => exact ⟨0, by omega, rfl, rfl⟩
      case round =>
        obtain ⟨k, hk, rfl, hko⟩ := hrel
        have HK := Lib.hid hko
        clear hko
        rcases Nat.lt_or_ge k 1000 with hlt | hge
        · have hdiv : ∀ w, (binOp .quo 31 (.float .f64 (floatOfInt .f64 ((k : Int) + 1))) (.float .f64 4652007308841189376)).run Tryd.prog w = .ok (.float .f64 (fB (k + 1))) w := by
            intro w
            have := fdiv_run (k + 1) (by omega) w
            rwa [show ((k + 1 : Nat) : Int) = (k : Int) + 1 by omega] at this
          have hkb : decide ((k : Int) < 1000) = true := by simp; omega
          cases hle : leF (fB (k + 1)) q
          · have hko := kFrom_no hlt hle
            rw [← HK.out] at hko
            have HR := Lib.hid hko
            clear hko HK
            unfold leF at hle
            have ht : ((k : Int) == 1000) = false := by rw [beq_eq_false_iff_ne]; omega
            rcases Nat.eq_zero_or_pos k with h0 | h0
            · have hres : (⟨#[48]⟩ : ByteArray) = ofL (wtS q) := by rw [hr.out, HR.out, h0]; rfl
              have HRES := Lib.hid hres
              have hz : ((k : Int) == 0) = true := by rw [beq_iff_eq]; omega
              clear hres h0
              rcases order_cases (fB (k + 1)) q with h3 | h3 | h3 | h3 <;> rw [h3] at hle <;> first | (exfalso; revert hle; decide) | skip
              all_goals
                clear hle
                go_wp2_with fail
                go_ret
                exact ⟨by rw [HRES.out] <;> rfl, Below.refl _ _⟩
            · have hz : ((k : Int) == 0) = false := by rw [beq_eq_false_iff_ne]; omega
              have hres : ofL (wtS q) = ofL (Lib.trimRightS (fiveL k) [48]) := by rw [hr.out, HR.out, five_text k h0 hlt]
              have HRES := Lib.hid hres
              obtain ⟨a, ha⟩ : ∃ a, k / 100 = a := ⟨_, rfl⟩
              obtain ⟨b, hb⟩ : ∃ b, k / 10 = b := ⟨_, rfl⟩
              obtain ⟨d, hd⟩ : ∃ d, k / 10 % 10 = d := ⟨_, rfl⟩
              obtain ⟨e, he⟩ : ∃ e, k % 10 = e := ⟨_, rfl⟩
              have t1 : Int.tdiv (k : Int) 100 = (a : Int) := by rw [Int.tdiv_eq_ediv_of_nonneg (by omega)]; omega
              have t2 : Int.tdiv (k : Int) 10 = (b : Int) := by rw [Int.tdiv_eq_ediv_of_nonneg (by omega)]; omega
              have t3 : Int.tmod (b : Int) 10 = (d : Int) := by rw [Int.tmod_eq_emod_of_nonneg (by omega)]; omega
              have t4 : Int.tmod (k : Int) 10 = (e : Int) := by rw [Int.tmod_eq_emod_of_nonneg (by omega)]; omega
              have ba : a < 10 := by omega
              have bd : d < 10 := by omega
              have be : e < 10 := by omega
              have bb : b < 100 := by omega
              have hfive : Mem.bytesV (fiveL k) = [.int .u8 48, .int .u8 46, .int .u8 (48 + (a : Int)), .int .u8 (48 + (d : Int)), .int .u8 (48 + (e : Int))] := by
                unfold fiveL dig3 Mem.bytesV
                rw [ha, hd, he]
                simp [Nat.mod_eq_of_lt (show 48 + a < 256 by omega), Nat.mod_eq_of_lt (show 48 + d < 256 by omega), Nat.mod_eq_of_lt (show 48 + e < 256 by omega)]
              have HFIVE := Lib.hid hfive
              have v1 := wrap_u8 (48 + (a : Int)) (by omega)
              have v2 := wrap_u8 (48 + (d : Int)) (by omega)
              have v3 := wrap_u8 (48 + (e : Int)) (by omega)
              clear hres ha hb hd he hfive
              rcases order_cases (fB (k + 1)) q with h3 | h3 | h3 | h3 <;> rw [h3] at hle <;> first | (exfalso; revert hle; decide) | skip
              all_goals
                clear hle
                go_wp2_with fail
                have HH := Reg.Has.new w (Mem.bytesV (fiveL k)) 5
                have HB := hide ((Below.refl w.heap.size w).alloc (Nat.le_refl _) (.cells (Mem.bytesV (fiveL k)).toArray 5))
                rw [HFIVE.out] at HH HB
                simp only [List.toArray] at HH HB
                generalize w.alloc _ = w2 at HH HB ⊢
                rw [← HFIVE.out] at HH
                have HHH := hide HH
                clear HH
                generalize w.heap.size = g at HHH ⊢
                go_loop [4] (fun v => ∃ (m c : Nat), v = .slice (some ⟨g, 0, none⟩) (m + 1) c ∧ m + 1 ≤ c ∧ 1 ≤ m ∧ m < 5 ∧ Lib.trimRightS ((fiveL k).take (m + 1)) [48] = Lib.trimRightS (fiveL k) [48]) (fun v => sliceLen v)
                case atStart => exact ⟨4, 5, rfl, by omega, by omega, by omega, rfl⟩
                case round =>
                  obtain ⟨m, c, rfl, hmc, hm1, hm5, htr⟩ := hrel
                  have HT := Lib.hid htr
                  have hml : m < (fiveL k).length := hm5
                  have c0 := (unhide HHH).cell m _ (Mem.bytesV_get _ m hml)
                  have zg := (unhide HHH).lt
                  clear htr
                  by_cases h48 : (fiveL k)[m] = 48
                  · have hs := Lib.hid ((right_go (fiveL k) m hml h48).symm.trans HT.out)
                    have hm2 : 2 ≤ m := by
                      rcases Nat.lt_or_ge m 2 with h | h
                      · exfalso
                        have : m = 1 := by omega
                        subst this
                        revert h48
                        show (46 : UInt8) = 48 → False
                        decide
                      · exact h
                    rw [h48] at c0
                    clear h48
                    go_wp2_with fail
                    go_round
                    case rel => exact ⟨m - 1, c, by go_num, by omega, by omega, by omega, by rw [show m - 1 + 1 = m by omega]; exact hs.out⟩
                    case measure => simp [sliceLen]
                  · have hs := Lib.hid ((right_halt (fiveL k) m hml h48).symm.trans HT.out)
                    have hb : (((fiveL k)[m].toNat : Int) == 48) = false := by
                      rw [beq_eq_false_iff_ne]
                      intro h
                      exact h48 (u8_eq h)
                    have HP : Reg.Has w2 g (Mem.bytesV ((fiveL k).take (m + 1))) := by
                      have h := unhide HHH
                      refine ⟨fun i v hv => h.cell i v ?_, fun i hi => h.free i ?_, h.lt⟩
                      · unfold Mem.bytesV at hv ⊢
                        rw [List.map_take, List.getElem?_take] at hv
                        split at hv
                        · exact hv
                        · cases hv
                      · rw [Mem.bytesV_len] at hi ⊢
                        rw [List.length_take] at hi
                        omega
                    have HPP := hide HP
                    have hln : ((fiveL k).take (m + 1)).length = m + 1 := by rw [List.length_take]; omega
                    have hfin : (⟨((fiveL k).take (m + 1)).toArray⟩ : ByteArray) = ofL (wtS q) := by rw [HRES.out, ← hs.out]; rfl
                    have HFIN := Lib.hid hfin
                    clear HP hfin
                    go_wp2_with (refine Mem.wpList_text rfl 29 9 5 _ rfl g _ _ ((fiveL k).take (m + 1)) rfl Tryd.underlying29 Tryd.underlying9 Tryd.underlying5 hln (unhide HPP) ?_)
                    go_ret
                    exact ⟨by rw [HFIN.out] <;> rfl, unhide HB⟩
          · have hko := kFrom_yes hlt hle
            rw [← HK.out] at hko
            have HR := Lib.hid hko
            clear hko HK
            unfold leF at hle
            rcases order_cases (fB (k + 1)) q with h3 | h3 | h3 | h3 <;> rw [h3] at hle <;> first | (exfalso; revert hle; decide) | skip
            all_goals
              clear hle
              go_wp2_with fail
              go_round
              case rel => exact ⟨k + 1, by omega, by go_num, HR.out⟩
              case measure => simp [intOf]; omega
        · have hke : k = 1000 := by omega
          have hres : (⟨#[49]⟩ : ByteArray) = ofL (wtS q) := by rw [hr.out, HK.out, kFrom_end hge, hke]; rfl
          have HRES := Lib.hid hres
          have ht : ((k : Int) == 1000) = true := by rw [beq_iff_eq]; omega
          have hkb : decide ((k : Int) < 1000) = false := by simp; omega
          clear hres hke
          go_wp2_with fail
          go_ret
          exact ⟨by rw [HRES.out] <;> rfl, Below.refl _ _⟩
end Go.Proofs.YtbhpcmbbbomknaaDoor.Sp
