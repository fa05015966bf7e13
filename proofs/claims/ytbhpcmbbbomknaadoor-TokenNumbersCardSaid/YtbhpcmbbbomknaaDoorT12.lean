/- The walk of the law TokenNumbers. -/
import Derived.Test.YtbhpcmbbbomknaaDoorT2
import Derived.Test.YtbhpcmbbbomknaaDoorT7
import Derived.Test.YtbhpcmbbbomknaaDoorT9
import Derived.Test.YtbhpcmbbbomknaaDoorT11
import Derived.Test.YtbhpcmbbbomknaaDoorReg3
namespace Go.Proofs.YtbhpcmbbbomknaaDoor.Sp
open Go.RowKit Sl

theorem ins_data (S : ByteArray) (k : Nat) (c : UInt8) : ((S.extract 0 k ++ ⟨#[c]⟩) ++ S.extract k S.size).data.toList = S.data.toList.take k ++ [c] ++ S.data.toList.drop k := by
  rw [app_data, app_data, Lib.extract_to_end, Lib.extract_data]
  rfl

set_option maxRecDepth 100000 in
set_option maxHeartbeats 4000000 in
theorem numbers_any (n zs pl : Int) (c : UInt8) (hn : -9223372036854775808 ≤ n ∧ n ≤ 9223372036854775807) (w : World) (ht : Pow10 w) (hE : RangeV w) :
    Calls Tryd.prog 3 #[.int .i64 n, .int .i64 zs, .int .i64 pl, .int .u8 c.toNat] w fun e w' => e = .returned (.bool true) ∧ Below w.heap.size w w' := by
  have c0 := hide (lives_any w ht)
  rcases Int.lt_or_le n 0 with hneg | hpos
  · have hb : decide (n < 0) = true := by simpa using hneg
    clear ht hE hn hneg
    go_enter Tryd.func3, Tryd.ntmps3
    go_wp2_with fail
    refine (unhide c0).mono ?_; rintro e w1 ⟨rfl, hb1⟩
    go_wp2_with fail
    go_ret
    exact ⟨rfl, hb1⟩
  · obtain ⟨N, rfl⟩ : ∃ N : Nat, n = (N : Int) := ⟨n.toNat, by omega⟩
    have hb : decide ((N : Int) < 0) = false := by simp
    have hNm : N ≤ 9223372036854775807 := by omega
    have hpk := pick_bd zs 30 (by omega)
    obtain ⟨z, hz⟩ : ∃ z : Nat, pick zs 30 = (z : Int) := ⟨(pick zs 30).toNat, by omega⟩
    have hz30 : z < 30 := by omega
    have cp := hide (fun w => pick_any zs 30 w (by omega))
    rw [hz] at cp
    have ct := hide (fun w => times_any 48 z (by omega) w)
    have cd := hide (fun w => digits_nat N N (Nat.le_refl _) hNm w)
    obtain ⟨A, hA⟩ : ∃ A, ofL (List.replicate z 48) = A := ⟨_, rfl⟩
    obtain ⟨D, hD⟩ : ∃ D, decB N = D := ⟨_, rfl⟩
    have zD := decB_20 N (by omega)
    have hSd : (A ++ D).data.toList = List.replicate z 48 ++ Lib.decDigits N := by rw [app_data, ← hA, ← hD]; rfl
    rw [hA] at ct
    rw [hD] at cd zD
    have zA : A.size = z := by rw [← hA]; show (List.replicate z (48 : UInt8)).toArray.size = z; simp
    obtain ⟨S, hS⟩ : ∃ S, A ++ D = S := ⟨_, rfl⟩
    rw [hS] at hSd
    have zS : S.size ≤ 60 := by rw [← hS, ByteArray.size_append]; omega
    have hlaw := num_law z N
    rw [← hSd] at hlaw
    have cn := hide (fun w hE => number_any S (by omega) w hE)
    have hat := pick_bd pl ((S.size : Int) + 1) (by omega)
    obtain ⟨k, hk⟩ : ∃ k : Nat, pick pl ((S.size : Int) + 1) = (k : Int) := ⟨(pick pl ((S.size : Int) + 1)).toNat, by omega⟩
    have hkS : k ≤ S.size := by omega
    have ca := hide (fun w => pick_any pl ((S.size : Int) + 1) w (by omega))
    rw [hk] at ca
    have hins := ins_data S k c
    obtain ⟨X, hX⟩ : ∃ X, S.extract 0 k = X := ⟨_, rfl⟩
    obtain ⟨Y, hY⟩ : ∃ Y, S.extract k S.size = Y := ⟨_, rfl⟩
    rw [hX, hY] at hins
    obtain ⟨XC, hXC⟩ : ∃ XC, X ++ ⟨#[c]⟩ = XC := ⟨_, rfl⟩
    obtain ⟨R, hR⟩ : ∃ R, XC ++ Y = R := ⟨_, rfl⟩
    have zX : X.size ≤ 60 := by rw [← hX, ByteArray.size_extract]; omega
    have zY : Y.size ≤ 60 := by rw [← hY, ByteArray.size_extract]; omega
    have zC : (⟨#[c]⟩ : ByteArray).size = 1 := rfl
    have zXC : XC.size ≤ 61 := by rw [← hXC, ByteArray.size_append]; omega
    have zR : R.size ≤ 200 := by rw [← hR, ByteArray.size_append]; omega
    rw [hXC, hR] at hins
    have hlast : digB c = true ∨ numS R.data.toList = (0, 4) := by
      cases hc : digB c
      · exact .inr (by rw [hins]; exact num_mid _ _ c hc)
      · exact .inl rfl
    have cr := hide (fun w hE => number_any R (by omega) w hE)
    have HT := hide ht
    have HE := hide hE
    have HLAST := Lib.hid hlast
    clear hlast ht hE hn hpos hpk hz hat hk hA hD hSd hins
    rcases Nat.lt_or_ge 9007199254740991 N with hbig | hsm
    · rw [if_neg (by omega)] at hlaw
      rw [hlaw] at cn
      have hgt : decide ((9007199254740991 : Int) < (N : Int)) = true := by simp; omega
      have hle : decide ((N : Int) ≤ 9007199254740991) = false := by simp; omega
      clear hbig hlaw
      go_enter Tryd.func3, Tryd.ntmps3
      go_wp2_with fail
      refine (unhide c0).mono ?_; rintro e w1 ⟨rfl, hb1⟩
      have HB1 := hide hb1
      clear hb1
      go_upto_region 9 with (first
        | (go_at_call 7; refine (unhide cp _).mono ?_; rintro e w' ⟨rfl, rfl⟩)
        | (go_at_call 6; refine (unhide ct _).mono ?_; rintro e w' ⟨rfl, rfl⟩)
        | (go_at_call 8; refine (unhide cd _).mono ?_; rintro e w' ⟨rfl, rfl⟩)
        | (go_at_call 9; refine (unhide cn _ ((unhide HE).below (unhide HB1))).mono ?_; rintro e w2 ⟨rfl, hb2⟩; have HB2 := hide ((unhide HB1).trans (hb2.mono (unhide HB1).size)); clear hb2))
      go_upto_region 10 with (go_at_call 7; refine (unhide ca _).mono ?_; rintro e w' ⟨rfl, rfl⟩)
      have BW := hide (Below.drew (Below.refl w2.heap.size w2))
      refine Reg.region_mix [0, 1, 2, 3, 7, 8, 9, 4, 5, 6, 10, 11, 12, 13, 14, 15, 16] (by kernel_rfl) (by kernel_rfl) (by kernel_rfl) (by decide) (by intro c a d v w h; cases d <;> exact h) ?_
      simp only [Reg.pickL, List.getElem?_cons_zero, List.getElem?_cons_succ]
      refine Reg.mix_take 7 (by kernel_rfl) ?_
      simp only [List.take_succ_cons, List.take_zero, List.drop_succ_cons, List.drop_zero]
      repeat (go_big_quiet_step (fail))
      refine wpQuiet_nil ?_
      generalize w2.drew = w3 at BW ⊢
      have HN := hide (Reg.Has.new w3 [.int .u8 c.toNat] 5)
      have BA := hide ((unhide BW).alloc (unhide BW).size (.cells #[.int .u8 c.toNat] 5))
      refine Reg.mix_one (by kernel_rfl) ?_
      go_wp2_with (fail)
      refine ⟨rfl, ⟨⟨_, unhide BA⟩, rfl⟩, ?_⟩
      generalize w3.alloc (.cells #[.int .u8 c.toNat] 5) = w4 at HN BA ⊢
      generalize w3.heap.size = g at HN ⊢
      refine Reg.mix_one (by kernel_rfl) ?_
      go_wp2_with ((refine Mem.wpList_text rfl 29 9 5 _ rfl g 1 1 [c] rfl Tryd.underlying29 Tryd.underlying9 Tryd.underlying5 rfl (unhide HN) ?_))
      refine ⟨rfl, ⟨⟨_, unhide BA⟩, rfl⟩, ?_⟩
      refine Reg.mix_take 2 (by kernel_rfl) ?_
      simp only [List.take_succ_cons, List.take_zero, List.drop_succ_cons, List.drop_zero]
      repeat (go_big_quiet_step (fail))
      refine wpQuiet_nil ?_
      refine Reg.mix_one (by kernel_rfl) ?_
      go_wp2_with ((go_at_call 9; refine (unhide cr _ ((unhide HE).below ((unhide HB2).trans ((unhide BA).mono (unhide HB2).size)))).mono ?_; rintro e w5 ⟨rfl, hb5⟩; have BF := hide ((unhide BA).trans (hb5.mono (unhide BA).size)); clear hb5))
      refine ⟨rfl, ⟨⟨_, unhide BF⟩, rfl⟩, ?_⟩
      refine Reg.mix_take 5 (by kernel_rfl) ?_
      simp only [List.take_succ_cons, List.take_zero, List.drop_succ_cons, List.drop_zero]
      repeat (go_big_quiet_step (fail))
      refine wpQuiet_nil ?_
      refine Reg.mix_nil ?_
      have HF := hide ((unhide HB2).trans ((unhide BF).mono (unhide HB2).size))
      rcases HLAST.out with hl | hl
      · have h1 := digB_t hl
        have g1 : decide ((48 : Int) ≤ (c.toNat : Int)) = true := by simp; omega
        have g2 : decide ((c.toNat : Int) ≤ 57) = true := by simp; omega
        clear hl h1
        go_wp2_with fail
        go_ret
        exact ⟨rfl, unhide HF⟩
      · rw [hl]
        go_wp2_with fail
        all_goals
          go_ret
          exact ⟨rfl, unhide HF⟩
    · rw [if_pos (by omega)] at hlaw
      rw [hlaw] at cn
      have hgt : decide ((9007199254740991 : Int) < (N : Int)) = false := by simp; omega
      have hle : decide ((N : Int) ≤ 9007199254740991) = true := by simp; omega
      clear hsm hlaw
      go_enter Tryd.func3, Tryd.ntmps3
      go_wp2_with fail
      refine (unhide c0).mono ?_; rintro e w1 ⟨rfl, hb1⟩
      have HB1 := hide hb1
      clear hb1
      go_upto_region 9 with (first
        | (go_at_call 7; refine (unhide cp _).mono ?_; rintro e w' ⟨rfl, rfl⟩)
        | (go_at_call 6; refine (unhide ct _).mono ?_; rintro e w' ⟨rfl, rfl⟩)
        | (go_at_call 8; refine (unhide cd _).mono ?_; rintro e w' ⟨rfl, rfl⟩)
        | (go_at_call 9; refine (unhide cn _ ((unhide HE).below (unhide HB1))).mono ?_; rintro e w2 ⟨rfl, hb2⟩; have HB2 := hide ((unhide HB1).trans (hb2.mono (unhide HB1).size)); clear hb2))
      go_upto_region 10 with (go_at_call 7; refine (unhide ca _).mono ?_; rintro e w' ⟨rfl, rfl⟩)
      have BW := hide (Below.drew (Below.refl w2.heap.size w2))
      refine Reg.region_mix [0, 1, 2, 3, 7, 8, 9, 4, 5, 6, 10, 11, 12, 13, 14, 15, 16] (by kernel_rfl) (by kernel_rfl) (by kernel_rfl) (by decide) (by intro c a d v w h; cases d <;> exact h) ?_
      simp only [Reg.pickL, List.getElem?_cons_zero, List.getElem?_cons_succ]
      refine Reg.mix_take 7 (by kernel_rfl) ?_
      simp only [List.take_succ_cons, List.take_zero, List.drop_succ_cons, List.drop_zero]
      repeat (go_big_quiet_step (fail))
      refine wpQuiet_nil ?_
      generalize w2.drew = w3 at BW ⊢
      have HN := hide (Reg.Has.new w3 [.int .u8 c.toNat] 5)
      have BA := hide ((unhide BW).alloc (unhide BW).size (.cells #[.int .u8 c.toNat] 5))
      refine Reg.mix_one (by kernel_rfl) ?_
      go_wp2_with (fail)
      refine ⟨rfl, ⟨⟨_, unhide BA⟩, rfl⟩, ?_⟩
      generalize w3.alloc (.cells #[.int .u8 c.toNat] 5) = w4 at HN BA ⊢
      generalize w3.heap.size = g at HN ⊢
      refine Reg.mix_one (by kernel_rfl) ?_
      go_wp2_with ((refine Mem.wpList_text rfl 29 9 5 _ rfl g 1 1 [c] rfl Tryd.underlying29 Tryd.underlying9 Tryd.underlying5 rfl (unhide HN) ?_))
      refine ⟨rfl, ⟨⟨_, unhide BA⟩, rfl⟩, ?_⟩
      refine Reg.mix_take 2 (by kernel_rfl) ?_
      simp only [List.take_succ_cons, List.take_zero, List.drop_succ_cons, List.drop_zero]
      repeat (go_big_quiet_step (fail))
      refine wpQuiet_nil ?_
      refine Reg.mix_one (by kernel_rfl) ?_
      go_wp2_with ((go_at_call 9; refine (unhide cr _ ((unhide HE).below ((unhide HB2).trans ((unhide BA).mono (unhide HB2).size)))).mono ?_; rintro e w5 ⟨rfl, hb5⟩; have BF := hide ((unhide BA).trans (hb5.mono (unhide BA).size)); clear hb5))
      refine ⟨rfl, ⟨⟨_, unhide BF⟩, rfl⟩, ?_⟩
      refine Reg.mix_take 5 (by kernel_rfl) ?_
      simp only [List.take_succ_cons, List.take_zero, List.drop_succ_cons, List.drop_zero]
      repeat (go_big_quiet_step (fail))
      refine wpQuiet_nil ?_
      refine Reg.mix_nil ?_
      have HF := hide ((unhide HB2).trans ((unhide BF).mono (unhide HB2).size))
      rcases HLAST.out with hl | hl
      · have h1 := digB_t hl
        have g1 : decide ((48 : Int) ≤ (c.toNat : Int)) = true := by simp; omega
        have g2 : decide ((c.toNat : Int) ≤ 57) = true := by simp; omega
        clear hl h1
        go_wp2_with fail
        go_ret
        exact ⟨rfl, unhide HF⟩
      · rw [hl]
        go_wp2_with fail
        all_goals
          go_ret
          exact ⟨rfl, unhide HF⟩
theorem numbers_all (n zs pl c : Int) (hn : -9223372036854775808 ≤ n ∧ n ≤ 9223372036854775807) (hc : 0 ≤ c ∧ c ≤ 255) (w : World) (ht : Pow10 w) (hE : RangeV w) :
    Calls Tryd.prog 3 #[.int .i64 n, .int .i64 zs, .int .i64 pl, .int .u8 c] w fun e w' => e = .returned (.bool true) ∧ Below w.heap.size w w' := by
  have h := numbers_any n zs pl (UInt8.ofNat c.toNat) hn w ht hE
  rwa [u8_back c hc] at h
end Go.Proofs.YtbhpcmbbbomknaaDoor.Sp
