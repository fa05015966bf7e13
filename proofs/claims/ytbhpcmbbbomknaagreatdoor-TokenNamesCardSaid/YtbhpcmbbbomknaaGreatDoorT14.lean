/- token.Weight. -/
import Derived.Test.YtbhpcmbbbomknaaGreatDoorT14p
namespace Go.Proofs.YtbhpcmbbbomknaaGreatDoor.Sp
open Go.RowKit

set_option maxRecDepth 100000 in
set_option maxHeartbeats 12000000 in
theorem weight_any (s : ByteArray) (hs : s.size ≤ 100000) (w : World) (hM : MaxV w) (hE : RangeV w) :
    Calls Tryz.prog 14 #[.string s] w fun e w' => e = .returned (.tuple #[.float .f64 (wR s.data.toList).1, .int .i64 (wR s.data.toList).2]) ∧ Below w.heap.size w w' := by
  obtain ⟨x, hx⟩ := of_list (cutS 46 s.data.toList).1
  obtain ⟨y, hy⟩ := of_list (cutS 46 s.data.toList).2.1
  obtain ⟨b, hb⟩ : ∃ b, (cutS 46 s.data.toList).2.2 = b := ⟨_, rfl⟩
  have ccut := hide (cut_any s 46 x y b hx hy hb.symm (by omega) w hM)
  have hl : s.data.toList.length = s.size := by simp
  have zx : x.size ≤ s.size := by rw [size_list hx, ← hl]; exact (cutS_len 46 _).1
  have zy : y.size ≤ s.size := by rw [size_list hy, ← hl]; exact (cutS_len 46 _).2
  have hlen : (cutS 46 s.data.toList).2.1.length = y.size := (size_list hy).symm
  have e0 := toList_eq x [48]
  have e1 := toList_eq x [49]
  rw [hx] at e0 e1
  by_cases hw : ((cutS 46 s.data.toList).1 = [48] ∨ (cutS 46 s.data.toList).1 = [49]) ∧ y.size ≤ 3
  · obtain ⟨hwx, hwy⟩ := hw
    have hn3 : decide ((3 : Int) < (y.size : Int)) = false := by simp; omega
    have hfirst : (x.toList == [48]) = true ∨ ((x.toList == [48]) = false ∧ (x.toList == [49]) = true) := by
      rw [e0, e1]
      rcases hwx with h | h
      · exact .inl (decide_eq_true h)
      · exact .inr ⟨decide_eq_false (by rw [h]; decide), decide_eq_true h⟩
    have zx1 : x.size = 1 := by
      rw [size_list hx]
      rcases hwx with h | h <;> rw [h] <;> rfl
    have hxd : (cutS 46 s.data.toList).1.all digB = true := by
      rcases hwx with h | h <;> rw [h] <;> decide
    clear e0 e1
    -- the last number
    obtain ⟨Z, hZ⟩ := of_list (List.replicate (3 - y.size) (48 : UInt8))
    have zZ : Z.size = 3 - y.size := by rw [size_list hZ]; simp
    have crep := hide (fun w => show Calls Tryz.prog 30 #[.string ⟨#[48]⟩, .int .i64 ((3 : Int) - (y.size : Int))] w fun e w' => e = .returned (.string Z) ∧ Below w.heap.size w w' from by
      have h := Tryz.strings_Repeat ⟨#[48]⟩ (3 - y.size) w (by omega) (by show 1 * (3 - y.size) ≤ _; omega)
      rw [show ((3 - y.size : Nat) : Int) = (3 : Int) - (y.size : Int) by omega] at h
      refine h.mono ?_
      rintro e w' ⟨rfl, hb⟩
      refine ⟨?_, hb⟩
      rw [show (⟨#[48]⟩ : ByteArray).data.toList = [48] from rfl, repeat_one, ← hZ])
    obtain ⟨XY, hXY⟩ : ∃ XY, x ++ y = XY := ⟨_, rfl⟩
    obtain ⟨F, hF⟩ : ∃ F, XY ++ Z = F := ⟨_, rfl⟩
    have zXY : XY.size ≤ 4 := by rw [← hXY, ByteArray.size_append]; omega
    have zF : F.size = 4 := by rw [← hF, ByteArray.size_append, zZ, ← hXY, ByteArray.size_append]; omega
    have hFd : F.data.toList = wDig s.data.toList := by
      rw [← hF, app_data, ← hXY, app_data, hx, hy, hZ]
      unfold wDig
      rw [hlen]
    cases hd : (cutS 46 s.data.toList).2.1.all digB
    · -- digits wanted
      have hr := hide (wR_bad (l := s.data.toList) (by rintro ⟨_, _, h, _⟩; rw [hd] at h; cases h))
      have hyne : y.toList.isEmpty = false := by
        rcases empty_case y with ⟨_, h2⟩ | ⟨h1, _⟩
        · rw [hy] at h2; rw [h2] at hd; cases hd
        · exact h1
      have hbt : b = true := by
        cases b
        · have := cutS_flag 46 _ hb
          rw [this] at hd; cases hd
        · rfl
      subst hbt
      have cny := hide (fun w hE => number_any y (by omega) w hE)
      rw [numS_bad (by rw [hy]; unfold digsS; rw [hd, Bool.and_false])] at cny
      have HE := hide hE
      clear hx hy hb hd hlen hZ hFd hxd hwx hE hM crep hXY hF
      rcases hfirst with f0 | ⟨f0, f1⟩
      all_goals
        go_enter Tryz.func14, Tryz.ntmps14
        go_wp2_with fail
        refine (unhide ccut).mono ?_; rintro e w1 ⟨rfl, hb1⟩
        have HB1 := hide hb1
        clear hb1
        go_wp2_with (go_at_call 15; refine (unhide cny _ ((unhide HE).below (unhide HB1))).mono ?_; rintro e w2 ⟨rfl, hb2⟩; have HB2 := hide ((unhide HB1).trans (hb2.mono (unhide HB1).size)); clear hb2)
        go_ret2
        exact ⟨by rw [unhide hr] <;> rfl, unhide HB2⟩
    · -- digits all
      have hFall : (wDig s.data.toList).all digB = true := by
        unfold wDig
        rw [List.all_append, List.all_append, hxd, hd, Bool.true_and, Bool.true_and, List.all_eq_true]
        intro c hc
        rw [(List.mem_replicate.1 hc).2]
        decide
      have hFdig : digsS F.data.toList = true := by
        rw [hFd]
        unfold digsS
        rw [hFall, Bool.and_true]
        cases hnil : wDig s.data.toList with
        | nil =>
          have : F.size = 0 := by rw [size_list hFd, hnil]; rfl
          omega
        | cons c t => rfl
      have hvlt : valN F.data.toList < 10000 := by
        have h := valF_lt F.data.toList 0 (by rw [hFd]; exact hFall)
        have e : F.data.toList.length = 4 := by have : F.data.toList.length = F.size := by simp
                                                omega
        rw [e] at h
        unfold valN
        omega
      have cnf := hide (fun w hE => number_any F (by omega) w hE)
      rw [numS_ok hFdig (by omega)] at cnf
      have hval : valN F.data.toList = valN (wDig s.data.toList) := by rw [hFd]
      obtain ⟨V, hV⟩ : ∃ V, valN F.data.toList = V := ⟨_, rfl⟩
      rw [hV] at cnf hvlt hval
      have HE := hide hE
      -- the middle number
      have hmid : (b = true ∧ y.toList.isEmpty = false ∧ ∃ u : Int, numS y.data.toList = (u, 0)) ∨ (y.size = 0 ∧ (b = false ∨ y.toList.isEmpty = true)) := by
        rcases empty_case y with ⟨h1, h2⟩ | ⟨h1, h2⟩
        · refine .inr ⟨?_, .inr (by rw [h1]; rfl)⟩
          rw [size_list rfl, h2]; rfl
        · refine .inl ⟨?_, h1, ?_⟩
          · cases b
            · exact absurd (hy.trans (cutS_flag 46 _ hb)) h2
            · rfl
          · refine ⟨(valN y.data.toList : Int), numS_ok ?_ ?_⟩
            · unfold digsS
              rw [hy, hd, Bool.and_true, ← hy]
              cases hh : y.data.toList with
              | nil => exact absurd hh h2
              | cons c t => rfl
            · have h := valF_lt y.data.toList 0 (by rw [hy]; exact hd)
              have hle : 10 ^ y.data.toList.length ≤ 10 ^ 3 := Nat.pow_le_pow_right (by decide) (by rw [hy, hlen]; exact hwy)
              unfold valN
              omega
      have cny := hide (fun w hE => number_any y (by omega) w hE)
      have hgood : V ≤ 1000 → wR s.data.toList = (fB V, 0) := fun hv => by
        rw [wR_good ⟨hwx, by rw [hlen]; exact hwy, hd, by rw [← hval]; exact hv⟩, ← hval]
      have hbad : ¬ V ≤ 1000 → wR s.data.toList = (0, 4) := fun hv => wR_bad (by rintro ⟨_, _, _, h⟩; rw [← hval] at h; exact hv h)
      have HG := hide hgood
      have HBAD := hide hbad
      clear hgood hbad hval hFdig hFall hx hy hb hd hlen hZ hFd hxd hwx hE hM hV
      rcases hmid with ⟨rfl, hyne, u, hu⟩ | ⟨hy0, hno⟩
      · rw [hu] at cny
        have HU := hide hu
        clear hu
        rcases hfirst with f0 | ⟨f0, f1⟩
        all_goals
          go_enter Tryz.func14, Tryz.ntmps14
          go_wp2_with fail
          refine (unhide ccut).mono ?_; rintro e w1 ⟨rfl, hb1⟩
          have HB1 := hide hb1
          clear hb1
          go_wp2_with fail
          refine (unhide cny _ ((unhide HE).below (unhide HB1))).mono ?_; rintro e w2 ⟨rfl, hb2⟩
          have HB2 := hide ((unhide HB1).trans (hb2.mono (unhide HB1).size))
          clear hb2
          go_wp2_with fail
          refine (unhide crep _).mono ?_; rintro e w3 ⟨rfl, hb3⟩
          have HB3 := hide ((unhide HB2).trans (hb3.mono (unhide HB2).size))
          clear hb3
          go_wp2_with fail
          refine (unhide cnf _ ((unhide HE).below (unhide HB3))).mono ?_; rintro e w4 ⟨rfl, hb4⟩
          have HB4 := hide ((unhide HB3).trans (hb4.mono (unhide HB3).size))
          clear hb4
          by_cases hv : V ≤ 1000
          · have HR := hide (unhide HG hv)
            have hdv : ∀ w, (binOp .quo 30 (.float .f64 (floatOfInt .f64 (V : Int))) (.float .f64 4652007308841189376)).run Tryz.prog w = .ok (.float .f64 (fB V)) w := fun w => fdiv_run V hv w
            have hgt : decide ((1000 : Int) < (V : Int)) = false := (by simp; omega)
            clear hv
            go_wp2_with fail
            go_ret2
            exact ⟨by rw [unhide HR] <;> rfl, unhide HB4⟩
          · have HR := hide (unhide HBAD hv)
            have hgt : decide ((1000 : Int) < (V : Int)) = true := (by simp; omega)
            clear hv
            go_wp2_with fail
            go_ret2
            exact ⟨by rw [unhide HR] <;> rfl, unhide HB4⟩
      · have hye : y.toList.isEmpty = true := by
          rcases empty_case y with ⟨h1, _⟩ | ⟨_, h2⟩
          · rw [h1]; rfl
          · exfalso
            apply h2
            exact List.eq_nil_of_length_eq_zero (by simpa using hy0)
        clear cny hno hy0
        rcases hfirst with f0 | ⟨f0, f1⟩
        all_goals cases b
        all_goals
          go_enter Tryz.func14, Tryz.ntmps14
          go_wp2_with fail
          refine (unhide ccut).mono ?_; rintro e w1 ⟨rfl, hb1⟩
          have HB1 := hide hb1
          clear hb1
          go_wp2_with fail
          refine (unhide crep _).mono ?_; rintro e w3 ⟨rfl, hb3⟩
          have HB3 := hide ((unhide HB1).trans (hb3.mono (unhide HB1).size))
          clear hb3
          go_wp2_with fail
          refine (unhide cnf _ ((unhide HE).below (unhide HB3))).mono ?_; rintro e w4 ⟨rfl, hb4⟩
          have HB4 := hide ((unhide HB3).trans (hb4.mono (unhide HB3).size))
          clear hb4
          by_cases hv : V ≤ 1000
          · have HR := hide (unhide HG hv)
            have hdv : ∀ w, (binOp .quo 30 (.float .f64 (floatOfInt .f64 (V : Int))) (.float .f64 4652007308841189376)).run Tryz.prog w = .ok (.float .f64 (fB V)) w := fun w => fdiv_run V hv w
            have hgt : decide ((1000 : Int) < (V : Int)) = false := (by simp; omega)
            clear hv
            go_wp2_with fail
            go_ret2
            exact ⟨by rw [unhide HR] <;> rfl, unhide HB4⟩
          · have HR := hide (unhide HBAD hv)
            have hgt : decide ((1000 : Int) < (V : Int)) = true := (by simp; omega)
            clear hv
            go_wp2_with fail
            go_ret2
            exact ⟨by rw [unhide HR] <;> rfl, unhide HB4⟩
  · have hr := hide (wR_bad (l := s.data.toList) (by rintro ⟨h1, h2, _⟩; exact hw ⟨h1, by rw [hlen] at h2; exact h2⟩))
    have hcase : ((x.toList == [48]) = false ∧ (x.toList == [49]) = false) ∨ (((x.toList == [48]) = true ∨ ((x.toList == [48]) = false ∧ (x.toList == [49]) = true)) ∧ decide ((3 : Int) < (y.size : Int)) = true) := by
      rw [e0, e1]
      by_cases h0 : (cutS 46 s.data.toList).1 = [48]
      · refine .inr ⟨.inl (decide_eq_true h0), ?_⟩
        have : ¬ y.size ≤ 3 := fun h => hw ⟨.inl h0, h⟩
        simp; omega
      · by_cases h1 : (cutS 46 s.data.toList).1 = [49]
        · refine .inr ⟨.inr ⟨decide_eq_false h0, decide_eq_true h1⟩, ?_⟩
          have : ¬ y.size ≤ 3 := fun h => hw ⟨.inr h1, h⟩
          simp; omega
        · exact .inl ⟨decide_eq_false h0, decide_eq_false h1⟩
    clear e0 e1 hw hx hy hb hlen hM hE
    rcases hcase with ⟨f0, f1⟩ | ⟨f0 | ⟨f0, f1⟩, f3⟩
    all_goals
      go_enter Tryz.func14, Tryz.ntmps14
      go_wp2_with fail
      refine (unhide ccut).mono ?_; rintro e w1 ⟨rfl, hb1⟩
      have HB1 := hide hb1
      clear hb1
      go_wp2_with fail
      go_ret2
      exact ⟨by rw [unhide hr] <;> rfl, unhide HB1⟩
end Go.Proofs.YtbhpcmbbbomknaaGreatDoor.Sp
