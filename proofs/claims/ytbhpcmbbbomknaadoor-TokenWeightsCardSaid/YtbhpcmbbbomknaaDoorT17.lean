/- The reference's Weight: the walk. -/
import Derived.Test.YtbhpcmbbbomknaaDoorT16
namespace Go.Proofs.YtbhpcmbbbomknaaDoor.Sp
open Go.RowKit Sl

set_option maxRecDepth 100000 in
set_option maxHeartbeats 4000000 in
theorem rweight_any (s : ByteArray) (w : World) :
    Calls Tryd.prog 11 #[.string s] w fun e w' => e = .returned (.tuple #[.float .f64 (wR s.data.toList).1, .int .i64 (wR s.data.toList).2]) ∧ w = w' := by
  have hl : s.data.toList.length = s.size := by simp
  rcases Nat.lt_or_ge s.size 1 with hz | hz
  · have hr := hide (show wR s.data.toList = (0, 4) from by rw [List.eq_nil_of_length_eq_zero (show s.data.toList.length = 0 by omega)]; exact wR_nil)
    have h1 : decide ((s.size : Int) < 1) = true := by simp; omega
    clear hl hz
    go_enter Tryd.func11, Tryd.ntmps11
    go_wp2_with fail
    go_ret2
    exact ⟨by rw [unhide hr] <;> rfl, rfl⟩
  have h1 : decide ((s.size : Int) < 1) = false := by simp; omega
  have hcons : s.data.toList = s[0] :: s.data.toList.drop 1 := by have := drop_cons s 0 hz; rwa [List.drop_zero] at this
  have hdrop : (s.data.toList.drop 1).length = s.size - 1 := by rw [List.length_drop]; omega
  rcases Nat.lt_or_ge 5 s.size with h5 | h5
  · have hr := hide (show wR s.data.toList = (0, 4) from by
      by_cases hc : s[0] = 48 ∨ s[0] = 49
      · have h2 := drop_cons s 1 (by omega)
        by_cases hd : s[1] = 46
        · rw [hcons, h2, hd]
          exact (wR_rest _ _ hc).2 (by rintro ⟨h, _⟩; rw [List.length_drop] at h; omega)
        · rw [hcons, h2]
          exact wR_second _ _ _ hc hd
      · rw [hcons]
        exact wR_first _ _ (fun h => hc (.inl h)) (fun h => hc (.inr h)))
    have h2 : decide ((5 : Int) < (s.size : Int)) = true := by simp; omega
    clear hl hz hcons hdrop h5
    go_enter Tryd.func11, Tryd.ntmps11
    go_wp2_with fail
    go_ret2
    exact ⟨by rw [unhide hr] <;> rfl, rfl⟩
  have h2 : decide ((5 : Int) < (s.size : Int)) = false := by simp; omega
  by_cases hc0 : (s[0].toNat : Int) = 48 ∨ (s[0].toNat : Int) = 49
  rotate_left
  · have e0 : ((s[0].toNat : Int) != 48) = true := by rw [bne_iff_ne]; exact fun h => hc0 (.inl h)
    have e1 : ((s[0].toNat : Int) != 49) = true := by rw [bne_iff_ne]; exact fun h => hc0 (.inr h)
    have hr := hide (show wR s.data.toList = (0, 4) from by
      rw [hcons]
      exact wR_first _ _ (u8_ne (by decide) (fun h => hc0 (.inl h))) (u8_ne (by decide) (fun h => hc0 (.inr h))))
    clear hl hcons hdrop hc0
    go_enter Tryd.func11, Tryd.ntmps11
    go_wp2_with fail
    go_ret2
    exact ⟨by rw [unhide hr] <;> rfl, rfl⟩
  have hc : s[0] = 48 ∨ s[0] = 49 := by
    rcases hc0 with h | h
    · exact .inl (u8_eq h)
    · exact .inr (u8_eq h)
  -- what stands behind the point
  have hmain : (1 < s.size ∧ ¬ ((s[1]!.toNat : Int) = 46) ∧ wR s.data.toList = (0, 4)) ∨
      ∃ r : List UInt8, r = s.data.toList.drop 2 ∧ r.length ≤ 3 ∧ (s.size = 1 ∨ (s.size = 2 + r.length ∧ (s[1]!.toNat : Int) = 46)) ∧ (r.all digB = true → wV s[0] r ≤ 1000 → wR s.data.toList = (fB (wV s[0] r), 0)) ∧ (r.all digB = false → wR s.data.toList = (0, 4)) ∧ (¬ wV s[0] r ≤ 1000 → wR s.data.toList = (0, 4)) := by
    rcases Nat.lt_or_ge 1 s.size with h | h
    · have hb : s[1]! = s[1] := getElem!_pos s 1 h
      have h3 := drop_cons s 1 h
      by_cases hd : (s[1].toNat : Int) = 46
      · refine .inr ⟨_, rfl, by rw [List.length_drop]; omega, .inr ⟨by rw [List.length_drop]; omega, by rw [hb]; exact hd⟩, fun ha hv => ?_, fun ha => ?_, fun hv => ?_⟩
        · rw [hcons, h3, u8_eq hd]
          exact (wR_rest _ _ hc).1 ⟨by rw [List.length_drop]; omega, ha, hv⟩
        · rw [hcons, h3, u8_eq hd]
          exact (wR_rest _ _ hc).2 (by rintro ⟨_, h, _⟩; rw [ha] at h; cases h)
        · rw [hcons, h3, u8_eq hd]
          exact (wR_rest _ _ hc).2 (by rintro ⟨_, _, h⟩; exact hv h)
      · refine .inl ⟨h, by rw [hb]; exact hd, ?_⟩
        rw [hcons, h3]
        exact wR_second _ _ _ hc (u8_ne (by decide) hd)
    · have hs1 : s.size = 1 := by omega
      have hd1 : s.data.toList.drop 1 = [] := List.eq_nil_of_length_eq_zero (by omega)
      have hd2 : s.data.toList.drop 2 = [] := List.eq_nil_of_length_eq_zero (by rw [List.length_drop]; omega)
      have hv : wV s[0] [] ≤ 1000 := by rcases hc with h | h <;> rw [h] <;> decide +kernel
      refine .inr ⟨[], hd2.symm, by simp, .inl hs1, fun _ _ => ?_, (fun h => by cases h), fun h => absurd hv h⟩
      rw [hcons, hd1]
      exact wR_one _ hc
  rcases hmain with ⟨hlen, hd, hr0⟩ | ⟨r, hrd, hrl, hsz, hgood, hbad1, hbad2⟩
  · have hb : s[1]! = s[1] := getElem!_pos s 1 hlen
    rw [hb] at hd
    have hr := hide hr0
    have h3 : decide ((1 : Int) < (s.size : Int)) = true := by simp; omega
    have h4 : ((s[1].toNat : Int) != 46) = true := by rw [bne_iff_ne]; exact hd
    clear hl hcons hdrop hr0 hb hd hc
    rcases hc0 with e0 | e0
    all_goals
      go_enter Tryd.func11, Tryd.ntmps11
      go_wp2_with fail
      go_ret2
      exact ⟨by rw [unhide hr] <;> rfl, rfl⟩
  · have HG := hide hgood
    have HB1 := hide hbad1
    have HB2 := hide hbad2
    have HRD := Lib.hid hrd
    have HC := hide hc
    have hzero : (wTo s[0] r 0 : Int) = ((s[0].toNat : Int) - 48) * 1000 := by
      rw [wTo_zero _ _ hc]
      rcases hc with h | h <;> rw [h] <;> rfl
    have hlt : decide ((1 : Int) < (s.size : Int)) = false ∨ (decide ((1 : Int) < (s.size : Int)) = true ∧ ∃ h : 1 < s.size, ((s[1].toNat : Int) != 46) = false) := by
      rcases hsz with h | ⟨h, h46⟩
      · exact .inl (by simp; omega)
      · have h1s : 1 < s.size := by omega
        have hb : s[1]! = s[1] := getElem!_pos s 1 h1s
        rw [hb] at h46
        exact .inr ⟨by simp; omega, h1s, by rw [h46]; rfl⟩
    have hrs : r.length ≤ s.size := by rw [hrd, List.length_drop]; omega
    have hsz2 : ∀ j, j < r.length → 2 + j < s.size := fun j hj => by
      rcases hsz with h | ⟨h, _⟩
      · rw [hrd, List.length_drop] at hj; omega
      · omega
    have hsz3 : ∀ j, r.length ≤ j → s.size ≤ 2 + j := fun j hj => by rw [hrd, List.length_drop] at hj; omega
    have HS2 := hide hsz2
    have HS3 := hide hsz3
    clear hgood hbad1 hbad2 hrd hc hl hcons hdrop hsz hsz2 hsz3
    have HZ := Lib.hid hzero
    clear hzero
    rcases hc0 with e0 | e0
    all_goals rcases hlt with h3 | ⟨h3, h4, h46⟩
    all_goals
      have HE0 := Lib.hid e0
      go_enter Tryd.func11, Tryd.ntmps11
      go_wp2_with fail
      clear h1 h2 h3
      go_loop [4, 5, 6] (fun n b i => ∃ j : Nat, i = .int .i64 ((2 + j : Nat) : Int) ∧ b = .int .i64 (byOf j : Int) ∧ n = .int .i64 (wTo s[0] r j : Int) ∧ j ≤ r.length ∧ (r.take j).all digB = true) (fun _ _ i => s.size + 5 - (intOf i).toNat)
      case atStart => exact ⟨0, rfl, rfl, by rw [HZ.out, HE0.out] <;> rfl, Nat.zero_le _, rfl⟩
      case round =>
        clear e0
        obtain ⟨j, rfl, rfl, rfl, hj, hall⟩ := hrel
        have hNlt := wTo_le s[0] r j (unhide HC) (by omega) hj hall
        have HALL := hide hall
        clear hall
        rcases Nat.lt_or_ge j r.length with hjl | hjl
        · have hjs := unhide HS2 j hjl
          have hg : r[j] = s[2 + j] := by
            have h0 : r[j]? = some r[j] := List.getElem?_eq_getElem hjl
            have e1 : r[j]? = s.data.toList[2 + j]? := by rw [HRD.out, List.getElem?_drop]
            rw [List.getElem?_eq_getElem (l := s.data.toList) (by simpa using hjs)] at e1
            exact Option.some.inj (h0.symm.trans e1)
          have hdig : digI (s[2 + j].toNat : Int) = digB r[j] := by rw [digI_B, hg]
          have hstep := wTo_step s[0] r j (by omega) hjl
          rw [← byOf_pow j (by omega), hg] at hstep
          have hby := byOf_next j
          have hbl := byOf_le j
          have hbl2 := byOf_le (j + 1)
          have htake : (r.take (j + 1)).all digB = ((r.take j).all digB && digB r[j]) := by
            rw [List.take_succ_eq_append_getElem hjl, List.all_append, List.all_cons, List.all_nil, Bool.and_true]
          have hlti : decide ((2 : Int) + (j : Int) < (s.size : Int)) = true := by rw [decide_eq_true_iff]; omega
          cases hb : digB r[j]
          · have hr := hide (unhide HB1 (by
              rw [List.all_eq_false]
              exact ⟨r[j], List.getElem_mem _, by rw [hb]; decide⟩))
            rw [hb] at hdig
            clear hg hstep htake hb hby
            go_wp2_with (go_at_call 23; refine (rdigit_any _ _).mono ?_; rintro e w' ⟨rfl, rfl⟩)
            go_ret2
            exact ⟨by rw [unhide hr] <;> rfl, rfl⟩
          · rw [hb, unhide HALL] at htake
            have hdd := digB_t hb
            rw [hg] at hdd
            rw [hb] at hdig
            obtain ⟨D, hD⟩ : ∃ D, s[2 + j].toNat - 48 = D := ⟨_, rfl⟩
            rw [hD] at hstep
            have hD9 : D ≤ 9 := by omega
            have hu : IntKind.u8.wrap ((s[2 + j].toNat : Int) - 48) = (D : Int) := by rw [wrap_u8 _ (by omega)]; omega
            have hu2 : (s[2 + j].toNat : Int) - 48 = (D : Int) := by omega
            obtain ⟨N', hN'⟩ : ∃ N', wTo s[0] r (j + 1) = N' := ⟨_, rfl⟩
            obtain ⟨N, hN⟩ : ∃ N, wTo s[0] r j = N := ⟨_, rfl⟩
            obtain ⟨B, hB⟩ : ∃ B, byOf j = B := ⟨_, rfl⟩
            obtain ⟨B', hB'⟩ : ∃ B', byOf (j + 1) = B' := ⟨_, rfl⟩
            rw [hN', hN, hB] at hstep
            rw [hN] at hNlt ⊢
            rw [hB, hB'] at hby
            rw [hB] at hbl ⊢
            rw [hB'] at hbl2
            obtain ⟨P, hP⟩ : ∃ P, D * B = P := ⟨_, rfl⟩
            have hP9 : P ≤ 900 := by rw [← hP]; exact Nat.mul_le_mul hD9 hbl
            have hPi : (D : Int) * (B : Int) = (P : Int) := by rw [← hP]; exact (Int.natCast_mul D B).symm
            rw [hP] at hstep
            have hsum : (N : Int) + (P : Int) = (N' : Int) := by omega
            have HN' := Lib.hid hN'
            have HB' := Lib.hid hB'
            have HT := Lib.hid htake
            clear hg hstep htake hb hN hB hP hN' hB' hD hdd
            go_wp2_with (go_at_call 23; refine (rdigit_any _ _).mono ?_; rintro e w' ⟨rfl, rfl⟩)
            go_round
            case rel => exact ⟨j + 1, by go_num, by rw [HB'.out], by rw [HN'.out], by omega, HT.out⟩
            case measure => simp [intOf]; omega
        · have hje : j = r.length := by omega
          have hlti : decide ((2 : Int) + (j : Int) < (s.size : Int)) = false := by
            rw [decide_eq_false_iff_not]
            have := unhide HS3 j hjl
            omega
          have hall2 : r.all digB = true := by
            have := unhide HALL
            rw [hje, List.take_length] at this
            exact this
          have hwv : wTo s[0] r j = wV s[0] r := by rw [hje, wTo_all]
          rw [hwv] at hNlt ⊢
          have HA := hide hall2
          clear hall2 hwv hje
          obtain ⟨V, hV⟩ : ∃ V, wV s[0] r = V := ⟨_, rfl⟩
          have HV := Lib.hid hV
          rw [hV] at hNlt ⊢
          clear hV
          by_cases hv : V ≤ 1000
          · have hr := Lib.hid (unhide HG (unhide HA) (by rw [HV.out]; exact hv))
            have hdv : ∀ w, (binOp .quo 31 (.float .f64 (floatOfInt .f64 (V : Int))) (.float .f64 4652007308841189376)).run Tryd.prog w = .ok (.float .f64 (fB V)) w := fun w => fdiv_run V hv w
            have hgt : decide ((1000 : Int) < (V : Int)) = false := (by simp; omega)
            clear hv
            go_wp2_with fail
            go_ret2
            exact ⟨by rw [hr.out, HV.out] <;> rfl, rfl⟩
          · have hr := Lib.hid (unhide HB2 (by rw [HV.out]; exact hv))
            have hgt : decide ((1000 : Int) < (V : Int)) = true := (by simp; omega)
            clear hv
            go_wp2_with fail
            go_ret2
            exact ⟨by rw [hr.out] <;> rfl, rfl⟩
end Go.Proofs.YtbhpcmbbbomknaaDoor.Sp
