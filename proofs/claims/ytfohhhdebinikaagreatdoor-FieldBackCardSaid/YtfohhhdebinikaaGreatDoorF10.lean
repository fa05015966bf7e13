/- FieldBack, the walk. -/
import Derived.Test.YtfohhhdebinikaaGreatDoorF9
namespace Go.Proofs.YtfohhhdebinikaaGreatDoor.Sp
open Go.RowKit Sl

set_option maxRecDepth 100000 in
set_option maxHeartbeats 4000000 in
theorem back_any (v : Value) (L : List Fld) (s : ByteArray) (hL : L.length ≤ 9223372036854775807) (hf : ∀ f ∈ L, f.1.size ≤ 1000000000000000 ∧ f.2.size ≤ 1000000000000000)
    (h1 : s.size ≤ 9223372036854775807) (w : World) (hv : Rd w v L.length 2 (fldV L)) (hM : MaxV w) :
    Calls Tryz.prog 3 #[v, .string s] w fun e w' => e = .returned (.bool true) ∧ Below w.heap.size w w' := by
  obtain ⟨ao, cap, rfl⟩ := hv.form
  have HV := hide hv
  have HM := hide hM
  have HB := hide (Below.refl w.heap.size w)
  have HLI := hide (fun w' (h : Below w.heap.size w w') => light_any _ L hL hf w' (hv.below h))
  clear hv hM hf
  go_enter Tryz.func3, Tryz.ntmps3
  go_upto_region 3 with (go_at_call 9; refine (lives_any _ (unhide HM)).mono ?_; rintro e w1 ⟨rfl, hb⟩; have HB := hide ((unhide HB).trans (hb.mono (unhide HB).size)); clear hb)
  go_wp2_with (go_at_call 10; refine (unhide HLI _ (unhide HB)).mono ?_; rintro e w2 ⟨r, rfl, hr, hb⟩; have HR := hide hr; have HB := hide ((unhide HB).trans (hb.mono (unhide HB).size)); clear hr hb)
  all_goals try (go_ret; exact ⟨rfl, unhide HB⟩)
  have hlf := light_few (unhide HR (by first | rfl | assumption))
  have hs2 : s.size ≤ 300 := by omega
  have HF := hide hlf.2
  have hL30 : L.length ≤ 30 := hlf.1
  clear hlf HLI HR
  have hr9 : r = true := by assumption
  subst hr9
  go_loopw [5] (fun i wr => ∃ k : Nat, i = .int .i64 k ∧ k ≤ L.length ∧ Below w.heap.size w wr) (fun i _ => L.length - (intOf i).toNat)
  case atStart => exact ⟨0, rfl, Nat.zero_le _, unhide HB⟩
  case round =>
    clear HB
    obtain ⟨k, rfl, hk, hb⟩ := hrel
    have HB := hide hb
    rcases Nat.lt_or_ge k L.length with hlt | hge
    · have hr := (unhide HV).below hb
      obtain ⟨b, off, rfl, hbk, d1, d2⟩ := fld_cells hr rfl k hlt
      have hra := rd_at hr rfl k hlt
      have hcap : L.length ≤ cap := by obtain ⟨_, _, e, h, _⟩ := hr; cases e; exact h
      have hz := (unhide HF) L[k] (List.getElem_mem _)
      obtain ⟨⟨x, y⟩, hx⟩ : ∃ x, L[k] = x := ⟨_, rfl⟩
      rw [hx] at d1 d2 hz hra
      have hzx : x.size ≤ 1000000 := Nat.le_trans hz.1 (by decide)
      have hzy : y.size ≤ 1000000 := Nat.le_trans hz.2 (by decide)
      have hc := fun w => check_any x y hzx hzy w
      have hbk := lineF_back (x, y)
      obtain ⟨ok, hok⟩ : ∃ ok, chkS (x, y) = ok := ⟨_, rfl⟩
      have hby := fun c (h : 1 ≤ c) w (hb : Below wr.heap.size wr w) => bytes_one _ (x, y) ok hok (Nat.le_trans hz.1 (by decide)) (Nat.le_trans hz.2 (by decide)) w ((hra c h).below hb)
      rw [hok] at hc hbk
      have hzz := lineZ_size (x, y)
      have hz3 : (lineZ (x, y)).size ≤ 1300 := by simp only at hz hzz; omega
      obtain ⟨z, hzd⟩ : ∃ z, lineZ (x, y) = z := ⟨_, rfl⟩
      have hqs := crlf_size z
      have hq1 := crlf_head z
      have hq2 := crlf_tail z
      simp only [hzd] at hby hbk hz3
      obtain ⟨q, hq⟩ : ∃ q, z ++ ⟨#[13, 10]⟩ = q := ⟨_, rfl⟩
      simp only [hq] at hby hqs hq1 hq2
      have HC := hide hc
      have HBY := hide hby
      have HK := hide hbk
      clear hx hz hzx hzy hc hby hbk hok hra hzz hzd hr hb hq
      unfold errI at HC HBY
      cases ok
      · simp only [Bool.false_eq_true, if_false] at HC HBY
        clear hqs hq1 hq2 hz3
        go_wp2_with (first
          | (go_at_call 11; refine (unhide HBY _ (by omega) _ (Below.refl _ _)).mono ?_; rintro e w2 ⟨rfl, hb2⟩; have d1 := cell_call hb2 d1; have d2 := cell_call hb2 d2; have HB2 := hide ((unhide HB).trans (hb2.mono (unhide HB).size)); clear hb2)
          | (go_at_call 12; refine (unhide HC _).mono ?_; rintro e w3 ⟨rfl, hb3⟩; have HB3 := hide ((unhide HB2).trans (hb3.mono (unhide HB2).size)); clear hb3))
        go_roundw
        case rel => exact ⟨k + 1, by go_num, by omega, unhide HB3⟩
        case measure => simp [intOf]; omega
      · simp only [if_true] at HC HBY
        go_upto_region 15 with (first
          | (go_at_call 11; refine (unhide HBY _ (by omega) _ (Below.refl _ _)).mono ?_; rintro e w2 ⟨rfl, hb2⟩; have d1 := cell_call hb2 d1; have d2 := cell_call hb2 d2; have HB2 := hide ((unhide HB).trans (hb2.mono (unhide HB).size)); clear hb2)
          | (go_at_call 12; refine (unhide HC _).mono ?_; rintro e w3 ⟨rfl, hb3⟩; have d1 := cell_call hb3 d1; have d2 := cell_call hb3 d2; have HB3 := hide ((unhide HB2).trans (hb3.mono (unhide HB2).size)); clear hb3)
          | (go_at_call 13; refine (line_one z x y (by omega) ((unhide HK) (by trivial)).1 ((unhide HK) (by trivial)).2 _ ((unhide HM).below (unhide HB3))).mono ?_; rintro e w4 ⟨rfl, hb4⟩; have d1 := cell_call hb4 d1; have d2 := cell_call hb4 d2; have HB4 := hide ((unhide HB3).trans (hb4.mono (unhide HB3).size)); clear hb4))
        have HH := Reg.Has.new w4 [.string x, .string y] 30
        have HB5 := hide ((unhide HB4).alloc (unhide HB4).size (.cells #[.string x, .string y] 30))
        have d1 := cell_call ((Below.refl w4.heap.size w4).alloc (Nat.le_refl _) (.cells #[.string x, .string y] 30)) d1
        have d2 := cell_call ((Below.refl w4.heap.size w4).alloc (Nat.le_refl _) (.cells #[.string x, .string y] 30)) d2
        generalize w4.alloc (.cells #[.string x, .string y] 30) = w5 at HH HB5 d1 d2 ⊢
        generalize w4.heap.size = g at *
        have p1 := HH.cell 0 _ rfl; have q1 := HH.cell 1 _ rfl; have u1 := HH.free 0 (by simp); have v1 := HH.free 1 (by simp); have z1 := HH.lt
        clear HH
        have zb := World.block_lt_of_cell? w5 _ d1
        have hne := fun w => neqFld x y x y w
        rw [show (!(x.toList == x.toList && y.toList == y.toList)) = false by simp] at hne
        have hgu := fun x y xs ys w => guardFld .neq x y xs ys w
        refine Reg.region_more (by kernel_rfl) (by kernel_rfl) ?_
        repeat (go_big_quiet_step (fail))
        refine wpQuiet_nil ?_
        intro w9 hb9; obtain ⟨hc9, hf9, hz9⟩ := bcell hb9; (try simp at hz9)
        have HB9 := hide ((unhide HB5).trans (hb9.mono (unhide HB5).size))
        clear hb9

        go_wp2_with fail
        go_roundw
        case rel => exact ⟨k + 1, by go_num, by omega, unhide HB9⟩
        case measure => simp [intOf]; omega
    · clear hb
      have HLB := Lib.hid (show lineB s = ((cutS 58 s.data.toList).2.2 && chkS (lineF s)) from rfl)
      have hsz := lineF_size s
      obtain ⟨⟨x, y⟩, hxy⟩ : ∃ f, lineF s = f := ⟨_, rfl⟩
      rw [hxy] at HLB hsz
      have hs6 : s.size ≤ 1000000 := by omega
      cases hlb : lineB s
      · have HN := hide (fun w hM => line_none s hs6 hlb w hM)
        clear hlb HLB hsz hxy hs6
        have heq := fun w => eqlFld ⟨#[]⟩ ⟨#[]⟩ ⟨#[]⟩ ⟨#[]⟩ w
        rw [show (((⟨#[]⟩ : ByteArray).toList == (⟨#[]⟩ : ByteArray).toList) && ((⟨#[]⟩ : ByteArray).toList == (⟨#[]⟩ : ByteArray).toList)) = true by simp] at heq
        have hgu := fun x y xs ys w => guardFld .eql x y xs ys w
        go_upto_region 18 with (go_at_call 13; refine (unhide HN _ ((unhide HM).below (unhide HB))).mono ?_; rintro e w4 ⟨rfl, hb4⟩; have HB4 := hide ((unhide HB).trans (hb4.mono (unhide HB).size)); clear hb4)
        have HH := Reg.Has.new w4 [.string ⟨#[]⟩, .string ⟨#[]⟩] 30
        have HB5 := hide ((unhide HB4).alloc (unhide HB4).size (.cells #[.string ⟨#[]⟩, .string ⟨#[]⟩] 30))
        generalize w4.alloc (.cells #[.string ⟨#[]⟩, .string ⟨#[]⟩] 30) = w5 at HH HB5 ⊢
        generalize w4.heap.size = g at *
        have p1 := HH.cell 0 _ rfl; have q1 := HH.cell 1 _ rfl; have u1 := HH.free 0 (by simp); have v1 := HH.free 1 (by simp); have z1 := HH.lt
        clear HH
        go_wp2_with fail
        go_ret
        exact ⟨rfl, unhide HB5⟩
      · have hck : chkS (x, y) = true := by
          have h9 := HLB.out
          rw [hlb] at h9
          exact (Bool.and_eq_true_iff.1 h9.symm).2
        have HO := hide (fun w hM => line_one s x y hs6 hxy hlb w hM)
        have hzx : x.size ≤ 300 := by have := hsz.1; simp only at this; omega
        have hzy : y.size ≤ 300 := by have := hsz.2; simp only at this; omega
        have hc := fun w => check_any x y (by omega) (by omega) w
        have hbk := lineF_back (x, y) hck
        have hby := fun v w (hv : Rd w v 1 2 (fldV [(x, y)])) => bytes_one v (x, y) true hck (by simp only; omega) (by simp only; omega) w hv
        rw [hck] at hc
        have hzz := lineZ_size (x, y)
        have hz3 : (lineZ (x, y)).size ≤ 1300 := by simp only at hzz; omega
        obtain ⟨z, hzd⟩ : ∃ z, lineZ (x, y) = z := ⟨_, rfl⟩
        have hqs := crlf_size z
        have hq1 := crlf_head z
        simp only [hzd] at hby hbk hz3
        obtain ⟨q, hq⟩ : ∃ q, z ++ ⟨#[13, 10]⟩ = q := ⟨_, rfl⟩
        simp only [hq] at hby hqs hq1
        unfold errI at hc hby
        simp only [if_true] at hc hby
        have HC := hide hc
        have HBY := hide hby
        have HZ := hide (fun w hM => line_one z x y (by omega) hbk.1 hbk.2 w hM)
        clear hc hby hbk hzz hzd hq hzx hzy hck hlb HLB hsz hxy hs6
        have heq := fun w => eqlFld x y x y w
        rw [show (x.toList == x.toList && y.toList == y.toList) = true by simp] at heq
        have hgu := fun x y xs ys w => guardFld .eql x y xs ys w
        go_upto_region 18 with (go_at_call 13; refine (unhide HO _ ((unhide HM).below (unhide HB))).mono ?_; rintro e w4 ⟨rfl, hb4⟩; have HB4 := hide ((unhide HB).trans (hb4.mono (unhide HB).size)); clear hb4)
        have HH := Reg.Has.new w4 [.string x, .string y] 30
        have HB5 := hide ((unhide HB4).alloc (unhide HB4).size (.cells #[.string x, .string y] 30))
        generalize w4.alloc (.cells #[.string x, .string y] 30) = w5 at HH HB5 ⊢
        generalize w4.heap.size = g at *
        have p1 := HH.cell 0 _ rfl
        have q1 := HH.cell 1 _ rfl
        have z1 := HH.lt
        have HH := hide HH
        go_upto_region 22 with (first
          | (go_at_call 11; refine (unhide HBY _ _ (rd_litF w5 [(x, y)] 1 rfl)).mono ?_; rintro e w6 ⟨rfl, hb6⟩; have HH := hide (((unhide HH).alloc (.cells #[.string x, .string y] 30)).call hb6); have HB6 := hide (((unhide HB5).alloc (unhide HB5).size (.cells #[.string x, .string y] 30)).trans (hb6.mono (by have := (unhide HB5).size; simp; omega))); clear hb6)
          | (go_at_call 13; refine (unhide HZ _ ((unhide HM).below (unhide HB6))).mono ?_; rintro e w7 ⟨rfl, hb7⟩; have HH := hide ((unhide HH).call hb7); have HB7 := hide ((unhide HB6).trans (hb7.mono (unhide HB6).size)); clear hb7))
        have HN := (Reg.Has.new w7 [.string x, .string y] 30)
        have HH := (unhide HH).alloc (.cells #[.string x, .string y] 30)
        have HB8 := hide ((unhide HB7).alloc (unhide HB7).size (.cells #[.string x, .string y] 30))
        clear p1 q1 z1
        generalize w7.alloc (.cells #[.string x, .string y] 30) = w8 at HH HN HB8 ⊢
        generalize w7.heap.size = g2 at *
        have p1 := HH.cell 0 _ rfl; have q1 := HH.cell 1 _ rfl; have u1 := HH.free 0 (by simp); have v1 := HH.free 1 (by simp); have z1 := HH.lt
        have p2 := HN.cell 0 _ rfl; have q2 := HN.cell 1 _ rfl; have u2 := HN.free 0 (by simp); have v2 := HN.free 1 (by simp); have z2 := HN.lt
        have HH := hide HH
        clear HN
        go_wp2_with (go_at_call 12; refine (unhide HC _).mono ?_; rintro e w9 ⟨rfl, hb9⟩; have HB9 := hide ((unhide HB8).trans (hb9.mono (unhide HB8).size)); clear hb9)
        go_ret
        exact ⟨rfl, unhide HB9⟩
end Go.Proofs.YtfohhhdebinikaaGreatDoor.Sp
