/- start.value, Status. -/
import Derived.Test.YtfkobhagdjaleaaGreatDoorA6
import Derived.Test.YtfkobhagdjaleaaGreatDoorO7
import Derived.Test.YtfkobhagdjaleaaGreatDoorT2
namespace Go.Proofs.YtfkobhagdjaleaaGreatDoor.Sp
open Go.RowKit Sl

theorem svalue_any (s : ByteArray) (hs : s.size ≤ 1000000) (w : World) :
    Calls Tryz.prog 24 #[.string s] w fun e w' => e = .returned (.bool (allS chr s.data.toList)) ∧ Below w.heap.size w w' := by
  cases h : allS chr s.data.toList
  · have hc := hide (fun w => quote_no s hs h w)
    clear h
    go_enter Tryz.func24, Tryz.ntmps24
    go_wp2_with (go_at_call 50; refine (unhide hc _).mono ?_; rintro e w1 ⟨rfl, hb1⟩; have HB := hide hb1; clear hb1)
    go_ret
    exact ⟨rfl, unhide HB⟩
  · have hc := hide (fun w => quote_ok s hs h w)
    clear h
    go_enter Tryz.func24, Tryz.ntmps24
    go_wp2_with (go_at_call 50; refine (unhide hc _).mono ?_; rintro e w1 ⟨rfl, hb1⟩; have HB := hide hb1; clear hb1)
    go_ret
    exact ⟨rfl, unhide HB⟩

/-! ### plain -/
def stV (l : List UInt8) : List UInt8 := (cutS 32 l).1
def stRest (l : List UInt8) : List UInt8 := (cutS 32 l).2.1
def stDig (l : List UInt8) : List UInt8 := (cutS 32 (stRest l)).1
def stWhy (l : List UInt8) : List UInt8 := (cutS 32 (stRest l)).2.1
def stOK (l : List UInt8) : Prop := (cutS 32 l).2.2 = true ∧ (cutS 32 (stRest l)).2.2 = true ∧ (ver (stV l)).2 = 0 ∧ (numS (stDig l)).2 = 0 ∧ (stDig l).length = 3 ∧ 100 ≤ (numS (stDig l)).1 ∧ (numS (stDig l)).1 ≤ 599 ∧ allS chr (stWhy l) = true
instance (l : List UInt8) : Decidable (stOK l) := by unfold stOK; infer_instance
/-- what Status gives: minor, status, reason, error -/
def stS (l : List UInt8) : Int × Int × List UInt8 × Int := if stOK l then ((ver (stV l)).1, (numS (stDig l)).1, stWhy l, 0) else (0, 0, [], 4)
theorem stS_ok {l : List UInt8} (h : stOK l) : stS l = ((ver (stV l)).1, (numS (stDig l)).1, stWhy l, 0) := by unfold stS; rw [if_pos h]
theorem stS_no {l : List UInt8} (h : ¬ stOK l) : stS l = (0, 0, [], 4) := by unfold stS; rw [if_neg h]
def StPost (s : ByteArray) (w : World) (e : Ending) (w' : World) : Prop :=
  e = .returned (.tuple #[.int .i64 (stS s.data.toList).1, .int .i64 (stS s.data.toList).2.1, .string (ofL (stS s.data.toList).2.2.1), .int .i64 (stS s.data.toList).2.2.2]) ∧ Below w.heap.size w w'
theorem stp_no (s : ByteArray) (w w' : World) (h : ¬ stOK s.data.toList) (hb : Below w.heap.size w w') : StPost s w (.returned (.tuple #[.int .i64 0, .int .i64 0, .string ⟨#[]⟩, .int .i64 4])) w' := by
  unfold StPost
  rw [stS_no h]
  exact ⟨rfl, hb⟩
theorem stp_ok (s y : ByteArray) (a n : Int) (w w' : World) (h : stOK s.data.toList) (ha : a = (ver (stV s.data.toList)).1) (hn : n = (numS (stDig s.data.toList)).1) (hy : y.data.toList = stWhy s.data.toList) (hb : Below w.heap.size w w') :
    StPost s w (.returned (.tuple #[.int .i64 a, .int .i64 n, .string y, .int .i64 0])) w' := by
  unfold StPost
  rw [stS_ok h, ← ha, ← hn, ← hy]
  exact ⟨rfl, hb⟩

set_option maxRecDepth 100000 in
set_option maxHeartbeats 4000000 in
theorem status_any (s : ByteArray) (hs : s.size ≤ 1000000) (w : World) (hM : MaxV w) (hE : RangeV w) :
    Calls Tryz.prog 7 #[.string s] w (StPost s w) := by
  obtain ⟨v, hv⟩ := of_list (cutS 32 s.data.toList).1
  obtain ⟨r, hr⟩ := of_list (cutS 32 s.data.toList).2.1
  obtain ⟨d, hd⟩ := of_list (cutS 32 r.data.toList).1
  obtain ⟨y, hy⟩ := of_list (cutS 32 r.data.toList).2.1
  have hl := cutS_len 32 s.data.toList
  have hl2 := cutS_len 32 r.data.toList
  have sv := size_list hv
  have sr := size_list hr
  have sd := size_list hd
  have sy := size_list hy
  have zs : s.data.toList.length = s.size := by simp
  have zr : r.data.toList.length = r.size := by simp
  have zd : d.size ≤ 1000000 := by omega
  have zy : y.size ≤ 1000000 := by omega
  have zrs : r.size < 4294967281 := by omega
  obtain ⟨ok, hok⟩ : ∃ b, b = (cutS 32 s.data.toList).2.2 := ⟨_, rfl⟩
  obtain ⟨is, his⟩ : ∃ b, b = (cutS 32 r.data.toList).2.2 := ⟨_, rfl⟩
  obtain ⟨bad, hbad⟩ : ∃ b, b = (ver v.data.toList).2 := ⟨_, rfl⟩
  obtain ⟨mi, hmi⟩ : ∃ b, b = (ver v.data.toList).1 := ⟨_, rfl⟩
  obtain ⟨n, hn⟩ : ∃ b, b = (numS d.data.toList).1 := ⟨_, rfl⟩
  obtain ⟨er, her⟩ : ∃ b, b = (numS d.data.toList).2 := ⟨_, rfl⟩
  obtain ⟨vb, hvb⟩ : ∃ b, b = allS chr y.data.toList := ⟨_, rfl⟩
  have hO : stOK s.data.toList ↔ (ok = true ∧ is = true ∧ bad = 0 ∧ er = 0 ∧ d.size = 3 ∧ 100 ≤ n ∧ n ≤ 599 ∧ vb = true) := by
    have e1 : stRest s.data.toList = r.data.toList := hr.symm
    unfold stOK stDig stWhy stV
    rw [e1, ← hd, ← hy, ← hv, ← hok, ← his, ← hbad, ← her, ← hn, ← hvb, show d.data.toList.length = d.size by simp]
  have c1 := hide (fun w => cut_any s 32 v r ok hv hr hok (by omega) w)
  have c2 := hide (fun w => cut_any r 32 d y is hd hy his zrs w)
  have c3 := hide (fun w => version_any v w)
  rw [← hbad, ← hmi] at c3
  have c4 := hide (fun w hE => number_any d (by omega) w hE)
  rw [← hn, ← her] at c4
  have c5 := hide (fun w => svalue_any y zy w)
  rw [← hvb] at c5
  have HO := hide hO
  have E1 := Lib.hid (show mi = (ver (stV s.data.toList)).1 by rw [hmi, hv]; rfl)
  have E2 := Lib.hid (show n = (numS (stDig s.data.toList)).1 by rw [hn, hd, hr]; rfl)
  have E3 := Lib.hid (show y.data.toList = stWhy s.data.toList by rw [hy, hr]; rfl)
  have HM := hide hM
  have HE := hide hE
  clear hO hv hr hd hy hl hl2 sv sr sd sy zs zr hok his hbad hmi hn her hvb hM hE zrs zy
  have hch : ok = false ∨ (ok = true ∧ is = false) ∨ (ok = true ∧ is = true ∧ (bad != 0) = true) ∨ (ok = true ∧ is = true ∧ (bad != 0) = false ∧ (er != 0) = true) ∨ (ok = true ∧ is = true ∧ (bad != 0) = false ∧ (er != 0) = false ∧ ((d.size : Int) != 3) = true)
      ∨ (ok = true ∧ is = true ∧ (bad != 0) = false ∧ (er != 0) = false ∧ ((d.size : Int) != 3) = false ∧ decide (n < 100) = true) ∨ (ok = true ∧ is = true ∧ (bad != 0) = false ∧ (er != 0) = false ∧ ((d.size : Int) != 3) = false ∧ decide (n < 100) = false ∧ decide (599 < n) = true)
      ∨ (ok = true ∧ is = true ∧ (bad != 0) = false ∧ (er != 0) = false ∧ ((d.size : Int) != 3) = false ∧ decide (n < 100) = false ∧ decide (599 < n) = false) := by
    cases ok <;> cases is <;> cases (bad != 0) <;> cases (er != 0) <;> cases ((d.size : Int) != 3) <;> cases (decide (n < 100)) <;> cases (decide (599 < n)) <;> simp
  rcases hch with h1 | ⟨h1, h2⟩ | ⟨h1, h2, h3⟩ | ⟨h1, h2, h3, h4⟩ | ⟨h1, h2, h3, h4, h5⟩ | ⟨h1, h2, h3, h4, h5, h6⟩ | ⟨h1, h2, h3, h4, h5, h6, h7⟩ | ⟨h1, h2, h3, h4, h5, h6, h7⟩
  rotate_right
  · have k3 : bad = 0 := by simpa using h3
    have k4 : er = 0 := by simpa using h4
    have k5 : d.size = 3 := by have : (d.size : Int) = 3 := by simpa using h5
                               omega
    have k6 : 100 ≤ n := by have := of_decide_eq_false h6; omega
    have k7 : n ≤ 599 := by have := of_decide_eq_false h7; omega
    cases vb
    · have HN := hide (show ¬ stOK s.data.toList from fun h => by have := (unhide HO).1 h; simp at this)
      subst h1 h2
      clear k3 k4 k5 k6 k7
      go_enter Tryz.func7, Tryz.ntmps7
      go_wp2_with fail
      refine (unhide c1 _ (unhide HM)).mono ?_; rintro e w1 ⟨rfl, hb1⟩
      go_wp2_with fail
      refine (unhide c2 _ ((unhide HM).below hb1)).mono ?_; rintro e w2 ⟨rfl, hb2⟩
      replace hb2 := hb1.trans (hb2.mono hb1.size)
      clear hb1
      go_wp2_with fail
      refine (unhide c3 _).mono ?_; rintro e w3 ⟨rfl, rfl⟩
      go_wp2_with fail
      refine (unhide c4 _ ((unhide HE).below hb2)).mono ?_; rintro e w4 ⟨rfl, hb4⟩
      replace hb4 := hb2.trans (hb4.mono hb2.size)
      clear hb2
      go_wp2_with fail
      refine (unhide c5 _).mono ?_; rintro e w5 ⟨rfl, hb5⟩
      replace hb5 := hb4.trans (hb5.mono hb4.size)
      clear hb4
      go_wp2_with fail
      refine bodyPost_ret (Mem.results_tmp4 Tryz.results7 _ _ _) rfl ?_
      exact stp_no s w _ (unhide HN) hb5
    · have HY := hide ((unhide HO).2 ⟨h1, h2, k3, k4, k5, k6, k7, rfl⟩)
      subst h1 h2
      clear k3 k4 k5 k6 k7
      go_enter Tryz.func7, Tryz.ntmps7
      go_wp2_with fail
      refine (unhide c1 _ (unhide HM)).mono ?_; rintro e w1 ⟨rfl, hb1⟩
      go_wp2_with fail
      refine (unhide c2 _ ((unhide HM).below hb1)).mono ?_; rintro e w2 ⟨rfl, hb2⟩
      replace hb2 := hb1.trans (hb2.mono hb1.size)
      clear hb1
      go_wp2_with fail
      refine (unhide c3 _).mono ?_; rintro e w3 ⟨rfl, rfl⟩
      go_wp2_with fail
      refine (unhide c4 _ ((unhide HE).below hb2)).mono ?_; rintro e w4 ⟨rfl, hb4⟩
      replace hb4 := hb2.trans (hb4.mono hb2.size)
      clear hb2
      go_wp2_with fail
      refine (unhide c5 _).mono ?_; rintro e w5 ⟨rfl, hb5⟩
      replace hb5 := hb4.trans (hb5.mono hb4.size)
      clear hb4
      go_wp2_with fail
      refine bodyPost_ret (Mem.results_tmp4 Tryz.results7 _ _ _) rfl ?_
      exact stp_ok s y _ _ w _ (unhide HY) E1.out E2.out E3.out hb5
  all_goals
    have HN := hide (show ¬ stOK s.data.toList from fun h => by
      obtain ⟨k1, k2, k3, k4, k5, k6, k7, k8⟩ := (unhide HO).1 h
      first
        | (exact absurd (k1.symm.trans h1) (by decide))
        | (exact absurd (k2.symm.trans h2) (by decide))
        | (rw [k3] at h3; exact absurd h3 (by decide))
        | (rw [k4] at h4; exact absurd h4 (by decide))
        | (rw [k5] at h5; exact absurd h5 (by decide))
        | (have := of_decide_eq_true h6; omega)
        | (have := of_decide_eq_true h7; omega))
    subst h1
    try subst h2
    go_enter Tryz.func7, Tryz.ntmps7
    go_wp2_with fail
    refine (unhide c1 _ (unhide HM)).mono ?_; rintro e w1 ⟨rfl, hb1⟩
    go_wp2_with fail
    refine (unhide c2 _ ((unhide HM).below hb1)).mono ?_; rintro e w2 ⟨rfl, hb2⟩
    replace hb2 := hb1.trans (hb2.mono hb1.size)
    clear hb1
    go_wp2_with fail
    refine (unhide c3 _).mono ?_; rintro e w3 ⟨rfl, rfl⟩
    go_wp2_with fail
    refine (unhide c4 _ ((unhide HE).below hb2)).mono ?_; rintro e w4 ⟨rfl, hb4⟩
    replace hb4 := hb2.trans (hb4.mono hb2.size)
    clear hb2
    go_wp2_with fail
    refine bodyPost_ret (Mem.results_tmp4 Tryz.results7 _ _ _) rfl ?_
    exact stp_no s w _ (unhide HN) hb4
end Go.Proofs.YtfkobhagdjaleaaGreatDoor.Sp
