/- start.RequestLine, StatusLine. -/
import Derived.Test.YtfkobhagdjaleaaGreatDoorS1
import Derived.Test.YtfkobhagdjaleaaGreatDoorT6
namespace Go.Proofs.YtfkobhagdjaleaaGreatDoor.Sp
open Go.RowKit Sl

def httpV : List UInt8 := [72, 84, 84, 80, 47]
def rlOK (m t : List UInt8) (n : Int) : Prop := tokenS m = true ∧ seenS t = true ∧ 0 ≤ n ∧ n ≤ 1
instance (m t : List UInt8) (n : Int) : Decidable (rlOK m t n) := by unfold rlOK; infer_instance
def rlT (m t : List UInt8) (n : Int) : List UInt8 := m ++ [32] ++ t ++ [32] ++ httpV ++ [49, 46] ++ Lib.itoa n
def rlS (m t : List UInt8) (n : Int) : List UInt8 × Int := if rlOK m t n then (rlT m t n, 0) else ([], 4)
def slOK (n st : Int) (r : List UInt8) : Prop := 0 ≤ n ∧ n ≤ 1 ∧ 100 ≤ st ∧ st ≤ 599 ∧ allS chr r = true
instance (n st : Int) (r : List UInt8) : Decidable (slOK n st r) := by unfold slOK; infer_instance
def slT (n st : Int) (r : List UInt8) : List UInt8 := httpV ++ [49, 46] ++ Lib.itoa n ++ [32] ++ Lib.itoa st ++ [32] ++ r
def slS (n st : Int) (r : List UInt8) : List UInt8 × Int := if slOK n st r then (slT n st r, 0) else ([], 4)

set_option maxRecDepth 100000 in
set_option maxHeartbeats 2000000 in
theorem reqLine_any (m t : ByteArray) (n : Int) (hm : m.size ≤ 1000000) (ht : t.size ≤ 1000000) (w : World) (hT : Pow10 w) :
    Calls Tryz.prog 9 #[.string m, .string t, .int .i64 n] w fun e w' => e = .returned (.tuple #[.string (ofL (rlS m.data.toList t.data.toList n).1), .int .i64 (rlS m.data.toList t.data.toList n).2]) ∧ Below w.heap.size w w' := by
  have c1 := hide (fun w => token_any m (by omega) w)
  have c2 := hide (fun w => seen_any t w)
  have HT := hide hT
  clear hT
  by_cases h1 : tokenS m.data.toList = true
  rotate_left
  · have hr := hide (show rlS m.data.toList t.data.toList n = ([], 4) by unfold rlS; rw [if_neg]; exact fun h => h1 h.1)
    rw [Bool.not_eq_true] at h1
    rw [h1] at c1
    clear h1 c2
    go_enter Tryz.func9, Tryz.ntmps9
    go_wp2_with fail
    refine (unhide c1 _).mono ?_; rintro e w1 ⟨rfl, hb1⟩
    go_wp2_with fail
    go_ret2
    exact ⟨by rw [unhide hr] <;> rfl, hb1⟩
  rw [h1] at c1
  by_cases h2 : seenS t.data.toList = true
  rotate_left
  · have hr := hide (show rlS m.data.toList t.data.toList n = ([], 4) by unfold rlS; rw [if_neg]; exact fun h => h2 h.2.1)
    rw [Bool.not_eq_true] at h2
    rw [h2] at c2
    clear h1 h2
    go_enter Tryz.func9, Tryz.ntmps9
    go_wp2_with fail
    refine (unhide c1 _).mono ?_; rintro e w1 ⟨rfl, hb1⟩
    go_wp2_with fail
    refine (unhide c2 _).mono ?_; rintro e w2 ⟨rfl, hb2⟩
    replace hb2 := hb1.trans (hb2.mono hb1.size)
    clear hb1
    go_wp2_with fail
    go_ret2
    exact ⟨by rw [unhide hr] <;> rfl, hb2⟩
  rw [h2] at c2
  by_cases h3 : 0 ≤ n ∧ n ≤ 1
  rotate_left
  · have hr := hide (show rlS m.data.toList t.data.toList n = ([], 4) by unfold rlS; rw [if_neg]; exact fun h => h3 h.2.2)
    have hb : decide (n < 0) = true ∨ (decide (n < 0) = false ∧ decide (1 < n) = true) := by
      by_cases h : n < 0
      · exact .inl (decide_eq_true h)
      · exact .inr ⟨decide_eq_false h, decide_eq_true (by omega)⟩
    clear h1 h2 h3
    rcases hb with h | ⟨h, h'⟩
    all_goals
      go_enter Tryz.func9, Tryz.ntmps9
      go_wp2_with fail
      refine (unhide c1 _).mono ?_; rintro e w1 ⟨rfl, hb1⟩
      go_wp2_with fail
      refine (unhide c2 _).mono ?_; rintro e w2 ⟨rfl, hb2⟩
      replace hb2 := hb1.trans (hb2.mono hb1.size)
      clear hb1
      go_wp2_with fail
      go_ret2
      exact ⟨by rw [unhide hr] <;> rfl, hb2⟩
  obtain ⟨h3, h4⟩ := h3
  have ci := hide (fun w ht => itoa_any n (by omega) (by omega) w ht)
  have zi := itoa_size n (by omega) (by omega)
  have hid : (itoaB n).data.toList = Lib.itoa n := rfl
  obtain ⟨I, hI⟩ : ∃ I, itoaB n = I := ⟨_, rfl⟩
  rw [hI] at ci zi hid
  have hr := hide (show rlS m.data.toList t.data.toList n = (rlT m.data.toList t.data.toList n, 0) by unfold rlS; rw [if_pos ⟨h1, h2, h3, h4⟩])
  have k1 : decide (n < 0) = false := decide_eq_false (by omega)
  have k2 : decide (1 < n) = false := decide_eq_false (by omega)
  have hres : ((((((m ++ ⟨#[32]⟩) ++ t) ++ ⟨#[32]⟩) ++ ⟨#[72, 84, 84, 80, 47]⟩) ++ ⟨#[49, 46]⟩) ++ I : ByteArray) = ofL (rlT m.data.toList t.data.toList n) := by
    refine ba_eq ?_
    rw [app_data, app_data, app_data, app_data, app_data, app_data, hid]
    rfl
  have HRES := Lib.hid hres
  have z1 : (⟨#[32]⟩ : ByteArray).size = 1 := rfl
  have z2 : (⟨#[72, 84, 84, 80, 47]⟩ : ByteArray).size = 5 := rfl
  have z3 : (⟨#[49, 46]⟩ : ByteArray).size = 2 := rfl
  clear h1 h2 h3 h4 hI hid hres
  go_enter Tryz.func9, Tryz.ntmps9
  go_wp2_with fail
  refine (unhide c1 _).mono ?_; rintro e w1 ⟨rfl, hb1⟩
  go_wp2_with fail
  refine (unhide c2 _).mono ?_; rintro e w2 ⟨rfl, hb2⟩
  replace hb2 := hb1.trans (hb2.mono hb1.size)
  clear hb1
  go_wp2_with fail
  refine (unhide ci _ ((unhide HT).below hb2)).mono ?_; rintro e w3 ⟨rfl, hb3⟩
  replace hb3 := hb2.trans (hb3.mono hb2.size)
  clear hb2
  go_wp2_with fail
  go_ret2
  exact ⟨by rw [unhide hr, ← HRES.out] <;> rfl, hb3⟩

set_option maxRecDepth 100000 in
set_option maxHeartbeats 2000000 in
theorem statLine_any (n st : Int) (r : ByteArray) (hr0 : r.size ≤ 1000000) (w : World) (hT : Pow10 w) :
    Calls Tryz.prog 10 #[.int .i64 n, .int .i64 st, .string r] w fun e w' => e = .returned (.tuple #[.string (ofL (slS n st r.data.toList).1), .int .i64 (slS n st r.data.toList).2]) ∧ Below w.heap.size w w' := by
  have c1 := hide (fun w => svalue_any r hr0 w)
  have HT := hide hT
  clear hT
  by_cases h3 : 0 ≤ n ∧ n ≤ 1 ∧ 100 ≤ st ∧ st ≤ 599
  rotate_left
  · have hr := hide (show slS n st r.data.toList = ([], 4) by unfold slS; rw [if_neg]; exact fun h => h3 ⟨h.1, h.2.1, h.2.2.1, h.2.2.2.1⟩)
    have hb : decide (n < 0) = true ∨ (decide (n < 0) = false ∧ decide (1 < n) = true) ∨ (decide (n < 0) = false ∧ decide (1 < n) = false ∧ decide (st < 100) = true) ∨ (decide (n < 0) = false ∧ decide (1 < n) = false ∧ decide (st < 100) = false ∧ decide (599 < st) = true) := by
      by_cases k1 : n < 0
      · exact .inl (decide_eq_true k1)
      · by_cases k2 : 1 < n
        · exact .inr (.inl ⟨decide_eq_false k1, decide_eq_true k2⟩)
        · by_cases k3 : st < 100
          · exact .inr (.inr (.inl ⟨decide_eq_false k1, decide_eq_false k2, decide_eq_true k3⟩))
          · exact .inr (.inr (.inr ⟨decide_eq_false k1, decide_eq_false k2, decide_eq_false k3, decide_eq_true (by omega)⟩))
    clear h3
    rcases hb with g1 | ⟨g1, g2⟩ | ⟨g1, g2, g3⟩ | ⟨g1, g2, g3, g4⟩
    all_goals
      go_enter Tryz.func10, Tryz.ntmps10
      go_wp2_with fail
      go_ret2
      exact ⟨by rw [unhide hr] <;> rfl, Below.refl _ _⟩
  obtain ⟨h3, h4, h5, h6⟩ := h3
  have k1 : decide (n < 0) = false := decide_eq_false (by omega)
  have k2 : decide (1 < n) = false := decide_eq_false (by omega)
  have k3 : decide (st < 100) = false := decide_eq_false (by omega)
  have k4 : decide (599 < st) = false := decide_eq_false (by omega)
  by_cases h1 : allS chr r.data.toList = true
  rotate_left
  · have hr := hide (show slS n st r.data.toList = ([], 4) by unfold slS; rw [if_neg]; exact fun h => h1 h.2.2.2.2)
    rw [Bool.not_eq_true] at h1
    rw [h1] at c1
    clear h1 h3 h4 h5 h6
    go_enter Tryz.func10, Tryz.ntmps10
    go_wp2_with fail
    refine (unhide c1 _).mono ?_; rintro e w1 ⟨rfl, hb1⟩
    go_wp2_with fail
    go_ret2
    exact ⟨by rw [unhide hr] <;> rfl, hb1⟩
  rw [h1] at c1
  have ci := hide (fun w ht => itoa_any n (by omega) (by omega) w ht)
  have zi := itoa_size n (by omega) (by omega)
  have hid : (itoaB n).data.toList = Lib.itoa n := rfl
  have cj := hide (fun w ht => itoa_any st (by omega) (by omega) w ht)
  have zj := itoa_size st (by omega) (by omega)
  have hjd : (itoaB st).data.toList = Lib.itoa st := rfl
  obtain ⟨I, hI⟩ : ∃ I, itoaB n = I := ⟨_, rfl⟩
  obtain ⟨J, hJ⟩ : ∃ J, itoaB st = J := ⟨_, rfl⟩
  rw [hI] at ci zi hid
  rw [hJ] at cj zj hjd
  have hr := hide (show slS n st r.data.toList = (slT n st r.data.toList, 0) by unfold slS; rw [if_pos ⟨h3, h4, h5, h6, h1⟩])
  have hres : ((((((⟨#[72, 84, 84, 80, 47, 49, 46]⟩ : ByteArray) ++ I) ++ ⟨#[32]⟩) ++ J) ++ ⟨#[32]⟩) ++ r : ByteArray) = ofL (slT n st r.data.toList) := by
    refine ba_eq ?_
    rw [app_data, app_data, app_data, app_data, app_data, hid, hjd]
    rfl
  have HRES := Lib.hid hres
  have z1 : (⟨#[32]⟩ : ByteArray).size = 1 := rfl
  have z2 : (⟨#[72, 84, 84, 80, 47, 49, 46]⟩ : ByteArray).size = 7 := rfl
  clear h1 h3 h4 h5 h6 hI hJ hid hjd hres
  go_enter Tryz.func10, Tryz.ntmps10
  go_wp2_with fail
  refine (unhide c1 _).mono ?_; rintro e w1 ⟨rfl, hb1⟩
  go_wp2_with fail
  refine (unhide ci _ ((unhide HT).below hb1)).mono ?_; rintro e w2 ⟨rfl, hb2⟩
  replace hb2 := hb1.trans (hb2.mono hb1.size)
  clear hb1
  go_wp2_with fail
  refine (unhide cj _ ((unhide HT).below hb2)).mono ?_; rintro e w3 ⟨rfl, hb3⟩
  replace hb3 := hb2.trans (hb3.mono hb2.size)
  clear hb2
  go_wp2_with fail
  go_ret2
  exact ⟨by rw [unhide hr, ← HRES.out] <;> rfl, hb3⟩
end Go.Proofs.YtfkobhagdjaleaaGreatDoor.Sp
