/- Lemmas for the statement's proof, several texts in one: S2, T8, T9, S3. -/
import Derived.Test.YtbpopmbabckojaaGreatDoorZ11
import Derived.Test.YtbpopmbabckojaaGreatDoorZ10
set_option linter.unusedVariables false
set_option linter.unusedSimpArgs false
/- start.RequestLine, StatusLine. -/
section
namespace Go.Proofs.YtbpopmbabckojaaGreatDoor.Sp
open Go.RowKit Sl

def httpV : List UInt8 := [72, 84, 84, 80, 47]
def rlOK (m t : List UInt8) (n : Int) : Prop := tokenS m = true ∧ seenS t = true ∧ 0 ≤ n ∧ n ≤ 1
instance (m t : List UInt8) (n : Int) : Decidable (rlOK m t n) := by unfold rlOK; infer_instance
def rlT (m t : List UInt8) (n : Int) : List UInt8 := m ++ [32] ++ t ++ [32] ++ httpV ++ [49, 46] ++ Lib.itoa n
def rlS (m t : List UInt8) (n : Int) : List UInt8 × Int := if rlOK m t n then (rlT m t n, 0) else ([], 4)
def slOK (n st : Int) (r : List UInt8) : Prop := 0 ≤ n ∧ n ≤ 1 ∧ 100 ≤ st ∧ st ≤ 599 ∧ allS chr r = true
instance (n st : Int) (r : List UInt8) : Decidable (slOK n st r) := by unfold slOK; infer_instance
def slT (n st : Int) (r : List UInt8) : List UInt8 := httpV ++ [49, 46] ++ Lib.itoa n ++ [32] ++ Lib.itoa st ++ [32] ++ r
def slS (n st : Int) (r : List UInt8) : List UInt8 × Int := if slOK n st r then (slT n st r, 0) else ([], 4)

set_option maxRecDepth 100000 in
set_option maxHeartbeats 2000000 in
theorem reqLine_any (m t : ByteArray) (n : Int) (hm : m.size ≤ 1000000) (ht : t.size ≤ 1000000) (w : World) (hT : Pow10 w) :
    Calls Tryz.prog 68 #[.string m, .string t, .int .i64 n] w fun e w' => e = .returned (.tuple #[.string (ofL (rlS m.data.toList t.data.toList n).1), .int .i64 (rlS m.data.toList t.data.toList n).2]) ∧ Below w.heap.size w w' := by
  have c1 := hide (fun w => token_any m (by omega) w)
  have c2 := hide (fun w => seen_any t w)
  have HT := hide hT
  clear hT
  by_cases h1 : tokenS m.data.toList = true
  rotate_left
  · have hr := hide (show rlS m.data.toList t.data.toList n = ([], 4) by unfold rlS; rw [if_neg]; exact fun h => h1 h.1)
    rw [Bool.not_eq_true] at h1
    rw [h1] at c1
    clear h1 c2
    go_enter Tryz.func68, Tryz.ntmps68
    go_wp2_with fail
    refine (unhide c1 _).mono ?_; rintro e w1 ⟨rfl, hb1⟩
    go_wp2_with fail
    go_ret2
    exact ⟨by rw [unhide hr] <;> rfl, hb1⟩
  rw [h1] at c1
  by_cases h2 : seenS t.data.toList = true
  rotate_left
  · have hr := hide (show rlS m.data.toList t.data.toList n = ([], 4) by unfold rlS; rw [if_neg]; exact fun h => h2 h.2.1)
    rw [Bool.not_eq_true] at h2
    rw [h2] at c2
    clear h1 h2
    go_enter Tryz.func68, Tryz.ntmps68
    go_wp2_with fail
    refine (unhide c1 _).mono ?_; rintro e w1 ⟨rfl, hb1⟩
    go_wp2_with fail
    refine (unhide c2 _).mono ?_; rintro e w2 ⟨rfl, hb2⟩
    replace hb2 := hb1.trans (hb2.mono hb1.size)
    clear hb1
    go_wp2_with fail
    go_ret2
    exact ⟨by rw [unhide hr] <;> rfl, hb2⟩
  rw [h2] at c2
  by_cases h3 : 0 ≤ n ∧ n ≤ 1
  rotate_left
  · have hr := hide (show rlS m.data.toList t.data.toList n = ([], 4) by unfold rlS; rw [if_neg]; exact fun h => h3 h.2.2)
    have hb : decide (n < 0) = true ∨ (decide (n < 0) = false ∧ decide (1 < n) = true) := by
      by_cases h : n < 0
      · exact .inl (decide_eq_true h)
      · exact .inr ⟨decide_eq_false h, decide_eq_true (by omega)⟩
    clear h1 h2 h3
    rcases hb with h | ⟨h, h'⟩
    all_goals
      go_enter Tryz.func68, Tryz.ntmps68
      go_wp2_with fail
      refine (unhide c1 _).mono ?_; rintro e w1 ⟨rfl, hb1⟩
      go_wp2_with fail
      refine (unhide c2 _).mono ?_; rintro e w2 ⟨rfl, hb2⟩
      replace hb2 := hb1.trans (hb2.mono hb1.size)
      clear hb1
      go_wp2_with fail
      go_ret2
      exact ⟨by rw [unhide hr] <;> rfl, hb2⟩
  obtain ⟨h3, h4⟩ := h3
  have ci := hide (fun w ht => itoa_any n (by omega) (by omega) w ht)
  have zi := itoa_size n (by omega) (by omega)
  have hid : (itoaB n).data.toList = Lib.itoa n := rfl
  obtain ⟨I, hI⟩ : ∃ I, itoaB n = I := ⟨_, rfl⟩
  rw [hI] at ci zi hid
  have hr := hide (show rlS m.data.toList t.data.toList n = (rlT m.data.toList t.data.toList n, 0) by unfold rlS; rw [if_pos ⟨h1, h2, h3, h4⟩])
  have k1 : decide (n < 0) = false := decide_eq_false (by omega)
  have k2 : decide (1 < n) = false := decide_eq_false (by omega)
  have hres : ((((((m ++ ⟨#[32]⟩) ++ t) ++ ⟨#[32]⟩) ++ ⟨#[72, 84, 84, 80, 47]⟩) ++ ⟨#[49, 46]⟩) ++ I : ByteArray) = ofL (rlT m.data.toList t.data.toList n) := by
    refine ba_eq ?_
    rw [app_data, app_data, app_data, app_data, app_data, app_data, hid]
    rfl
  have HRES := Lib.hid hres
  have z1 : (⟨#[32]⟩ : ByteArray).size = 1 := rfl
  have z2 : (⟨#[72, 84, 84, 80, 47]⟩ : ByteArray).size = 5 := rfl
  have z3 : (⟨#[49, 46]⟩ : ByteArray).size = 2 := rfl
  clear h1 h2 h3 h4 hI hid hres
  go_enter Tryz.func68, Tryz.ntmps68
  go_wp2_with fail
  refine (unhide c1 _).mono ?_; rintro e w1 ⟨rfl, hb1⟩
  go_wp2_with fail
  refine (unhide c2 _).mono ?_; rintro e w2 ⟨rfl, hb2⟩
  replace hb2 := hb1.trans (hb2.mono hb1.size)
  clear hb1
  go_wp2_with fail
  refine (unhide ci _ ((unhide HT).below hb2)).mono ?_; rintro e w3 ⟨rfl, hb3⟩
  replace hb3 := hb2.trans (hb3.mono hb2.size)
  clear hb2
  go_wp2_with fail
  go_ret2
  exact ⟨by rw [unhide hr, ← HRES.out] <;> rfl, hb3⟩

set_option maxRecDepth 100000 in
set_option maxHeartbeats 2000000 in
theorem statLine_any (n st : Int) (r : ByteArray) (hr0 : r.size ≤ 1000000) (w : World) (hT : Pow10 w) :
    Calls Tryz.prog 69 #[.int .i64 n, .int .i64 st, .string r] w fun e w' => e = .returned (.tuple #[.string (ofL (slS n st r.data.toList).1), .int .i64 (slS n st r.data.toList).2]) ∧ Below w.heap.size w w' := by
  have c1 := hide (fun w => svalue_any r hr0 w)
  have HT := hide hT
  clear hT
  by_cases h3 : 0 ≤ n ∧ n ≤ 1 ∧ 100 ≤ st ∧ st ≤ 599
  rotate_left
  · have hr := hide (show slS n st r.data.toList = ([], 4) by unfold slS; rw [if_neg]; exact fun h => h3 ⟨h.1, h.2.1, h.2.2.1, h.2.2.2.1⟩)
    have hb : decide (n < 0) = true ∨ (decide (n < 0) = false ∧ decide (1 < n) = true) ∨ (decide (n < 0) = false ∧ decide (1 < n) = false ∧ decide (st < 100) = true) ∨ (decide (n < 0) = false ∧ decide (1 < n) = false ∧ decide (st < 100) = false ∧ decide (599 < st) = true) := by
      by_cases k1 : n < 0
      · exact .inl (decide_eq_true k1)
      · by_cases k2 : 1 < n
        · exact .inr (.inl ⟨decide_eq_false k1, decide_eq_true k2⟩)
        · by_cases k3 : st < 100
          · exact .inr (.inr (.inl ⟨decide_eq_false k1, decide_eq_false k2, decide_eq_true k3⟩))
          · exact .inr (.inr (.inr ⟨decide_eq_false k1, decide_eq_false k2, decide_eq_false k3, decide_eq_true (by omega)⟩))
    clear h3
    rcases hb with g1 | ⟨g1, g2⟩ | ⟨g1, g2, g3⟩ | ⟨g1, g2, g3, g4⟩
    all_goals
      go_enter Tryz.func69, Tryz.ntmps69
      go_wp2_with fail
      go_ret2
      exact ⟨by rw [unhide hr] <;> rfl, Below.refl _ _⟩
  obtain ⟨h3, h4, h5, h6⟩ := h3
  have k1 : decide (n < 0) = false := decide_eq_false (by omega)
  have k2 : decide (1 < n) = false := decide_eq_false (by omega)
  have k3 : decide (st < 100) = false := decide_eq_false (by omega)
  have k4 : decide (599 < st) = false := decide_eq_false (by omega)
  by_cases h1 : allS chr r.data.toList = true
  rotate_left
  · have hr := hide (show slS n st r.data.toList = ([], 4) by unfold slS; rw [if_neg]; exact fun h => h1 h.2.2.2.2)
    rw [Bool.not_eq_true] at h1
    rw [h1] at c1
    clear h1 h3 h4 h5 h6
    go_enter Tryz.func69, Tryz.ntmps69
    go_wp2_with fail
    refine (unhide c1 _).mono ?_; rintro e w1 ⟨rfl, hb1⟩
    go_wp2_with fail
    go_ret2
    exact ⟨by rw [unhide hr] <;> rfl, hb1⟩
  rw [h1] at c1
  have ci := hide (fun w ht => itoa_any n (by omega) (by omega) w ht)
  have zi := itoa_size n (by omega) (by omega)
  have hid : (itoaB n).data.toList = Lib.itoa n := rfl
  have cj := hide (fun w ht => itoa_any st (by omega) (by omega) w ht)
  have zj := itoa_size st (by omega) (by omega)
  have hjd : (itoaB st).data.toList = Lib.itoa st := rfl
  obtain ⟨I, hI⟩ : ∃ I, itoaB n = I := ⟨_, rfl⟩
  obtain ⟨J, hJ⟩ : ∃ J, itoaB st = J := ⟨_, rfl⟩
  rw [hI] at ci zi hid
  rw [hJ] at cj zj hjd
  have hr := hide (show slS n st r.data.toList = (slT n st r.data.toList, 0) by unfold slS; rw [if_pos ⟨h3, h4, h5, h6, h1⟩])
  have hres : ((((((⟨#[72, 84, 84, 80, 47, 49, 46]⟩ : ByteArray) ++ I) ++ ⟨#[32]⟩) ++ J) ++ ⟨#[32]⟩) ++ r : ByteArray) = ofL (slT n st r.data.toList) := by
    refine ba_eq ?_
    rw [app_data, app_data, app_data, app_data, app_data, hid, hjd]
    rfl
  have HRES := Lib.hid hres
  have z1 : (⟨#[32]⟩ : ByteArray).size = 1 := rfl
  have z2 : (⟨#[72, 84, 84, 80, 47, 49, 46]⟩ : ByteArray).size = 7 := rfl
  clear h1 h3 h4 h5 h6 hI hJ hid hjd hres
  go_enter Tryz.func69, Tryz.ntmps69
  go_wp2_with fail
  refine (unhide c1 _).mono ?_; rintro e w1 ⟨rfl, hb1⟩
  go_wp2_with fail
  refine (unhide ci _ ((unhide HT).below hb1)).mono ?_; rintro e w2 ⟨rfl, hb2⟩
  replace hb2 := hb1.trans (hb2.mono hb1.size)
  clear hb1
  go_wp2_with fail
  refine (unhide cj _ ((unhide HT).below hb2)).mono ?_; rintro e w3 ⟨rfl, hb3⟩
  replace hb3 := hb2.trans (hb3.mono hb2.size)
  clear hb2
  go_wp2_with fail
  go_ret2
  exact ⟨by rw [unhide hr, ← HRES.out] <;> rfl, hb3⟩
end Go.Proofs.YtbpopmbabckojaaGreatDoor.Sp
end

/- kit: Same of texts, Pick, Times. -/
section
namespace Go.Proofs.YtbpopmbabckojaaGreatDoor.Sp
open Go.RowKit Sl


/-- Pick at 30. -/
def pick (n m : Int) : Int := if m < 1 then 0 else if n.tmod m < 0 then n.tmod m + m else n.tmod m
theorem pick_bd (n m : Int) (hm : 1 ≤ m) : 0 ≤ pick n m ∧ pick n m < m := by
  unfold pick
  rw [if_neg (by omega)]
  have h1 := Int.tmod_lt_of_pos n (show (0 : Int) < m by omega)
  have h2 : -m < n.tmod m := by
    have := Int.tmod_lt_of_pos (-n) (show (0 : Int) < m by omega)
    rw [Int.neg_tmod] at this
    omega
  split <;> omega

theorem pick_any (n m : Int) (w : World) (hm : m ≤ 1048577) :
    Calls Tryz.prog 20 #[.int .i64 n, .int .i64 m] w fun e w' => e = .returned (.int .i64 (pick n m)) ∧ w = w' := by
  by_cases h : m < 1
  · have e : pick n m = 0 := if_pos h
    rw [e]
    go_enter Tryz.func20, Tryz.ntmps20
    go_wp2
    go_ret
    exact ⟨rfl, rfl⟩
  · have h1 := Int.tmod_lt_of_pos n (show (0 : Int) < m by omega)
    have h2 : -m < n.tmod m := by
      have := Int.tmod_lt_of_pos (-n) (show (0 : Int) < m by omega)
      rw [Int.neg_tmod] at this
      omega
    have hm1 : 1 ≤ m := by omega
    by_cases hneg : n.tmod m < 0
    · have e : pick n m = n.tmod m + m := by unfold pick; rw [if_neg h, if_pos hneg]
      rw [e]
      have hn : ¬ 0 ≤ n := fun h0 => by have := Int.tmod_nonneg m h0; omega
      go_enter Tryz.func20, Tryz.ntmps20
      go_wp2
      go_ret
      exact ⟨rfl, rfl⟩
    · have e : pick n m = n.tmod m := by unfold pick; rw [if_neg h, if_neg hneg]
      rw [e]
      by_cases hn : 0 ≤ n
      · rw [Int.tmod_eq_emod_of_nonneg hn] at hneg h1 h2 ⊢
        go_enter Tryz.func20, Tryz.ntmps20
        go_wp2
        go_ret
        exact ⟨rfl, rfl⟩
      · go_enter Tryz.func20, Tryz.ntmps20
        go_wp2
        go_ret
        exact ⟨rfl, rfl⟩
end Go.Proofs.YtbpopmbabckojaaGreatDoor.Sp
end

/- Plain: what TokenNumbers says of a number's digits. -/
section
namespace Go.Proofs.YtbpopmbabckojaaGreatDoor.Sp
open Go.RowKit

theorem decD_small (u : Nat) (h : u < 10) : Lib.decDigits u = [UInt8.ofNat (48 + u)] := by rw [Lib.decDigits, dif_pos h]
theorem decD_more (u : Nat) (h : 10 ≤ u) : Lib.decDigits u = Lib.decDigits (u / 10) ++ [UInt8.ofNat (48 + u % 10)] := by
  conv => lhs; rw [Lib.decDigits, dif_neg (by omega)]
theorem u8_48 (d : Nat) (h : d < 10) : (UInt8.ofNat (48 + d)).toNat = 48 + d := by
  simp [Nat.mod_eq_of_lt (show 48 + d < 256 by omega)]
theorem dig_48 (d : Nat) (h : d < 10) : digB (UInt8.ofNat (48 + d)) = true := by
  refine digB_of ?_
  rw [u8_48 d h]
  omega
theorem dec_law : ∀ (n u : Nat), u ≤ n → (Lib.decDigits u).all digB = true ∧ valN (Lib.decDigits u) = u ∧ Lib.decDigits u ≠ [] := by
  intro n
  induction n with
  | zero =>
    intro u hu
    obtain rfl : u = 0 := by omega
    decide +kernel
  | succ n ih =>
    intro u hu
    rcases Nat.lt_or_ge u 10 with h | h
    · rw [decD_small u h]
      refine ⟨by rw [List.all_cons, dig_48 u h]; rfl, ?_, by simp⟩
      unfold valN
      rw [valF_cons, u8_48 u h, valF_nil]
      omega
    · obtain ⟨h1, h2, h3⟩ := ih (u / 10) (by omega)
      rw [decD_more u h]
      refine ⟨by rw [List.all_append, h1, List.all_cons, dig_48 _ (by omega)]; rfl, ?_, by simp⟩
      unfold valN at h2 ⊢
      rw [valF_app, h2, valF_cons, u8_48 _ (by omega)]
      rw [valF_nil]
      omega
theorem val_noughts : ∀ z : Nat, valF 0 (List.replicate z 48) = 0
  | 0 => by unfold valF; rfl
  | z + 1 => by
    rw [List.replicate_succ, valF_cons]
    exact val_noughts z
theorem all_noughts (z : Nat) : (List.replicate z (48 : UInt8)).all digB = true := by
  rw [List.all_eq_true]
  intro c hc
  rw [(List.mem_replicate.1 hc).2]
  decide
theorem num_digs (z n : Nat) : digsS (List.replicate z 48 ++ Lib.decDigits n) = true ∧ valN (List.replicate z 48 ++ Lib.decDigits n) = n := by
  obtain ⟨h1, h2, h3⟩ := dec_law n n (Nat.le_refl _)
  refine ⟨?_, ?_⟩
  · unfold digsS
    rw [List.all_append, all_noughts, h1]
    cases hd : Lib.decDigits n with
    | nil => exact absurd hd h3
    | cons c t => simp
  · unfold valN at h2 ⊢
    rw [valF_app, val_noughts, h2]
theorem num_law (z n : Nat) : numS (List.replicate z 48 ++ Lib.decDigits n) = if n ≤ 9007199254740991 then ((n : Int), 0) else (0, 3) := by
  obtain ⟨h1, h2⟩ := num_digs z n
  unfold numS
  rw [if_pos h1, h2]
theorem num_mid (x y : List UInt8) (c : UInt8) (h : digB c = false) : numS (x ++ [c] ++ y) = (0, 4) := by
  refine numS_bad ?_
  unfold digsS
  rw [List.all_append, List.all_append, List.all_cons, h]
  simp
end Go.Proofs.YtbpopmbabckojaaGreatDoor.Sp
end

/- Plain: lines that are written are read as what they say, and the other way round. -/
section
namespace Go.Proofs.YtbpopmbabckojaaGreatDoor.Sp
open Go.RowKit Sl

theorem cut_join (c : UInt8) : ∀ (x y : List UInt8), (∀ b ∈ x, b ≠ c) → cutS c (x ++ c :: y) = (x, y, true)
  | [], y, _ => by
    show cutS c (c :: y) = _
    unfold cutS; rw [if_pos rfl]
  | b :: x, y, h => by
    have ih := cut_join c x y (fun d hd => h d (List.mem_cons_of_mem _ hd))
    show cutS c (b :: (x ++ c :: y)) = _
    unfold cutS
    rw [if_neg (h b List.mem_cons_self), ih]
theorem cut_back (c : UInt8) : ∀ l : List UInt8, (cutS c l).2.2 = true → l = (cutS c l).1 ++ c :: (cutS c l).2.1
  | [], h => by cases h
  | b :: l, h => by
    unfold cutS at h ⊢
    by_cases hb : b = c
    · rw [if_pos hb, hb]; rfl
    · rw [if_neg hb] at h ⊢
      have ih := cut_back c l h
      show b :: l = b :: ((cutS c l).1 ++ c :: (cutS c l).2.1)
      rw [← ih]
theorem tok_no32 {l : List UInt8} (h : tokenS l = true) : ∀ b ∈ l, b ≠ 32 := by
  unfold tokenS allS at h
  rw [Bool.and_eq_true, List.all_eq_true] at h
  intro b hb e
  have := h.2 b hb
  rw [e] at this
  revert this; decide
theorem seen_no32 {l : List UInt8} (h : seenS l = true) : ∀ b ∈ l, b ≠ 32 := by
  unfold seenS at h
  rw [Bool.and_eq_true, List.all_eq_true] at h
  intro b hb e
  have := h.2 b hb
  rw [e] at this
  revert this; decide
def verT (n : Int) : List UInt8 := httpV ++ [49, 46] ++ Lib.itoa n
theorem ver_verT {n : Int} (h0 : 0 ≤ n) (h1 : n ≤ 1) : ver (verT n) = (n, 0) := by
  have : n = 0 ∨ n = 1 := by omega
  rcases this with rfl | rfl <;> decide +kernel
theorem verT_no32 {n : Int} (h0 : 0 ≤ n) (h1 : n ≤ 1) : ∀ b ∈ verT n, b ≠ 32 := by
  have : n = 0 ∨ n = 1 := by omega
  rcases this with rfl | rfl <;> decide +kernel
theorem ver_back {l : List UInt8} (h : (ver l).2 = 0) : l = verT (ver l).1 ∧ 0 ≤ (ver l).1 ∧ (ver l).1 ≤ 1 := by
  by_cases hp : Lib.hasPrefix l verP = true ∧ (l.drop 5).length = 3
  · have hv : ver l = verC (l.getD 5 0) (l.getD 6 0) (l.getD 7 0) := by unfold ver; rw [if_pos hp]
    obtain ⟨hpre, hlen⟩ := hp
    unfold Lib.hasPrefix at hpre
    rw [List.isPrefixOf_iff_prefix] at hpre
    obtain ⟨t, ht⟩ := hpre
    have htd : l.drop 5 = t := by rw [← ht]; rfl
    rw [htd] at hlen
    obtain ⟨a, b, c, rfl⟩ : ∃ a b c, t = [a, b, c] := by
      match t, hlen with
      | [a, b, c], _ => exact ⟨a, b, c, rfl⟩
    rw [← ht] at hv
    have hv2 : ver (verP ++ [a, b, c]) = verC a b c := hv
    rw [← ht] at h ⊢
    rw [hv2] at h ⊢
    by_cases hd : digI a.toNat = true ∧ b.toNat = 46 ∧ digI c.toNat = true
    · by_cases ho : a.toNat ≠ 49 ∨ 49 < c.toNat
      · rw [verC_other hd ho] at h; exact absurd h (by decide)
      · rw [verC_ok hd ho]
        have hc := digI_t hd.2.2
        have ha : a = 49 := u8_eq (n := 49) (by omega)
        have hb : b = 46 := u8_eq (n := 46) (by omega)
        have hcc : c = 48 ∨ c = 49 := by
          have : c.toNat = 48 ∨ c.toNat = 49 := by omega
          rcases this with h | h
          · exact .inl (u8_eq (n := 48) (by omega))
          · exact .inr (u8_eq (n := 49) (by omega))
        subst ha hb
        rcases hcc with rfl | rfl <;> decide +kernel
    · rw [verC_bad hd] at h; exact absurd h (by decide)
  · have hv : ver l = (0, 400) := by unfold ver; rw [if_neg hp]
    rw [hv] at h; exact absurd h (by decide)

/-! ### requests -/
theorem rlT_eq (m t : List UInt8) (n : Int) : rlT m t n = m ++ 32 :: (t ++ 32 :: verT n) := by unfold rlT verT; simp
theorem back_req {m t : List UInt8} {n : Int} (h : rlOK m t n) : req (rlT m t n) = (m, t, n, 0) := by
  obtain ⟨h1, h2, h3, h4⟩ := h
  have c1 : cutS 32 (rlT m t n) = (m, t ++ 32 :: verT n, true) := by rw [rlT_eq]; exact cut_join 32 m _ (tok_no32 h1)
  have c2 : cutS 32 (t ++ 32 :: verT n) = (t, verT n, true) := cut_join 32 t _ (seen_no32 h2)
  have hv : reqV (rlT m t n) = (n, 0) := by unfold reqV; rw [c1, c2]; exact ver_verT h3 h4
  have hok : reqOK (rlT m t n) = true := by unfold reqOK; rw [c1, c2, h1, h2]; rfl
  unfold req
  rw [if_pos hok, hv, if_pos rfl, c1, c2]
theorem req_parts {l : List UInt8} (h : (req l).2.2.2 = 0) : reqOK l = true ∧ (reqV l).2 = 0 ∧ req l = ((cutS 32 l).1, (cutS 32 (cutS 32 l).2.1).1, reqV l) := by
  unfold req at h ⊢
  by_cases h1 : reqOK l = true
  · rw [if_pos h1] at h ⊢
    by_cases h2 : (reqV l).2 = 0
    · rw [if_pos h2]; exact ⟨h1, h2, rfl⟩
    · rw [if_neg h2] at h; exact absurd h h2
  · rw [if_neg h1] at h; exact absurd h (by decide)
theorem req_fwd {l : List UInt8} (h : (req l).2.2.2 = 0) : rlS (req l).1 (req l).2.1 (req l).2.2.1 = (l, 0) := by
  obtain ⟨h1, h2, h3⟩ := req_parts h
  rw [h3]
  unfold reqOK at h1
  simp only [Bool.and_eq_true] at h1
  obtain ⟨⟨⟨k1, k2⟩, k3⟩, k4⟩ := h1
  unfold reqV at h2
  obtain ⟨v1, v2, v3⟩ := ver_back h2
  have e1 := cut_back 32 _ k1
  have e2 := cut_back 32 _ k2
  have hok : rlOK (cutS 32 l).1 (cutS 32 (cutS 32 l).2.1).1 (reqV l).1 := ⟨k3, k4, v2, v3⟩
  show rlS (cutS 32 l).1 (cutS 32 (cutS 32 l).2.1).1 (reqV l).1 = _
  unfold rlS
  rw [if_pos hok, rlT_eq]
  have e3 : verT (reqV l).1 = (cutS 32 (cutS 32 l).2.1).2.1 := v1.symm
  rw [e3, ← e2, ← e1]
theorem req_none {l : List UInt8} (h : (req l).2.2.2 ≠ 0) : (req l).1 = [] ∧ (req l).2.1 = [] := by
  unfold req at h ⊢
  by_cases h1 : reqOK l = true
  · rw [if_pos h1] at h ⊢
    by_cases h2 : (reqV l).2 = 0
    · rw [if_pos h2] at h; exact absurd h2 h
    · rw [if_neg h2]; exact ⟨rfl, rfl⟩
  · rw [if_neg h1]; exact ⟨rfl, rfl⟩

/-! ### responses -/
theorem slT_eq (n st : Int) (r : List UInt8) : slT n st r = verT n ++ 32 :: (Lib.itoa st ++ 32 :: r) := by unfold slT verT; simp
theorem itoa_three : ((List.range 600).all fun k => decide (k < 100) || ((Lib.itoa (k : Int)).length == 3 && (Lib.itoa (k : Int)).all digB && valN (Lib.itoa (k : Int)) == k)) = true := by decide +kernel
theorem itoa_st {st : Int} (h0 : 100 ≤ st) (h1 : st ≤ 599) : (Lib.itoa st).length = 3 ∧ (Lib.itoa st).all digB = true ∧ (valN (Lib.itoa st) : Int) = st := by
  have h := itoa_three
  rw [List.all_eq_true] at h
  have h2 := h st.toNat (List.mem_range.2 (by omega))
  rw [show ((st.toNat : Nat) : Int) = st by omega, decide_eq_false (by omega), Bool.false_or] at h2
  simp only [Bool.and_eq_true, beq_iff_eq] at h2
  exact ⟨h2.1.1, h2.1.2, by omega⟩
theorem dig_no32 {l : List UInt8} (h : l.all digB = true) : ∀ b ∈ l, b ≠ 32 := by
  rw [List.all_eq_true] at h
  intro b hb e
  have := h b hb
  rw [e] at this
  revert this; decide
theorem digs_of {l : List UInt8} (h : l.all digB = true) (h3 : l.length = 3) : digsS l = true := by
  unfold digsS
  rw [h, Bool.and_true]
  cases l with
  | nil => cases h3
  | cons c t => rfl
theorem back_stat {n st : Int} {r : List UInt8} (h : slOK n st r) : stS (slT n st r) = (n, st, r, 0) := by
  obtain ⟨h1, h2, h3, h4, h5⟩ := h
  obtain ⟨i1, i2, i3⟩ := itoa_st h3 h4
  have c1 : cutS 32 (slT n st r) = (verT n, Lib.itoa st ++ 32 :: r, true) := by rw [slT_eq]; exact cut_join 32 _ _ (verT_no32 h1 h2)
  have c2 : cutS 32 (Lib.itoa st ++ 32 :: r) = (Lib.itoa st, r, true) := cut_join 32 _ _ (dig_no32 i2)
  have hn : numS (Lib.itoa st) = (st, 0) := by rw [numS_ok (digs_of i2 i1) (by omega), i3]
  have e1 : stV (slT n st r) = verT n := by unfold stV; rw [c1]
  have e2 : stRest (slT n st r) = Lib.itoa st ++ 32 :: r := by unfold stRest; rw [c1]
  have e3 : stDig (slT n st r) = Lib.itoa st := by unfold stDig; rw [e2, c2]
  have e4 : stWhy (slT n st r) = r := by unfold stWhy; rw [e2, c2]
  have hok : stOK (slT n st r) := by
    refine ⟨by rw [c1], by rw [e2, c2], by rw [e1, ver_verT h1 h2], by rw [e3, hn], by rw [e3]; exact i1, by rw [e3, hn]; exact h3, by rw [e3, hn]; exact h4, by rw [e4]; exact h5⟩
  rw [stS_ok hok, e1, e3, e4, hn, ver_verT h1 h2]
theorem three_inj {x y : List UInt8} (hx : x.length = 3) (hy : y.length = 3) (dx : x.all digB = true) (dy : y.all digB = true) (h : valN x = valN y) : x = y := by
  match x, hx, y, hy with
  | [a, b, c], _, [d, e, f], _ =>
    simp only [List.all_cons, List.all_nil, Bool.and_true, Bool.and_eq_true] at dx dy
    have a1 := digB_t dx.1; have a2 := digB_t dx.2.1; have a3 := digB_t dx.2.2
    have b1 := digB_t dy.1; have b2 := digB_t dy.2.1; have b3 := digB_t dy.2.2
    unfold valN at h
    simp only [valF_cons, valF_nil] at h
    have q1 : a.toNat = d.toNat := by omega
    have q2 : b.toNat = e.toNat := by omega
    have q3 : c.toNat = f.toNat := by omega
    rw [UInt8.toNat_inj.1 q1, UInt8.toNat_inj.1 q2, UInt8.toNat_inj.1 q3]
theorem stat_fwd {l : List UInt8} (h : stOK l) : slS (stS l).1 (stS l).2.1 (stS l).2.2.1 = (l, 0) := by
  have hS := stS_ok h
  obtain ⟨k1, k2, k3, k4, k5, k6, k7, k8⟩ := h
  obtain ⟨v1, v2, v3⟩ := ver_back k3
  have e1 := cut_back 32 _ k1
  have e2 := cut_back 32 _ k2
  rw [hS]
  have hd : digsS (stDig l) = true := by
    cases hh : digsS (stDig l)
    · rw [numS_bad hh] at k4; exact absurd k4 (by decide)
    · rfl
  have hall : (stDig l).all digB = true := by
    obtain ⟨_, _, _, _, ha⟩ := digsS_cons hd
    exact ha
  have hval : (numS (stDig l)).1 = (valN (stDig l) : Int) := by
    by_cases hv : valN (stDig l) ≤ 9007199254740991
    · rw [numS_ok hd hv]
    · rw [numS_long hd hv] at k4; exact absurd k4 (by decide)
  obtain ⟨i1, i2, i3⟩ := itoa_st k6 k7
  have hit : Lib.itoa (numS (stDig l)).1 = stDig l := three_inj i1 k5 i2 hall (by omega)
  have hok : slOK (ver (stV l)).1 (numS (stDig l)).1 (stWhy l) := ⟨v2, v3, k6, k7, k8⟩
  show slS (ver (stV l)).1 (numS (stDig l)).1 (stWhy l) = _
  unfold slS
  rw [if_pos hok, slT_eq, hit, ← v1]
  have e3 : stDig l ++ 32 :: stWhy l = stRest l := e2.symm
  have e4 : stV l ++ 32 :: stRest l = l := e1.symm
  rw [e3, e4]
theorem not_both {l : List UInt8} (h : (req l).2.2.2 = 0) : ¬ stOK l := by
  intro hs
  obtain ⟨h1, _, _⟩ := req_parts h
  unfold reqOK at h1
  simp only [Bool.and_eq_true] at h1
  have k3 := h1.1.2
  obtain ⟨v1, v2, v3⟩ := ver_back hs.2.2.1
  unfold stV at v1 v2 v3
  rw [v1] at k3
  have : (ver (cutS 32 l).1).1 = 0 ∨ (ver (cutS 32 l).1).1 = 1 := by omega
  rcases this with e | e <;> rw [e] at k3 <;> revert k3 <;> decide +kernel
end Go.Proofs.YtbpopmbabckojaaGreatDoor.Sp
end
