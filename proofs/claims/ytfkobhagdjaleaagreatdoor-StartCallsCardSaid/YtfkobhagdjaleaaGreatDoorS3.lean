/- Plain: lines that are written are read as what they say, and the other way round. -/
import Derived.Test.YtfkobhagdjaleaaGreatDoorS2
import Derived.Test.YtfkobhagdjaleaaGreatDoorT9
namespace Go.Proofs.YtfkobhagdjaleaaGreatDoor.Sp
open Go.RowKit Sl

theorem cut_join (c : UInt8) : ∀ (x y : List UInt8), (∀ b ∈ x, b ≠ c) → cutS c (x ++ c :: y) = (x, y, true)
  | [], y, _ => by
    show cutS c (c :: y) = _
    unfold cutS; rw [if_pos rfl]
  | b :: x, y, h => by
    have ih := cut_join c x y (fun d hd => h d (List.mem_cons_of_mem _ hd))
    show cutS c (b :: (x ++ c :: y)) = _
    unfold cutS
    rw [if_neg (h b List.mem_cons_self), ih]
theorem cut_back (c : UInt8) : ∀ l : List UInt8, (cutS c l).2.2 = true → l = (cutS c l).1 ++ c :: (cutS c l).2.1
  | [], h => by cases h
  | b :: l, h => by
    unfold cutS at h ⊢
    by_cases hb : b = c
    · rw [if_pos hb, hb]; rfl
    · rw [if_neg hb] at h ⊢
      have ih := cut_back c l h
      show b :: l = b :: ((cutS c l).1 ++ c :: (cutS c l).2.1)
      rw [← ih]
theorem tok_no32 {l : List UInt8} (h : tokenS l = true) : ∀ b ∈ l, b ≠ 32 := by
  unfold tokenS allS at h
  rw [Bool.and_eq_true, List.all_eq_true] at h
  intro b hb e
  have := h.2 b hb
  rw [e] at this
  revert this; decide
theorem seen_no32 {l : List UInt8} (h : seenS l = true) : ∀ b ∈ l, b ≠ 32 := by
  unfold seenS at h
  rw [Bool.and_eq_true, List.all_eq_true] at h
  intro b hb e
  have := h.2 b hb
  rw [e] at this
  revert this; decide
def verT (n : Int) : List UInt8 := httpV ++ [49, 46] ++ Lib.itoa n
theorem ver_verT {n : Int} (h0 : 0 ≤ n) (h1 : n ≤ 1) : ver (verT n) = (n, 0) := by
  have : n = 0 ∨ n = 1 := by omega
  rcases this with rfl | rfl <;> decide +kernel
theorem verT_no32 {n : Int} (h0 : 0 ≤ n) (h1 : n ≤ 1) : ∀ b ∈ verT n, b ≠ 32 := by
  have : n = 0 ∨ n = 1 := by omega
  rcases this with rfl | rfl <;> decide +kernel
theorem ver_back {l : List UInt8} (h : (ver l).2 = 0) : l = verT (ver l).1 ∧ 0 ≤ (ver l).1 ∧ (ver l).1 ≤ 1 := by
  by_cases hp : Lib.hasPrefix l verP = true ∧ (l.drop 5).length = 3
  · have hv : ver l = verC (l.getD 5 0) (l.getD 6 0) (l.getD 7 0) := by unfold ver; rw [if_pos hp]
    obtain ⟨hpre, hlen⟩ := hp
    unfold Lib.hasPrefix at hpre
    rw [List.isPrefixOf_iff_prefix] at hpre
    obtain ⟨t, ht⟩ := hpre
    have htd : l.drop 5 = t := by rw [← ht]; rfl
    rw [htd] at hlen
    obtain ⟨a, b, c, rfl⟩ : ∃ a b c, t = [a, b, c] := by
      match t, hlen with
      | [a, b, c], _ => exact ⟨a, b, c, rfl⟩
    rw [← ht] at hv
    have hv2 : ver (verP ++ [a, b, c]) = verC a b c := hv
    rw [← ht] at h ⊢
    rw [hv2] at h ⊢
    by_cases hd : digI a.toNat = true ∧ b.toNat = 46 ∧ digI c.toNat = true
    · by_cases ho : a.toNat ≠ 49 ∨ 49 < c.toNat
      · rw [verC_other hd ho] at h; exact absurd h (by decide)
      · rw [verC_ok hd ho]
        have hc := digI_t hd.2.2
        have ha : a = 49 := u8_eq (n := 49) (by omega)
        have hb : b = 46 := u8_eq (n := 46) (by omega)
        have hcc : c = 48 ∨ c = 49 := by
          have : c.toNat = 48 ∨ c.toNat = 49 := by omega
          rcases this with h | h
          · exact .inl (u8_eq (n := 48) (by omega))
          · exact .inr (u8_eq (n := 49) (by omega))
        subst ha hb
        rcases hcc with rfl | rfl <;> decide +kernel
    · rw [verC_bad hd] at h; exact absurd h (by decide)
  · have hv : ver l = (0, 400) := by unfold ver; rw [if_neg hp]
    rw [hv] at h; exact absurd h (by decide)

/-! ### requests -/
theorem rlT_eq (m t : List UInt8) (n : Int) : rlT m t n = m ++ 32 :: (t ++ 32 :: verT n) := by unfold rlT verT; simp
theorem back_req {m t : List UInt8} {n : Int} (h : rlOK m t n) : req (rlT m t n) = (m, t, n, 0) := by
  obtain ⟨h1, h2, h3, h4⟩ := h
  have c1 : cutS 32 (rlT m t n) = (m, t ++ 32 :: verT n, true) := by rw [rlT_eq]; exact cut_join 32 m _ (tok_no32 h1)
  have c2 : cutS 32 (t ++ 32 :: verT n) = (t, verT n, true) := cut_join 32 t _ (seen_no32 h2)
  have hv : reqV (rlT m t n) = (n, 0) := by unfold reqV; rw [c1, c2]; exact ver_verT h3 h4
  have hok : reqOK (rlT m t n) = true := by unfold reqOK; rw [c1, c2, h1, h2]; rfl
  unfold req
  rw [if_pos hok, hv, if_pos rfl, c1, c2]
theorem req_parts {l : List UInt8} (h : (req l).2.2.2 = 0) : reqOK l = true ∧ (reqV l).2 = 0 ∧ req l = ((cutS 32 l).1, (cutS 32 (cutS 32 l).2.1).1, reqV l) := by
  unfold req at h ⊢
  by_cases h1 : reqOK l = true
  · rw [if_pos h1] at h ⊢
    by_cases h2 : (reqV l).2 = 0
    · rw [if_pos h2]; exact ⟨h1, h2, rfl⟩
    · rw [if_neg h2] at h; exact absurd h h2
  · rw [if_neg h1] at h; exact absurd h (by decide)
theorem req_fwd {l : List UInt8} (h : (req l).2.2.2 = 0) : rlS (req l).1 (req l).2.1 (req l).2.2.1 = (l, 0) := by
  obtain ⟨h1, h2, h3⟩ := req_parts h
  rw [h3]
  unfold reqOK at h1
  simp only [Bool.and_eq_true] at h1
  obtain ⟨⟨⟨k1, k2⟩, k3⟩, k4⟩ := h1
  unfold reqV at h2
  obtain ⟨v1, v2, v3⟩ := ver_back h2
  have e1 := cut_back 32 _ k1
  have e2 := cut_back 32 _ k2
  have hok : rlOK (cutS 32 l).1 (cutS 32 (cutS 32 l).2.1).1 (reqV l).1 := ⟨k3, k4, v2, v3⟩
  show rlS (cutS 32 l).1 (cutS 32 (cutS 32 l).2.1).1 (reqV l).1 = _
  unfold rlS
  rw [if_pos hok, rlT_eq]
  have e3 : verT (reqV l).1 = (cutS 32 (cutS 32 l).2.1).2.1 := v1.symm
  rw [e3, ← e2, ← e1]
theorem req_none {l : List UInt8} (h : (req l).2.2.2 ≠ 0) : (req l).1 = [] ∧ (req l).2.1 = [] := by
  unfold req at h ⊢
  by_cases h1 : reqOK l = true
  · rw [if_pos h1] at h ⊢
    by_cases h2 : (reqV l).2 = 0
    · rw [if_pos h2] at h; exact absurd h2 h
    · rw [if_neg h2]; exact ⟨rfl, rfl⟩
  · rw [if_neg h1]; exact ⟨rfl, rfl⟩

/-! ### responses -/
theorem slT_eq (n st : Int) (r : List UInt8) : slT n st r = verT n ++ 32 :: (Lib.itoa st ++ 32 :: r) := by unfold slT verT; simp
theorem itoa_three : ((List.range 600).all fun k => decide (k < 100) || ((Lib.itoa (k : Int)).length == 3 && (Lib.itoa (k : Int)).all digB && valN (Lib.itoa (k : Int)) == k)) = true := by decide +kernel
theorem itoa_st {st : Int} (h0 : 100 ≤ st) (h1 : st ≤ 599) : (Lib.itoa st).length = 3 ∧ (Lib.itoa st).all digB = true ∧ (valN (Lib.itoa st) : Int) = st := by
  have h := itoa_three
  rw [List.all_eq_true] at h
  have h2 := h st.toNat (List.mem_range.2 (by omega))
  rw [show ((st.toNat : Nat) : Int) = st by omega, decide_eq_false (by omega), Bool.false_or] at h2
  simp only [Bool.and_eq_true, beq_iff_eq] at h2
  exact ⟨h2.1.1, h2.1.2, by omega⟩
theorem dig_no32 {l : List UInt8} (h : l.all digB = true) : ∀ b ∈ l, b ≠ 32 := by
  rw [List.all_eq_true] at h
  intro b hb e
  have := h b hb
  rw [e] at this
  revert this; decide
theorem digs_of {l : List UInt8} (h : l.all digB = true) (h3 : l.length = 3) : digsS l = true := by
  unfold digsS
  rw [h, Bool.and_true]
  cases l with
  | nil => cases h3
  | cons c t => rfl
theorem back_stat {n st : Int} {r : List UInt8} (h : slOK n st r) : stS (slT n st r) = (n, st, r, 0) := by
  obtain ⟨h1, h2, h3, h4, h5⟩ := h
  obtain ⟨i1, i2, i3⟩ := itoa_st h3 h4
  have c1 : cutS 32 (slT n st r) = (verT n, Lib.itoa st ++ 32 :: r, true) := by rw [slT_eq]; exact cut_join 32 _ _ (verT_no32 h1 h2)
  have c2 : cutS 32 (Lib.itoa st ++ 32 :: r) = (Lib.itoa st, r, true) := cut_join 32 _ _ (dig_no32 i2)
  have hn : numS (Lib.itoa st) = (st, 0) := by rw [numS_ok (digs_of i2 i1) (by omega), i3]
  have e1 : stV (slT n st r) = verT n := by unfold stV; rw [c1]
  have e2 : stRest (slT n st r) = Lib.itoa st ++ 32 :: r := by unfold stRest; rw [c1]
  have e3 : stDig (slT n st r) = Lib.itoa st := by unfold stDig; rw [e2, c2]
  have e4 : stWhy (slT n st r) = r := by unfold stWhy; rw [e2, c2]
  have hok : stOK (slT n st r) := by
    refine ⟨by rw [c1], by rw [e2, c2], by rw [e1, ver_verT h1 h2], by rw [e3, hn], by rw [e3]; exact i1, by rw [e3, hn]; exact h3, by rw [e3, hn]; exact h4, by rw [e4]; exact h5⟩
  rw [stS_ok hok, e1, e3, e4, hn, ver_verT h1 h2]
theorem three_inj {x y : List UInt8} (hx : x.length = 3) (hy : y.length = 3) (dx : x.all digB = true) (dy : y.all digB = true) (h : valN x = valN y) : x = y := by
  match x, hx, y, hy with
  | [a, b, c], _, [d, e, f], _ =>
    simp only [List.all_cons, List.all_nil, Bool.and_true, Bool.and_eq_true] at dx dy
    have a1 := digB_t dx.1; have a2 := digB_t dx.2.1; have a3 := digB_t dx.2.2
    have b1 := digB_t dy.1; have b2 := digB_t dy.2.1; have b3 := digB_t dy.2.2
    unfold valN at h
    simp only [valF_cons, valF_nil] at h
    have q1 : a.toNat = d.toNat := by omega
    have q2 : b.toNat = e.toNat := by omega
    have q3 : c.toNat = f.toNat := by omega
    rw [UInt8.toNat_inj.1 q1, UInt8.toNat_inj.1 q2, UInt8.toNat_inj.1 q3]
theorem stat_fwd {l : List UInt8} (h : stOK l) : slS (stS l).1 (stS l).2.1 (stS l).2.2.1 = (l, 0) := by
  have hS := stS_ok h
  obtain ⟨k1, k2, k3, k4, k5, k6, k7, k8⟩ := h
  obtain ⟨v1, v2, v3⟩ := ver_back k3
  have e1 := cut_back 32 _ k1
  have e2 := cut_back 32 _ k2
  rw [hS]
  have hd : digsS (stDig l) = true := by
    cases hh : digsS (stDig l)
    · rw [numS_bad hh] at k4; exact absurd k4 (by decide)
    · rfl
  have hall : (stDig l).all digB = true := by
    obtain ⟨_, _, _, _, ha⟩ := digsS_cons hd
    exact ha
  have hval : (numS (stDig l)).1 = (valN (stDig l) : Int) := by
    by_cases hv : valN (stDig l) ≤ 9007199254740991
    · rw [numS_ok hd hv]
    · rw [numS_long hd hv] at k4; exact absurd k4 (by decide)
  obtain ⟨i1, i2, i3⟩ := itoa_st k6 k7
  have hit : Lib.itoa (numS (stDig l)).1 = stDig l := three_inj i1 k5 i2 hall (by omega)
  have hok : slOK (ver (stV l)).1 (numS (stDig l)).1 (stWhy l) := ⟨v2, v3, k6, k7, k8⟩
  show slS (ver (stV l)).1 (numS (stDig l)).1 (stWhy l) = _
  unfold slS
  rw [if_pos hok, slT_eq, hit, ← v1]
  have e3 : stDig l ++ 32 :: stWhy l = stRest l := e2.symm
  have e4 : stV l ++ 32 :: stRest l = l := e1.symm
  rw [e3, e4]
theorem not_both {l : List UInt8} (h : (req l).2.2.2 = 0) : ¬ stOK l := by
  intro hs
  obtain ⟨h1, _, _⟩ := req_parts h
  unfold reqOK at h1
  simp only [Bool.and_eq_true] at h1
  have k3 := h1.1.2
  obtain ⟨v1, v2, v3⟩ := ver_back hs.2.2.1
  unfold stV at v1 v2 v3
  rw [v1] at k3
  have : (ver (cutS 32 l).1).1 = 0 ∨ (ver (cutS 32 l).1).1 = 1 := by omega
  rcases this with e | e <;> rw [e] at k3 <;> revert k3 <;> decide +kernel
end Go.Proofs.YtfkobhagdjaleaaGreatDoor.Sp
