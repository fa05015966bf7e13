/- The reference's Weight. -/
import Derived.Test.YtbhpcmbbbomknaaDoorT14p
import Derived.Test.YtbhpcmbbbomknaaDoorT15
namespace Go.Proofs.YtbhpcmbbbomknaaDoor.Sp
open Go.RowKit Sl

/-! ### plain -/
theorem cut_pass (c : UInt8) (t : List UInt8) (h : c ≠ 46) : cutS 46 (c :: t) = (c :: (cutS 46 t).1, (cutS 46 t).2.1, (cutS 46 t).2.2) := by
  conv => lhs; unfold cutS
  rw [if_neg h]
theorem cut_hit (t : List UInt8) : cutS 46 (46 :: t) = ([], t, true) := by
  unfold cutS
  rw [if_pos rfl]
theorem wR_nil : wR [] = (0, 4) := wR_bad (by rintro ⟨h, _⟩; revert h; decide)
theorem wR_first (c : UInt8) (t : List UInt8) (h0 : c ≠ 48) (h1 : c ≠ 49) : wR (c :: t) = (0, 4) := by
  refine wR_bad (fun h => ?_)
  by_cases hc : c = 46
  · subst hc
    rw [cut_hit] at h
    rcases h.1 with h | h <;> cases h
  · rw [cut_pass c t hc] at h
    rcases h.1 with h | h
    · exact h0 (List.cons.inj h).1
    · exact h1 (List.cons.inj h).1
theorem not_46 {c : UInt8} (h : c = 48 ∨ c = 49) : c ≠ 46 := by rcases h with rfl | rfl <;> decide
theorem wR_second (c d : UInt8) (r : List UInt8) (hc : c = 48 ∨ c = 49) (h : d ≠ 46) : wR (c :: d :: r) = (0, 4) := by
  refine wR_bad (fun k => ?_)
  rw [cut_pass c _ (not_46 hc), cut_pass d r h] at k
  rcases k.1 with k | k <;> simp at k
/-- the number of a weight behind its point -/
def wV (c : UInt8) (r : List UInt8) : Nat := valN ([c] ++ r ++ List.replicate (3 - r.length) 48)
theorem wR_rest (c : UInt8) (r : List UInt8) (hc : c = 48 ∨ c = 49) : (r.length ≤ 3 ∧ r.all digB = true ∧ wV c r ≤ 1000 → wR (c :: 46 :: r) = (fB (wV c r), 0)) ∧ (¬ (r.length ≤ 3 ∧ r.all digB = true ∧ wV c r ≤ 1000) → wR (c :: 46 :: r) = (0, 4)) := by
  have e : cutS 46 (c :: 46 :: r) = ([c], r, true) := by rw [cut_pass c _ (not_46 hc), cut_hit]
  have ed : wDig (c :: 46 :: r) = [c] ++ r ++ List.replicate (3 - r.length) 48 := by unfold wDig; rw [e]
  have hx : (cutS 46 (c :: 46 :: r)).1 = [48] ∨ (cutS 46 (c :: 46 :: r)).1 = [49] := by
    rw [e]
    rcases hc with rfl | rfl
    · exact .inl rfl
    · exact .inr rfl
  refine ⟨fun h => ?_, fun h => ?_⟩
  · have := wR_good (l := c :: 46 :: r) ⟨hx, by rw [e]; exact h.1, by rw [e]; exact h.2.1, by rw [ed]; exact h.2.2⟩
    rw [ed] at this
    exact this
  · refine wR_bad (fun k => h ?_)
    rw [e, ed] at k
    exact k.2
theorem wR_one (c : UInt8) (hc : c = 48 ∨ c = 49) : wR [c] = (fB (wV c []), 0) := by
  have e : cutS 46 [c] = ([c], [], false) := by rw [cut_pass c _ (not_46 hc)]; rfl
  have ed : wDig [c] = [c] ++ [] ++ List.replicate (3 - 0) 48 := by unfold wDig; rw [e]; rfl
  have hx : (cutS 46 [c]).1 = [48] ∨ (cutS 46 [c]).1 = [49] := by
    rw [e]
    rcases hc with rfl | rfl
    · exact .inl rfl
    · exact .inr rfl
  have hv : wV c [] ≤ 1000 := by rcases hc with rfl | rfl <;> decide +kernel
  have := wR_good (l := [c]) ⟨hx, by rw [e]; exact Nat.zero_le _, by rw [e]; rfl, by rw [ed]; exact hv⟩
  rw [ed] at this
  exact this

theorem valF_noughts (a : Nat) : ∀ m : Nat, valF a (List.replicate m 48) = a * 10 ^ m
  | 0 => by rw [List.replicate_zero, valF_nil]; simp
  | m + 1 => by
    rw [List.replicate_succ, valF_cons, valF_noughts _ m, Nat.pow_succ, Nat.mul_comm (10 ^ m) 10, ← Nat.mul_assoc]
    rfl
/-- the first j digits behind the point, noughts for the rest -/
def wTo (c : UInt8) (r : List UInt8) (j : Nat) : Nat := valN ([c] ++ r.take j ++ List.replicate (3 - j) 48)
theorem wTo_zero (c : UInt8) (r : List UInt8) (hc : c = 48 ∨ c = 49) : wTo c r 0 = (c.toNat - 48) * 1000 := by
  unfold wTo
  rw [List.take_zero]
  rcases hc with rfl | rfl <;> decide +kernel
theorem wTo_all (c : UInt8) (r : List UInt8) : wTo c r r.length = wV c r := by
  unfold wTo wV
  rw [List.take_length]
theorem wTo_step (c : UInt8) (r : List UInt8) (j : Nat) (hj : j < 3) (h : j < r.length) : wTo c r (j + 1) = wTo c r j + (r[j].toNat - 48) * 10 ^ (2 - j) := by
  unfold wTo valN
  rw [List.take_succ_eq_append_getElem h, valF_app, valF_app, valF_app, valF_noughts, valF_app, valF_noughts, valF_app, valF_cons, valF_nil, valF_cons, valF_nil]
  rw [show 3 - j = (2 - j) + 1 by omega, show 3 - (j + 1) = 2 - j by omega, Nat.pow_succ, Nat.mul_comm (10 ^ (2 - j)) 10, ← Nat.mul_assoc, Nat.add_mul]
theorem wTo_le (c : UInt8) (r : List UInt8) (j : Nat) (hc : c = 48 ∨ c = 49) (hj : j ≤ 3) (hr : j ≤ r.length) (hd : (r.take j).all digB = true) : wTo c r j < 10000 := by
  unfold wTo valN
  have hall : ([c] ++ r.take j ++ List.replicate (3 - j) (48 : UInt8)).all digB = true := by
    rw [List.all_append, List.all_append, hd, Bool.and_true]
    have h1 : [c].all digB = true := by rcases hc with rfl | rfl <;> decide
    rw [h1, Bool.true_and, List.all_eq_true]
    intro x hx
    rw [(List.mem_replicate.1 hx).2]
    decide
  have h := valF_lt _ 0 hall
  have hl : ([c] ++ r.take j ++ List.replicate (3 - j) (48 : UInt8)).length = 4 := by
    rw [List.length_append, List.length_append, List.length_take, List.length_replicate, Nat.min_eq_left hr]
    simp; omega
  rw [hl] at h
  omega
def byOf (j : Nat) : Nat := if j = 0 then 100 else if j = 1 then 10 else if j = 2 then 1 else 0
theorem byOf_pow (j : Nat) (h : j < 3) : byOf j = 10 ^ (2 - j) := by
  have : j = 0 ∨ j = 1 ∨ j = 2 := by omega
  rcases this with rfl | rfl | rfl <;> rfl
theorem byOf_next (j : Nat) : Int.tdiv (byOf j : Int) 10 = (byOf (j + 1) : Int) := by
  unfold byOf
  by_cases h0 : j = 0
  · subst h0; decide
  · by_cases h1 : j = 1
    · subst h1; decide
    · by_cases h2 : j = 2
      · subst h2; decide
      · rw [if_neg h0, if_neg h1, if_neg h2, if_neg (by omega), if_neg (by omega), if_neg (by omega)]; rfl
theorem byOf_le (j : Nat) : byOf j ≤ 100 := by unfold byOf; split <;> (try split) <;> (try split) <;> omega
end Go.Proofs.YtbhpcmbbbomknaaDoor.Sp
