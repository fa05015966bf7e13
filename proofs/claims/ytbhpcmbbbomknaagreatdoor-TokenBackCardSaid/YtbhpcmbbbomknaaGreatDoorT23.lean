/- Plain: the text of a weight is a weight that is not above it, and near to it. -/
import Derived.Test.YtbhpcmbbbomknaaGreatDoorT14p
namespace Go.Proofs.YtbhpcmbbbomknaaGreatDoor.Sp
open Go.RowKit

theorem cmp_int (x y : Int) : compare x y = if x < y then .lt else if x = y then .eq else .gt := rfl
theorem signed_shift (s : Bool) (m : Nat) (i b L : Int) (h1 : L ≤ b) (h2 : b ≤ i) : Ieee.signed s m (i - L).toNat = Ieee.signed s m (i - b).toNat * ((2 ^ (b - L).toNat : Nat) : Int) := by
  have e : (i - L).toNat = (i - b).toNat + (b - L).toNat := by omega
  unfold Ieee.signed
  rw [Nat.shiftLeft_eq, Nat.shiftLeft_eq, e, Nat.pow_add, ← Nat.mul_assoc]
  cases s
  · simp only [Bool.false_eq_true, if_false]
    exact Int.natCast_mul _ _
  · simp only [if_true]
    rw [Int.natCast_mul, Int.neg_mul]
theorem cmp_scale (x y : Int) (p : Nat) (hp : 0 < p) : compare (x * (p : Int)) (y * (p : Int)) = compare x y := by
  have hp' : (0 : Int) < (p : Int) := by omega
  rw [cmp_int, cmp_int]
  by_cases h1 : x < y
  · rw [if_pos h1, if_pos (Int.mul_lt_mul_of_pos_right h1 hp')]
  · by_cases h2 : x = y
    · subst h2
      rw [if_neg (by omega), if_pos rfl, if_neg h1, if_pos rfl]
    · have h3 : y < x := by omega
      have h4 := Int.mul_lt_mul_of_pos_right h3 hp'
      rw [if_neg h1, if_neg h2, if_neg (by omega), if_neg (by omega)]
theorem order_at (s : Bool) (m : Nat) (i : Int) (t : Bool) (n : Nat) (j L : Int) (h1 : L ≤ i) (h2 : L ≤ j) :
    Ieee.Datum.order (.number s m i) (.number t n j) = some (compare (Ieee.signed s m (i - L).toNat) (Ieee.signed t n (j - L).toNat)) := by
  show some (compare (Ieee.signed s m (i - min i j).toNat) (Ieee.signed t n (j - min i j).toNat)) = _
  rw [signed_shift s m i (min i j) L (by omega) (by omega), signed_shift t n j (min i j) L (by omega) (by omega), cmp_scale _ _ _ (Nat.pow_pos (by decide))]
/-- at least so much, and that is more: more -/
theorem order_trans {a b c : Nat} (hc : ∃ s m i, FloatKind.f64.format.read c = .number s m i) (ha : ∃ s m i, FloatKind.f64.format.read a = .number s m i) (hb : ∃ s m i, FloatKind.f64.format.read b = .number s m i)
    (h1 : geF a b = true) (h2 : FloatKind.f64.format.order b c = some .gt) : FloatKind.f64.format.order a c = some .gt := by
  obtain ⟨s, m, i, ea⟩ := ha
  obtain ⟨t, n, j, eb⟩ := hb
  obtain ⟨u, o, k, ec⟩ := hc
  unfold geF at h1
  unfold Ieee.Format.order at h1 h2 ⊢
  rw [ea, eb] at h1
  rw [eb, ec] at h2
  rw [ea, ec]
  obtain ⟨L, l1, l2, l3⟩ : ∃ L : Int, L ≤ i ∧ L ≤ j ∧ L ≤ k := ⟨min i (min j k), by omega, by omega, by omega⟩
  rw [order_at s m i t n j L l1 l2] at h1
  rw [order_at t n j u o k L l2 l3] at h2
  rw [order_at s m i u o k L l1 l3]
  generalize Ieee.signed s m (i - L).toNat = x at *
  generalize Ieee.signed t n (j - L).toNat = y at *
  generalize Ieee.signed u o (k - L).toNat = z at *
  rw [cmp_int] at h1 h2 ⊢
  have h2' : z < y := by
    by_cases p : y < z
    · rw [if_pos p] at h2; cases h2
    · rw [if_neg p] at h2
      by_cases p2 : y = z
      · rw [if_pos p2] at h2; cases h2
      · omega
  have h1' : y ≤ x := by
    by_cases p : x < y
    · rw [if_pos p] at h1; exact absurd h1 (by decide)
    · omega
  rw [if_neg (by omega), if_neg (by omega)]
def isNum (a : Nat) : Bool := match FloatKind.f64.format.read a with
  | .number _ _ _ => true
  | _ => false
theorem isNum_of {a : Nat} (h : isNum a = true) : ∃ s m i, FloatKind.f64.format.read a = .number s m i := by
  unfold isNum at h
  cases hr : FloatKind.f64.format.read a with
  | number s m i => exact ⟨s, m, i, rfl⟩
  | infinity s => rw [hr] at h; cases h
  | nan s f => rw [hr] at h; cases h
/-- from 0 to 1: a number -/
theorem in_num {q : Nat} (h : inF q = true) : ∃ s m i, FloatKind.f64.format.read q = .number s m i := by
  unfold inF geF leF at h
  unfold Ieee.Format.order at h
  have e0 : FloatKind.f64.format.read 0 = .number false 0 (-1074) := by decide +kernel
  obtain ⟨s1, m1, i1, e1⟩ := isNum_of (a := 4607182418800017408) (by decide +kernel)
  rw [e0, e1] at h
  cases hr : FloatKind.f64.format.read q with
  | number s m i => exact ⟨s, m, i, rfl⟩
  | infinity s =>
    rw [hr] at h
    cases s <;> simp [Ieee.Datum.order] at h
  | nan s f =>
    rw [hr] at h
    simp [Ieee.Datum.order] at h

def cNear : Nat := 4562254970085971183
def fA (k : Nat) : Nat := (FloatKind.f64.format.add (fB k) cNear).getD 0
theorem fA_all : ((List.range 1000).all fun k => (FloatKind.f64.format.add (fB k) cNear).isSome && geF (fA k) (fB (k + 1)) && isNum (fA k) && isNum (fB (k + 1)) && isNum (fB k)) = true := by decide +kernel
theorem fA_add (k : Nat) (h : k < 1000) : floatBits .add .f64 (fB k) cNear = some (fA k) ∧ geF (fA k) (fB (k + 1)) = true ∧ isNum (fA k) = true ∧ isNum (fB (k + 1)) = true := by
  have h1 := fA_all
  rw [List.all_eq_true] at h1
  have h2 := h1 k (List.mem_range.2 h)
  simp only [Bool.and_eq_true] at h2
  obtain ⟨⟨⟨⟨h3, h4⟩, h5⟩, h6⟩, _⟩ := h2
  refine ⟨?_, h4, h5, h6⟩
  unfold fA
  show FloatKind.f64.format.add _ _ = _
  cases hd : FloatKind.f64.format.add (fB k) cNear with
  | none => rw [hd] at h3; cases h3
  | some b => rfl
theorem text_weight : ((List.range 1001).all fun k => wS (kText k) == some k) = true := by decide +kernel
theorem text_wR (k : Nat) (h : k ≤ 1000) : wR (kText k) = (fB k, 0) := by
  have h1 := text_weight
  rw [List.all_eq_true] at h1
  have h2 := h1 k (List.mem_range.2 (by omega))
  rw [beq_iff_eq] at h2
  unfold wR
  rw [h2]
theorem wR_empty : wR [] = (0, 4) := by decide +kernel
/-- not above it -/
theorem back_le {q : Nat} (h : inF q = true) : leF (fB (kOf q)) q = true := by
  rcases (kFrom_stops q 1000 0).2 with h0 | h0
  · have e : kOf q = 0 := h0
    rw [e]
    have f0 : fB 0 = 0 := by decide +kernel
    rw [f0]
    obtain ⟨s, m, i, eq⟩ := in_num h
    unfold inF geF at h
    rw [Bool.and_eq_true] at h
    have h1 := h.1
    have e0 : FloatKind.f64.format.read 0 = .number false 0 (-1074) := by decide +kernel
    unfold leF
    unfold Ieee.Format.order at h1 ⊢
    rw [eq, e0] at h1
    rw [eq, e0]
    obtain ⟨L, l1, l2⟩ : ∃ L : Int, L ≤ i ∧ L ≤ -1074 := ⟨min i (-1074), by omega, by omega⟩
    rw [order_at s m i false 0 (-1074) L l1 l2] at h1
    rw [order_at false 0 (-1074) s m i L l2 l1]
    generalize Ieee.signed s m (i - L).toNat = x at *
    generalize Ieee.signed false 0 (-1074 - L).toNat = y at *
    rw [cmp_int] at h1 ⊢
    by_cases p : x < y
    · rw [if_pos p] at h1; exact absurd h1 (by decide)
    · by_cases p2 : y < x
      · rw [if_pos p2]; decide
      · rw [if_neg p2, if_pos (by omega)]; decide
  · exact h0
/-- near to it -/
theorem back_near {q : Nat} (h : inF q = true) (hk : kOf q < 1000) : FloatKind.f64.format.order (fA (kOf q)) q = some .gt := by
  obtain ⟨_, h2, h3, h4⟩ := fA_add _ hk
  have hn : leF (fB (kOf q + 1)) q = false := by
    rcases (kFrom_stops q 1000 0).1 with h0 | h0
    · have e : kOf q = 1000 := by unfold kOf; rw [h0]
      omega
    · exact h0
  refine order_trans (in_num h) (isNum_of h3) (isNum_of h4) h2 ?_
  obtain ⟨s, m, i, eq⟩ := in_num h
  obtain ⟨t, n, j, eb⟩ := isNum_of h4
  unfold leF at hn
  unfold Ieee.Format.order at hn ⊢
  rw [eb, eq] at hn ⊢
  obtain ⟨L, l1, l2⟩ : ∃ L : Int, L ≤ i ∧ L ≤ j := ⟨min i j, by omega, by omega⟩
  rw [order_at t n j s m i L l2 l1] at hn ⊢
  generalize Ieee.signed s m (i - L).toNat = x at *
  generalize Ieee.signed t n (j - L).toNat = y at *
  rw [cmp_int] at hn ⊢
  by_cases p : y < x
  · rw [if_pos p] at hn; exact absurd hn (by decide)
  · by_cases p2 : y = x
    · rw [if_neg p, if_pos p2] at hn; exact absurd hn (by decide)
    · rw [if_neg p, if_neg p2]
end Go.Proofs.YtbhpcmbbbomknaaGreatDoor.Sp
