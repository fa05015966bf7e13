/- Plain: floats of thousandths: how many thousandths are not above a float; the text of so many. -/
import Derived.Test.YtbhpcmbbbomknaaGreatDoorT1
import Derived.Laws.FloatArith
namespace Go.Proofs.YtbhpcmbbbomknaaGreatDoor.Sp
open Go.RowKit

def c1000 : Nat := 4652007308841189376
/-- the float nearest to k thousandths -/
def fB (k : Nat) : Nat := (FloatKind.f64.format.div (floatOfInt .f64 (k : Int)) c1000).getD 0
theorem fB_all : ((List.range 1001).all fun k => (FloatKind.f64.format.div (floatOfInt .f64 (k : Int)) c1000).isSome) = true := by decide +kernel
theorem fB_div (k : Nat) (h : k ≤ 1000) : floatBits .quo .f64 (floatOfInt .f64 (k : Int)) c1000 = some (fB k) := by
  have h1 := fB_all
  rw [List.all_eq_true] at h1
  have h2 := h1 k (List.mem_range.2 (by omega))
  unfold fB
  show FloatKind.f64.format.div _ _ = _
  cases hd : FloatKind.f64.format.div (floatOfInt .f64 (k : Int)) c1000 with
  | none => rw [hd] at h2; cases h2
  | some b => rfl

def leF (a b : Nat) : Bool := FloatKind.f64.format.order a b == some .lt || FloatKind.f64.format.order a b == some .eq
def geF (a b : Nat) : Bool := FloatKind.f64.format.order a b == some .gt || FloatKind.f64.format.order a b == some .eq
def kFrom (q : Nat) : Nat → Nat → Nat
  | 0, k => k
  | n + 1, k => if leF (fB (k + 1)) q = true then kFrom q n (k + 1) else k
/-- how many thousandths are not above q -/
def kOf (q : Nat) : Nat := kFrom q 1000 0
theorem kFrom_le (q : Nat) : ∀ n k, kFrom q n k ≤ k + n
  | 0, k => Nat.le_refl _
  | n + 1, k => by
    unfold kFrom
    split
    · have := kFrom_le q n (k + 1); omega
    · omega
theorem kOf_le (q : Nat) : kOf q ≤ 1000 := by have := kFrom_le q 1000 0; unfold kOf; omega
theorem kFrom_yes {q k : Nat} (h : k < 1000) (hq : leF (fB (k + 1)) q = true) : kFrom q (1000 - k) k = kFrom q (1000 - (k + 1)) (k + 1) := by
  rw [show 1000 - k = (1000 - (k + 1)) + 1 by omega]
  conv => lhs; unfold kFrom
  rw [if_pos hq]
theorem kFrom_no {q k : Nat} (h : k < 1000) (hq : leF (fB (k + 1)) q = false) : kFrom q (1000 - k) k = k := by
  rw [show 1000 - k = (1000 - (k + 1)) + 1 by omega]
  conv => lhs; unfold kFrom
  rw [if_neg (by rw [hq]; decide)]
theorem kFrom_end {q k : Nat} (h : 1000 ≤ k) : kFrom q (1000 - k) k = k := by
  rw [show 1000 - k = 0 by omega]
  rfl
/-- what kOf stops at -/
theorem kFrom_stops (q : Nat) : ∀ n k, (kFrom q n k = k + n ∨ leF (fB (kFrom q n k + 1)) q = false) ∧ (kFrom q n k = k ∨ leF (fB (kFrom q n k)) q = true)
  | 0, k => ⟨.inl rfl, .inl rfl⟩
  | n + 1, k => by
    unfold kFrom
    cases hl : leF (fB (k + 1)) q
    · rw [if_neg (by decide)]
      exact ⟨.inr hl, .inl rfl⟩
    · rw [if_pos rfl]
      obtain ⟨h1, h2⟩ := kFrom_stops q n (k + 1)
      refine ⟨?_, .inr ?_⟩
      · rcases h1 with h1 | h1
        · exact .inl (by omega)
        · exact .inr h1
      · rcases h2 with h2 | h2
        · rw [h2]; exact hl
        · exact h2

/-- is a float from 0 to 1? -/
def inF (q : Nat) : Bool := geF q 0 && leF q 4607182418800017408
def dig3 (k : Nat) : List UInt8 := [UInt8.ofNat (48 + k / 100), UInt8.ofNat (48 + k / 10 % 10), UInt8.ofNat (48 + k % 10)]
/-- the text of k thousandths -/
def kText (k : Nat) : List UInt8 := if k = 0 then [48] else if k = 1000 then [49] else [48, 46] ++ Lib.trimRightS (dig3 k) [48]
def wtS (q : Nat) : List UInt8 := if inF q = true then kText (kOf q) else []
end Go.Proofs.YtbhpcmbbbomknaaGreatDoor.Sp
