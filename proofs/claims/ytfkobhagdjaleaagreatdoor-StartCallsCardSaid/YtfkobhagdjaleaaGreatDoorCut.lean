/- strings.Cut at one byte. -/
import Derived.Test.YtfkobhagdjaleaaGreatDoorB0
import Derived.Lib.IndexMore
namespace Go.Proofs.YtfkobhagdjaleaaGreatDoor.Sp
open Go.RowKit

def cutS (c : UInt8) : List UInt8 → List UInt8 × List UInt8 × Bool
  | [] => ([], [], false)
  | b :: l => if b = c then ([], l, true) else (b :: (cutS c l).1, (cutS c l).2.1, (cutS c l).2.2)
theorem cut_one (c : UInt8) : ∀ l : List UInt8, Lib.cut l [c] = cutS c l
  | [] => rfl
  | b :: l => by
    have ih := cut_one c l
    have hg := Lib.index_ge l [c]
    unfold Lib.cut at ih ⊢
    unfold cutS Lib.index
    by_cases hb : b = c
    · subst hb
      simp
    · rw [if_neg hb]
      have hp : List.isPrefixOf [c] (b :: l) = false := by
        simp [List.isPrefixOf]
        exact fun h => hb h.symm
      rw [hp]
      simp only [Bool.false_eq_true, if_false]
      rw [← ih]
      by_cases hx : Lib.index l [c] = -1
      · simp [hx]
      · have h0 : 0 ≤ Lib.index l [c] := by omega
        have hx' : (Lib.index l [c] == -1) = false := by simpa using hx
        have h1 : 0 ≤ Lib.index l [c] + 1 := by omega
        rw [hx']
        simp only [Bool.false_eq_true, if_false]
        rw [if_pos h0, if_pos h1]
        have e1 : (Lib.index l [c] + 1).toNat = (Lib.index l [c]).toNat + 1 := by omega
        rw [e1]
        simp only [List.take_succ_cons, List.length_singleton, List.drop_succ_cons]
theorem cutS_len (c : UInt8) : ∀ l : List UInt8, (cutS c l).1.length ≤ l.length ∧ (cutS c l).2.1.length ≤ l.length
  | [] => ⟨Nat.le_refl _, Nat.le_refl _⟩
  | b :: l => by
    have ih := cutS_len c l
    unfold cutS
    split
    · simp
    · simp only [List.length_cons]; omega

/-- The library's variable MaxLen holds a number. -/
def MaxV (w : World) : Prop := ∃ m : Int, w.cell? ⟨0, 0, none⟩ = some (.int .i64 m)
theorem MaxV.below {w w' : World} (h : MaxV w) (hb : Below w.heap.size w w') : MaxV w' := by
  obtain ⟨m, hm⟩ := h
  exact ⟨m, (hb.cell (p := ⟨0, 0, none⟩) (World.block_lt_of_cell? w _ hm)).trans hm⟩

/-- strings.Cut at one byte. -/
theorem cut_any (s : ByteArray) (c : UInt8) (x y : ByteArray) (b : Bool) (hx : x.data.toList = (cutS c s.data.toList).1) (hy : y.data.toList = (cutS c s.data.toList).2.1) (hb : b = (cutS c s.data.toList).2.2)
    (hs : s.size < 4294967281) (w : World) (hM : MaxV w) :
    Calls Tryz.prog 21 #[.string s, .string ⟨#[c]⟩] w fun e w' => e = .returned (.tuple #[.string x, .string y, .bool b]) ∧ Below w.heap.size w w' := by
  obtain ⟨m, hm⟩ := hM
  refine (Tryz.strings_Cut s ⟨#[c]⟩ m w hs hm).mono ?_
  rintro e w' ⟨rfl, n, rfl⟩
  have e : Lib.cut s.data.toList (⟨#[c]⟩ : ByteArray).data.toList = cutS c s.data.toList := cut_one c _
  refine ⟨?_, below_drewN (Below.refl _ _) n⟩
  rw [e, ← hx, ← hy, hb]

end Go.Proofs.YtfkobhagdjaleaaGreatDoor.Sp
