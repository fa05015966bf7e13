/- Plain: the digits of a number; strconv.Itoa of any number. -/
import Derived.Test.YtfkobhagdjaleaaGreatDoorB0
import Derived.Lib.AppendIntMem
import Derived.Lib.LaidTab
namespace Go.Proofs.YtfkobhagdjaleaaGreatDoor.Sp
open Go.RowKit

def decB (u : Nat) : ByteArray := ⟨(Lib.decDigits u).toArray⟩
def itoaB (n : Int) : ByteArray := ⟨(Lib.itoa n).toArray⟩
def tenB : ByteArray := ⟨#[48, 49, 50, 51, 52, 53, 54, 55, 56, 57]⟩
theorem dec_small (u : Nat) (h : u < 10) : tenB.extract u (u + 1) = decB u := by
  have h1 : ∀ i, i < 10 → (tenB.extract i (i + 1)).data.toList = Lib.decDigits i := by decide +kernel
  exact ba_eq (h1 u h)
theorem dec_more (u : Nat) (h : 10 ≤ u) : decB u = decB (u / 10) ++ decB (u % 10) := by
  have e : Lib.decDigits u = Lib.decDigits (u / 10) ++ Lib.decDigits (u % 10) := by
    conv => lhs; rw [Lib.decDigits, dif_neg (by omega)]
    have e2 : Lib.decDigits (u % 10) = [UInt8.ofNat (48 + u % 10)] := by rw [Lib.decDigits, dif_pos (by omega)]
    rw [e2]
  have h2 : (decB (u / 10) ++ decB (u % 10)).data.toList = Lib.decDigits u := by rw [app_data, e]; rfl
  exact (ba_eq h2).symm
theorem decB_size (u : Nat) : (decB u).size ≤ u + 1 := by
  have h : ∀ n u, u ≤ n → (Lib.decDigits u).length ≤ u + 1 := by
    intro n
    induction n with
    | zero => intro u hu; obtain rfl : u = 0 := by omega
              decide +kernel
    | succ n ih =>
      intro u hu
      rw [Lib.decDigits]
      split
      · simp
      · have := ih (u / 10) (by omega)
        rw [List.length_append]; simp; omega
  have := h u u (Nat.le_refl _)
  rw [show (decB u).size = (Lib.decDigits u).length from size_list rfl]
  exact this
theorem decB_20 (u : Nat) (h : u < 10000000000000000000) : (decB u).size ≤ 19 := by
  have step : ∀ (k u : Nat), u < 10 ^ k → 0 < k → (Lib.decDigits u).length ≤ k := by
    intro k
    induction k with
    | zero => intro u h h0; omega
    | succ k ih =>
      intro u h _
      rw [Lib.decDigits]
      split
      · simp
      · rcases Nat.eq_zero_or_pos k with h0 | h0
        · subst h0; simp at h; omega
        · have := ih (u / 10) (by rw [Nat.pow_succ] at h; omega) h0
          rw [List.length_append]; simp; omega
  rw [show (decB u).size = (Lib.decDigits u).length from size_list rfl]
  exact step 19 u h (by omega)

theorem itoa_size (n : Int) (h0 : -9223372036854775808 ≤ n) (h1 : n ≤ 9223372036854775807) : (itoaB n).size ≤ 20 := by
  rw [show (itoaB n).size = (Lib.itoa n).length from size_list rfl]
  unfold Lib.itoa
  split
  · have := decB_20 n.natAbs (by omega)
    rw [show (decB n.natAbs).size = (Lib.decDigits n.natAbs).length from size_list rfl] at this
    simp; omega
  · have := decB_20 n.toNat (by omega)
    rw [show (decB n.toNat).size = (Lib.decDigits n.toNat).length from size_list rfl] at this
    omega
theorem itoa_neg (n : Int) (h : n < 0) : (⟨#[45]⟩ : ByteArray) ++ decB n.natAbs = itoaB n := by
  unfold itoaB Lib.itoa
  rw [if_pos h]
  have : ((⟨#[45]⟩ : ByteArray) ++ decB n.natAbs).data.toList = 45 :: Lib.decDigits n.natAbs := by rw [app_data]; rfl
  exact ba_eq this
theorem itoa_pos (n : Int) (h : 0 ≤ n) : decB n.toNat = itoaB n := by
  unfold itoaB Lib.itoa
  rw [if_neg (by omega)]; rfl

/-! ### the table of powers of ten -/
abbrev Pow10 (w : World) : Prop := Lib.TabIs Tryz.prog w "internal/strconv.uint64pow10" .u64 Lib.pow10Tab
theorem Pow10.below {w w' : World} (h : Pow10 w) (hb : Below w.heap.size w w') : Pow10 w' := by
  have hgn : Tryz.prog.globalNamed "internal/strconv.uint64pow10" = some 3 := by kernel_rfl
  unfold Pow10 Lib.TabIs World.var? at h ⊢
  rw [hgn] at h ⊢
  simp only [Option.bind_some] at h ⊢
  have hlt : 3 < w.heap.size := by
    rcases Nat.lt_or_ge 3 w.heap.size with h' | h'
    · exact h'
    · rw [Array.getElem?_eq_none h'] at h; cases h
  rw [hb.block 3 hlt]
  exact h
theorem itoa_any (n : Int) (h0 : -9223372036854775808 ≤ n) (h1 : n ≤ 9223372036854775807) (w : World) (ht : Pow10 w) : Calls Tryz.prog 27 #[.int .i64 n] w fun e w' => e = .returned (.string (itoaB n)) ∧ Below w.heap.size w w' := by
  refine (Tryz.strconv_Itoa n h0 h1 w ht).mono ?_
  rintro e w' ⟨rfl, k, os, rfl⟩
  exact ⟨rfl, Lib.below_grow _ w (Nat.le_refl _) k os⟩
end Go.Proofs.YtfkobhagdjaleaaGreatDoor.Sp
