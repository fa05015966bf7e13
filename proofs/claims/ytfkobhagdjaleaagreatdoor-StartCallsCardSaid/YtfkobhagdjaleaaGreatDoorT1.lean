/- Plain: the number of digits; what Trim and ParseInt make of digits. -/
import Derived.Test.YtfkobhagdjaleaaGreatDoorB0
import Derived.Lib.ParseIntBCases
import Derived.Lib.SlTrimSet
namespace Go.Proofs.YtfkobhagdjaleaaGreatDoor.Sp
open Go.RowKit

def digB (c : UInt8) : Bool := decide (48 ≤ c.toNat) && decide (c.toNat ≤ 57)
theorem digB_t {c : UInt8} (h : digB c = true) : 48 ≤ c.toNat ∧ c.toNat ≤ 57 := by unfold digB at h; simpa using h
theorem digB_f {c : UInt8} (h : digB c = false) : ¬ (48 ≤ c.toNat ∧ c.toNat ≤ 57) := by unfold digB at h; simp at h; omega
theorem digB_of {c : UInt8} (h : 48 ≤ c.toNat ∧ c.toNat ≤ 57) : digB c = true := by unfold digB; simpa using h
theorem digB_no {c : UInt8} (h : ¬ (48 ≤ c.toNat ∧ c.toNat ≤ 57)) : digB c = false := by unfold digB; simp; omega
/-- digits alone, one at least -/
def digsS (l : List UInt8) : Bool := !l.isEmpty && l.all digB
def valF (a : Nat) (l : List UInt8) : Nat := l.foldl (fun a c => a * 10 + (c.toNat - 48)) a
def valN (l : List UInt8) : Nat := valF 0 l
theorem valF_cons (a : Nat) (c : UInt8) (r : List UInt8) : valF a (c :: r) = valF (a * 10 + (c.toNat - 48)) r := by unfold valF; rw [List.foldl_cons]
theorem valF_nil (a : Nat) : valF a [] = a := by unfold valF; rfl
theorem valF_app (a : Nat) (x y : List UInt8) : valF a (x ++ y) = valF (valF a x) y := by unfold valF; rw [List.foldl_append]
theorem valF_ge : ∀ (l : List UInt8) (a : Nat), a ≤ valF a l
  | [], a => Nat.le_refl _
  | c :: r, a => by
    rw [valF_cons]
    have := valF_ge r (a * 10 + (c.toNat - 48))
    omega
theorem parseM_digs : ∀ (l : List UInt8) (a : Nat), l.all digB = true → a ≤ 18446744073709551615 → Lib.parseUintM 18446744073709551615 a l = if valF a l ≤ 18446744073709551615 then .ok (valF a l) else .range
  | [], a, _, h => by unfold Lib.parseUintM; rw [show valF a [] = a by unfold valF; rfl, if_pos h]
  | c :: r, a, hd, ha => by
    rw [List.all_cons, Bool.and_eq_true] at hd
    have hc := digB_t hd.1
    have hge := valF_ge r (a * 10 + (c.toNat - 48))
    unfold Lib.parseUintM
    rw [if_pos hc, valF_cons]
    by_cases h1 : 1844674407370955162 ≤ a
    · rw [if_pos h1, if_neg (by omega)]
    · rw [if_neg h1]
      by_cases h2 : 18446744073709551615 < a * 10 + (c.toNat - 48)
      · rw [if_pos h2, if_neg (by omega)]
      · rw [if_neg h2]
        exact parseM_digs r _ hd.2 (by omega)
theorem digsS_cons {l : List UInt8} (h : digsS l = true) : ∃ c r, l = c :: r ∧ digB c = true ∧ l.all digB = true := by
  unfold digsS at h
  cases l with
  | nil => simp at h
  | cons c r =>
    rw [Bool.and_eq_true] at h
    refine ⟨c, r, rfl, ?_, h.2⟩
    have := h.2
    rw [List.all_cons, Bool.and_eq_true] at this
    exact this.1
theorem parse_digs {l : List UInt8} (h : digsS l = true) : Lib.parseIntB 64 l = if valN l ≤ 9223372036854775807 then .ok (valN l) else .range := by
  obtain ⟨c, r, rfl, hc, ha⟩ := digsS_cons h
  have hc := digB_t hc
  rw [Lib.parseIntB_plain 64 c r (by omega) (by omega)]
  unfold Lib.parseUintB
  rw [if_neg (by simp), show (2 ^ 64 - 1 : Nat) = 18446744073709551615 from rfl, parseM_digs _ 0 ha (by decide)]
  show Lib.signlessC 9223372036854775808 _ = _
  unfold valN
  by_cases h1 : valF 0 (c :: r) ≤ 18446744073709551615
  · rw [if_pos h1]
    unfold Lib.signlessC
    by_cases h2 : valF 0 (c :: r) ≤ 9223372036854775807
    · rw [if_pos h2]; simp only; rw [if_neg (by omega)]
    · rw [if_neg h2]; simp only; rw [if_pos (by omega)]
  · rw [if_neg h1, if_neg (by omega)]
    rfl
attribute [irreducible] valF
/-- what token.Number gives -/
def numS (l : List UInt8) : Int × Int := if digsS l = true then (if valN l ≤ 9007199254740991 then ((valN l : Int), 0) else (0, 3)) else (0, 4)
theorem numS_bad {l : List UInt8} (h : digsS l = false) : numS l = (0, 4) := by unfold numS; rw [if_neg (by rw [h]; decide)]
theorem numS_ok {l : List UInt8} (h : digsS l = true) (hv : valN l ≤ 9007199254740991) : numS l = ((valN l : Int), 0) := by unfold numS; rw [if_pos h, if_pos hv]
theorem numS_long {l : List UInt8} (h : digsS l = true) (hv : ¬ valN l ≤ 9007199254740991) : numS l = (0, 3) := by unfold numS; rw [if_pos h, if_neg hv]

def tenD : List UInt8 := [48, 49, 50, 51, 52, 53, 54, 55, 56, 57]
theorem tenD_eq (c : UInt8) : tenD.contains c = digB c := by
  have := byte_all (fun c => tenD.contains c == digB c) (by decide +kernel) c
  simpa using this
theorem dropW_nil (p : UInt8 → Bool) : ∀ l : List UInt8, l.all p = true → l.dropWhile p = []
  | [], _ => rfl
  | c :: r, h => by
    rw [List.all_cons, Bool.and_eq_true] at h
    rw [List.dropWhile_cons_of_pos h.1]
    exact dropW_nil p r h.2
theorem dropW_ne (p : UInt8 → Bool) : ∀ l : List UInt8, l.all p = false → ∃ c r, l.dropWhile p = c :: r ∧ p c = false
  | [], h => by simp at h
  | c :: r, h => by
    cases hc : p c
    · exact ⟨c, r, by rw [List.dropWhile_cons_of_neg (by rw [hc]; decide)], hc⟩
    · rw [List.all_cons, hc, Bool.true_and] at h
      rw [List.dropWhile_cons_of_pos hc]
      exact dropW_ne p r h
theorem trim_digs {l : List UInt8} (h : l.all digB = true) : Lib.trimS l tenD = [] := by
  have hp : (fun x => tenD.contains x) = digB := funext tenD_eq
  unfold Lib.trimS Lib.trimRightS Lib.trimLeftS
  rw [hp, dropW_nil digB l.reverse (by rw [List.all_reverse]; exact h)]
  rfl
theorem trim_nodigs {l : List UInt8} (h : l.all digB = false) : Lib.trimS l tenD ≠ [] := by
  have hp : (fun x => tenD.contains x) = digB := funext tenD_eq
  unfold Lib.trimS Lib.trimRightS Lib.trimLeftS
  rw [hp]
  obtain ⟨c, r, hd, hc⟩ := dropW_ne digB l.reverse (by rw [List.all_reverse]; exact h)
  rw [hd]
  have hall : (c :: r).reverse.all digB = false := by rw [List.all_reverse, List.all_cons, hc]; rfl
  obtain ⟨c2, r2, hd2, _⟩ := dropW_ne digB _ hall
  rw [hd2]
  simp
end Go.Proofs.YtfkobhagdjaleaaGreatDoor.Sp
