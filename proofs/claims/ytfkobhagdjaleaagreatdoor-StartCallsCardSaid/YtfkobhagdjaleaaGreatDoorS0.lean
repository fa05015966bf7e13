/- Slices of texts: one more, more; an element; small words. -/
import Derived.Test.YtfkobhagdjaleaaGreatDoorMem
import Derived.Test.YtfkobhagdjaleaaGreatDoorSl
import Derived.Test.YtfkobhagdjaleaaGreatDoorSpPl2
import Derived.Test.YtfkobhagdjaleaaGreatDoorB0
import Derived.WalkSmall
import Derived.Deep.Onto
namespace Go.Proofs.YtfkobhagdjaleaaGreatDoor.Sp
open Go.RowKit Sl

section
variable {P : Program} {ops : Array Oper} {rest : List Oper} {o : Oper} {a : Act} {w : World} {Q : Exit → Act → World → Prop}
theorem wpList_pushS {wr w0 : World} (hgd : o.guard = none) (s x : Operand) (ho : o.op = .call { callee := .builtin .append, args := #[s, x], argTypes := #[97, 97] })
    (base : Nat) (v : Value) (n : Nat) (xs : List Value) (hs : a.eval s = v) (hown : Own w0 wr base 9 1 v n xs) (p : ByteArray) (hw : w = wr.alloc (.cells #[.string p] 9))
    (c : Nat) (hx : a.eval x = .slice (some ⟨wr.heap.size, 0, none⟩) 1 c) (hn : n ≤ 1000000)
    (h : ∀ v' w1, Own w0 w1 base 9 1 v' (n + 1) (xs ++ [.string p]) → wpList Tryz.prog ops Q rest (a.put o.dst v') w1) : wpList Tryz.prog ops Q (o :: rest) a w := by
  obtain ⟨i, hi, hz, h1, h2⟩ := info_parts (P := Tryz.prog) (e := 9) (z := .string ⟨#[]⟩) (size := 1) (bytes := 16) (by kernel_rfl)
  exact wpList_push hgd s x 97 ho base 9 i _ 1 16 Tryz.underlying97 hi hz h1 h2 rfl (by decide) v n xs hs hown [.string p] (by rw [hw]) rfl (by intro u hu; simp at hu; subst hu; rfl) c hx (by omega) (by unfold maxLen; omega) h
theorem wpList_pushAllS {w0 : World} (hgd : o.guard = none) (s x : Operand) (ho : o.op = .call { callee := .builtin .append, args := #[s, x], argTypes := #[97, 97] })
    (base : Nat) (v : Value) (n : Nat) (xs : List Value) (hs : a.eval s = v) (hown : Own w0 w base 9 1 v n xs) (u : Value) (L : List ByteArray) (hr : Rd w u L.length 1 (strV L)) (hx : a.eval x = u) (hn : n + L.length ≤ 1000000)
    (h : ∀ v' w1, Own w0 w1 base 9 1 v' (n + L.length) (xs ++ strV L) → wpList Tryz.prog ops Q rest (a.put o.dst v') w1) : wpList Tryz.prog ops Q (o :: rest) a w := by
  obtain ⟨i, hi, hz, h1, h2⟩ := info_parts (P := Tryz.prog) (e := 9) (z := .string ⟨#[]⟩) (size := 1) (bytes := 16) (by kernel_rfl)
  exact wpList_pushAll hgd s x 97 ho base 9 i _ 1 16 Tryz.underlying97 hi hz h1 h2 rfl (by decide) v n xs hs hown u L.length (strV L) hr hx (strV_one L) (by omega) (by unfold maxLen; omega) h
end

theorem str_cell {w : World} {ao : Option Addr} {n cap : Nat} {L : List ByteArray} (h : Rd w (.slice ao n cap) n 1 (strV L)) (k : Nat) (hk : k < L.length) :
    ∃ b off, ao = some ⟨b, off, none⟩ ∧ b < w.heap.size ∧ w.cell? ⟨b, off + k, none⟩ = some (.string L[k]) := by
  obtain ⟨ao', cap', e, _, _, _, hc⟩ := h
  cases e
  have hg := strV_get L k hk
  obtain ⟨b, off, rfl, hlt, hcc⟩ := hc (by intro e; rw [e] at hg; simp at hg)
  exact ⟨b, off, rfl, hlt, hcc _ _ hg⟩
theorem u8_ne {c : UInt8} {n : Nat} (hn : n < 256) (h : ¬ (c.toNat : Int) = n) : c ≠ UInt8.ofNat n := by
  intro e
  apply h
  rw [e]
  simp [Nat.mod_eq_of_lt hn]
theorem u8_eq {c : UInt8} {n : Nat} (h : (c.toNat : Int) = n) : c = UInt8.ofNat n := by
  have : c.toNat = n := by omega
  rw [← this, UInt8.ofNat_toNat]
theorem alloc_at (w : World) (o : Obj) : (w.alloc o).heap[w.heap.size]? = some o := by
  show (w.heap.push o)[w.heap.size]? = _
  simp
theorem run_slice_cell {w : World} {ad : Addr} {v : Value} (h : w.cell? ad = some v) : (loadVar 97 ad).run Tryz.prog w = .ok v w := by
  simp [loadVar, Tryz.underlying97, go_sem, h]
theorem rd_litS (w : World) (A : List ByteArray) (n : Nat) (hn : A.length = n) : Rd (w.alloc (.cells (strV A).toArray 9)) (.slice (some ⟨w.heap.size, 0, none⟩) n n) n 1 (strV A) := by
  subst hn
  refine ⟨_, _, rfl, Nat.le_refl _, (fun h => by cases h), (by unfold strV; rw [List.length_map, Nat.mul_one]), fun _ => ⟨w.heap.size, 0, rfl, by simp, fun i u hu => ?_⟩⟩
  rw [World.cell?_alloc_at _ _ _ _ rfl]
  simpa using hu
theorem u8_back (n : Int) (h : 0 ≤ n ∧ n ≤ 255) : ((UInt8.ofNat n.toNat).toNat : Int) = n := by
  have : n.toNat < 256 := by omega
  simp [Nat.mod_eq_of_lt this]
  omega
end Go.Proofs.YtfkobhagdjaleaaGreatDoor.Sp
