/- Slices: what a slice reads as; one element more. -/
import Derived.Test.YtfkobhagdjaleaaGreatDoorReg2
import Derived.WalkKit
import Derived.Maps.AppendAt
import Derived.Laws.AppendOwnNone
import Derived.Deep.MidRow
namespace Go.Proofs.YtfkobhagdjaleaaGreatDoor.Sl
open Go.RowKit

/-- The slice value v, of n elements of sz cells each, reads in w as xs. -/
def Rd (w : World) (v : Value) (n sz : Nat) (xs : List Value) : Prop :=
  ∃ (ao : Option Addr) (cap : Nat), v = .slice ao n cap ∧ n ≤ cap ∧ (ao = none → cap = 0) ∧ xs.length = n * sz ∧ (xs ≠ [] → ∃ b off, ao = some ⟨b, off, none⟩ ∧ b < w.heap.size ∧ ∀ i u, xs[i]? = some u → w.cell? ⟨b, off + i, none⟩ = some u)

section
variable {w w' : World} {v : Value} {n sz : Nat} {xs : List Value}
theorem Rd.below (h : Rd w v n sz xs) (hb : Below w.heap.size w w') : Rd w' v n sz xs := by
  obtain ⟨ao, cap, e, hcp, hz, hl, hc⟩ := h
  refine ⟨ao, cap, e, hcp, hz, hl, fun hne => ?_⟩
  obtain ⟨b, off, e2, hlt, hc⟩ := hc hne
  exact ⟨b, off, e2, Nat.lt_of_lt_of_le hlt hb.size, fun i u hu => (hb.cell (p := ⟨b, off + i, none⟩) hlt).trans (hc i u hu)⟩
theorem Rd.alloc (h : Rd w v n sz xs) (o : Obj) : Rd (w.alloc o) v n sz xs := h.below ((Below.refl _ _).alloc (Nat.le_refl _) o)
theorem Rd.form (h : Rd w v n sz xs) : ∃ ao cap, v = .slice ao n cap := by obtain ⟨ao, cap, e, _⟩ := h; exact ⟨ao, cap, e⟩
theorem Rd.len (h : Rd w v n sz xs) : xs.length = n * sz := by obtain ⟨_, _, _, _, _, e, _⟩ := h; exact e
theorem Rd.nil (w : World) (sz : Nat) : Rd w (.slice none 0 0) 0 sz [] := ⟨none, 0, rfl, Nat.le_refl _, fun _ => rfl, by simp, fun h => absurd rfl h⟩
theorem Rd.own {base : Nat} {e : TypeId} (h : w.ownsRow base e sz v n xs) : Rd w v n sz xs := by
  rcases h with ⟨hl, ⟨rfl, rfl⟩ | ⟨g, cap, cur, rfl, hb, hh, hnc, hcm, hcs, ht⟩⟩
  · refine ⟨none, 0, rfl, Nat.le_refl _, fun _ => rfl, hl, fun hne => ?_⟩
    rw [Nat.zero_mul] at hl
    exact absurd (List.eq_nil_of_length_eq_zero hl) hne
  · refine ⟨some ⟨g, 0, none⟩, cap, rfl, hnc, (fun h => by cases h), hl, fun _ => ⟨g, 0, rfl, ?_, fun i u hu => ?_⟩⟩
    · rcases Nat.lt_or_ge g w.heap.size with h' | h'
      · exact h'
      · rw [Array.getElem?_eq_none h'] at hh; cases hh
    · rw [Nat.zero_add, cell_of_row w g i cur e (0, 0) hh]
      rw [← ht, List.getElem?_take] at hu
      split at hu
      · rw [← hu]; simp
      · cases hu
end

/-- A row of the call's own, not known to be new: what it reads as; what was there below base is as it was. -/
structure Own (w0 w : World) (base : Nat) (e : TypeId) (sz : Nat) (v : Value) (n : Nat) (xs : List Value) : Prop where
  own : w.ownsRow base e sz v n xs
  bel : Below base w0 w
  le : base ≤ w.heap.size

theorem Own.start (w0 : World) (base : Nat) (h : base ≤ w0.heap.size) (e : TypeId) (sz : Nat) : Own w0 w0 base e sz (.slice none 0 0) 0 [] := ⟨World.ownsRow_nil _ _ _ _, Below.refl _ _, h⟩
theorem Own.call {w0 w w' : World} {base : Nat} {e : TypeId} {sz : Nat} {v : Value} {n : Nat} {xs : List Value} (h : Own w0 w base e sz v n xs) (hb : Below w.heap.size w w') : Own w0 w' base e sz v n xs :=
  ⟨h.own.kept (row := none) ⟨hb.os, hb.tape, hb.output, hb.size, fun k hk _ => hb.block k hk⟩ (by
    cases hv : v.ownBlock with
    | none => exact .inl rfl
    | some g => exact .inr (by simp)), h.bel.trans (hb.mono h.le), Nat.le_trans h.le hb.size⟩
theorem Own.alloc {w0 w : World} {base : Nat} {e : TypeId} {sz : Nat} {v : Value} {n : Nat} {xs : List Value} (h : Own w0 w base e sz v n xs) (o : Obj) : Own w0 (w.alloc o) base e sz v n xs :=
  h.call ((Below.refl _ _).alloc (Nat.le_refl _) o)

theorem row_base {w : World} {base : Nat} {e : TypeId} {sz : Nat} {v : Value} {n : Nat} {xs : List Value} (h : w.ownsRow base e sz v n xs) : ∀ k, v.ownBlock = some k → base ≤ k := fun k hk => (h.lt k hk).1

variable {P : Program} {ops : Array Oper} {rest : List Oper} {o : Oper} {a : Act} {w : World} {Q : Exit → Act → World → Prop}

/-- append(out, u): u was laid in a new block just before. -/
theorem wpList_push {wr w0 : World} (hgd : o.guard = none) (s x : Operand) (t : TypeId) (ho : o.op = .call { callee := .builtin .append, args := #[s, x], argTypes := #[t, t] })
    (base : Nat) (e : TypeId) (i : TypeInfo) (z : Value) (size bytes : Nat) (ht : P.underlying t = some (.slice e)) (hi : P.info? e = some i) (hz : i.zero = some z) (hsize : i.size = size) (hby : i.bytes = bytes) (hzs : z.cells.size = size) (hsz : 0 < size)
    (v : Value) (n : Nat) (xs : List Value) (hs : a.eval s = v) (hown : Own w0 wr base e size v n xs) (us : List Value) (hw : w = wr.alloc (.cells us.toArray e)) (hlen : us.length = size) (h1 : ∀ u ∈ us, u.oneCell' = true)
    (c : Nat) (hx : a.eval x = .slice (some ⟨wr.heap.size, 0, none⟩) 1 c) (hn : (n + 1) * bytes ≤ 140737488355328) (hn2 : n + 1 ≤ maxLen)
    (h : ∀ v' w1, Own w0 w1 base e size v' (n + 1) (xs ++ us) → wpList P ops Q rest (a.put o.dst v') w1) : wpList P ops Q (o :: rest) a w := by
  subst hw
  have hA := hown.alloc (.cells us.toArray e)
  refine wpList_append_own _ hgd s x t ho base e i z size bytes ht hi hz hsize hby hzs hsz v n xs hs hA.own ⟨wr.heap.size, 0, none⟩ 1 c us hx (by omega) (fun j u hu => ?_) h1 hn2 hn hA.le (fun v' w' h2 h3 _ => ?_)
  · rw [Addr.add_mid, Nat.zero_add, World.cell?_alloc_at _ _ _ _ rfl]
    simpa using hu
  · refine h v' w' ⟨h2, hA.bel.grown h3 hA.le (row_base hA.own), Nat.le_trans hA.le h3.size⟩

/-- append(out, u...): u any slice that reads as news. -/
theorem wpList_pushAll {w0 : World} (hgd : o.guard = none) (s x : Operand) (t : TypeId) (ho : o.op = .call { callee := .builtin .append, args := #[s, x], argTypes := #[t, t] })
    (base : Nat) (e : TypeId) (i : TypeInfo) (z : Value) (size bytes : Nat) (ht : P.underlying t = some (.slice e)) (hi : P.info? e = some i) (hz : i.zero = some z) (hsize : i.size = size) (hby : i.bytes = bytes) (hzs : z.cells.size = size) (hsz : 0 < size)
    (v : Value) (n : Nat) (xs : List Value) (hs : a.eval s = v) (hown : Own w0 w base e size v n xs) (u : Value) (m : Nat) (news : List Value) (hr : Rd w u m size news) (hx : a.eval x = u) (h1 : ∀ y ∈ news, y.oneCell' = true)
    (hn : (n + m) * bytes ≤ 140737488355328) (hn2 : n + m ≤ maxLen)
    (h : ∀ v' w1, Own w0 w1 base e size v' (n + m) (xs ++ news) → wpList P ops Q rest (a.put o.dst v') w1) : wpList P ops Q (o :: rest) a w := by
  obtain ⟨ao, cap, rfl, hcp, hzr, hl, hc⟩ := hr
  cases ao with
  | none =>
    obtain rfl := hzr rfl
    obtain rfl : m = 0 := by omega
    have hnil : news = [] := List.eq_nil_of_length_eq_zero (by omega)
    subst hnil
    exact wpList_append_own_none hgd s x t ho base e i size ht hi v n xs hs hown.own hx (h v w (by simpa using hown))
  | some ad =>
    refine wpList_append_own _ hgd s x t ho base e i z size bytes ht hi hz hsize hby hzs hsz v n xs hs hown.own ad m cap news hx hl (fun j y hy => ?_) h1 hn2 hn hown.le (fun v' w' h2 h3 _ => ?_)
    · have hne : news ≠ [] := by intro e; subst e; simp at hy
      obtain ⟨b, off, e, _, hcc⟩ := hc hne
      cases e
      rw [Addr.add_mid]
      exact hcc j y hy
    · exact h v' w' ⟨h2, hown.bel.grown h3 hown.le (row_base hown.own), Nat.le_trans hown.le h3.size⟩
end Go.Proofs.YtfkobhagdjaleaaGreatDoor.Sl
