/- Bytes: one more on a row of the call's own; the text of such a row. -/
import Derived.Test.YtbhpcmbbbomknaaGreatDoorB0
import Derived.Test.YtbhpcmbbbomknaaGreatDoorMem
import Derived.Test.YtbhpcmbbbomknaaGreatDoorSl
import Derived.Test.YtbhpcmbbbomknaaGreatDoorS0
import Derived.Laws.BytesArg
namespace Go.Proofs.YtbhpcmbbbomknaaGreatDoor.Sp
open Go.RowKit Sl

section
variable {ops : Array Oper} {rest : List Oper} {o : Oper} {a : Act} {w : World} {Q : Exit → Act → World → Prop}
theorem bytesV_app (x y : List UInt8) : Mem.bytesV (x ++ y) = Mem.bytesV x ++ Mem.bytesV y := by unfold Mem.bytesV; rw [List.map_append]
/-- append(out, c): c was laid in a new block just before. -/
theorem wpList_pushB {wr w0 : World} (hgd : o.guard = none) (s x : Operand) (ho : o.op = .call { callee := .builtin .append, args := #[s, x], argTypes := #[23, 23] })
    (base : Nat) (v : Value) (n : Nat) (L : List UInt8) (hs : a.eval s = v) (hown : Own w0 wr base 5 1 v n (Mem.bytesV L)) (c : UInt8) (hw : w = wr.alloc (.cells #[.int .u8 c.toNat] 5))
    (cp : Nat) (hx : a.eval x = .slice (some ⟨wr.heap.size, 0, none⟩) 1 cp) (hn : n ≤ 1000000)
    (h : ∀ v' w1, Own w0 w1 base 5 1 v' (n + 1) (Mem.bytesV (L ++ [c])) → wpList Tryz.prog ops Q rest (a.put o.dst v') w1) : wpList Tryz.prog ops Q (o :: rest) a w := by
  obtain ⟨i, hi, hz, h1, h2⟩ := info_parts (P := Tryz.prog) (e := 5) (z := .int .u8 0) (size := 1) (bytes := 1) (by kernel_rfl)
  refine wpList_push hgd s x 23 ho base 5 i _ 1 1 Tryz.underlying23 hi hz h1 h2 rfl (by decide) v n _ hs hown [.int .u8 c.toNat] (by rw [hw]) rfl (by intro u hu; simp at hu; subst hu; rfl) cp hx (by omega) (by unfold maxLen; omega) (fun v' w1 h3 => h v' w1 ?_)
  rw [bytesV_app]
  exact h3
/-- append(out, c, d): both were laid in a new block just before. -/
theorem wpList_pushB2 {wr w0 : World} (hgd : o.guard = none) (s x : Operand) (ho : o.op = .call { callee := .builtin .append, args := #[s, x], argTypes := #[23, 23] })
    (base : Nat) (v : Value) (n : Nat) (L : List UInt8) (hs : a.eval s = v) (hown : Own w0 wr base 5 1 v n (Mem.bytesV L)) (c d : UInt8) (hw : w = wr.alloc (.cells #[.int .u8 c.toNat, .int .u8 d.toNat] 5))
    (cp : Nat) (hx : a.eval x = .slice (some ⟨wr.heap.size, 0, none⟩) 2 cp) (hcp : 2 ≤ cp) (hn : n ≤ 1000000)
    (h : ∀ v' w1, Own w0 w1 base 5 1 v' (n + 2) (Mem.bytesV (L ++ [c, d])) → wpList Tryz.prog ops Q rest (a.put o.dst v') w1) : wpList Tryz.prog ops Q (o :: rest) a w := by
  obtain ⟨i, hi, hz, h1, h2⟩ := info_parts (P := Tryz.prog) (e := 5) (z := .int .u8 0) (size := 1) (bytes := 1) (by kernel_rfl)
  subst hw
  have hA := hown.alloc (.cells #[.int .u8 c.toNat, .int .u8 d.toNat] 5)
  refine wpList_pushAll hgd s x 23 ho base 5 i _ 1 1 Tryz.underlying23 hi hz h1 h2 rfl (by decide) v n _ hs hA _ 2 (Mem.bytesV [c, d]) ?_ hx (by intro u hu; simp [Mem.bytesV] at hu; rcases hu with rfl | rfl <;> rfl) (by omega) (by unfold maxLen; omega) (fun v' w1 h3 => h v' w1 ?_)
  · refine ⟨_, _, rfl, hcp, (fun h => by cases h), rfl, fun _ => ⟨wr.heap.size, 0, rfl, by simp, fun i u hu => ?_⟩⟩
    rw [World.cell?_alloc_at _ _ _ _ rfl, Nat.zero_add]
    simpa [Mem.bytesV] using hu
  · rw [bytesV_app]
    exact h3
end

/-- the text of a row of bytes of the call's own -/
theorem run_text_own {w : World} {base : Nat} {v : Value} {n : Nat} {L : List UInt8} (h : w.ownsRow base 5 1 v n (Mem.bytesV L)) : (convert 23 9 v).run Tryz.prog w = .ok (.string ⟨L.toArray⟩) w := by
  have hl : L.length = n := by
    have := (Rd.own h).len
    rw [Mem.bytesV_len] at this
    omega
  have hr := Rd.own h
  rcases h with ⟨_, ⟨rfl, rfl⟩ | ⟨g, cap, cur, rfl, hb, hh, hnc, hcm, hcs, ht⟩⟩
  · obtain rfl : L = [] := List.eq_nil_of_length_eq_zero hl
    have := run_convert_bytes_nil (P := Tryz.prog) (w := w) 23 5 Tryz.underlying23 Tryz.underlying5 0 0 9 Tryz.underlying9
    exact this
  · subst hl
    refine Mem.run_text 23 5 9 Tryz.underlying23 Tryz.underlying5 Tryz.underlying9 g 0 cap L (fun i v hv => ?_)
    rw [Nat.zero_add, cell_of_row w g i cur _ (0, 0) hh]
    rw [← ht, List.getElem?_take] at hv
    split at hv
    · rw [← hv]; simp
    · cases hv
end Go.Proofs.YtbhpcmbbbomknaaGreatDoor.Sp
