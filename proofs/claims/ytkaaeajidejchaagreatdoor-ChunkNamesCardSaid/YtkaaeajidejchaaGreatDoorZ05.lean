/- Lemmas for the statement's proof, several texts in one: K1, T4, Bt, Dw, Reg3, Reg5. -/
import Derived.Test.YtkaaeajidejchaaGreatDoorZ04
import Derived.Test.YtkaaeajidejchaaGreatDoorZ01
import Derived.Test.YtkaaeajidejchaaGreatDoorZ02
import Derived.Laws.BytesArg
import Derived.Maps.AppendAt
import Derived.OrdersHeld
set_option linter.unusedVariables false
set_option linter.unusedSimpArgs false
/- Plain: the decoder of chunks as a machine; what is fed in parts. -/
section
namespace Go.Proofs.YtkaaeajidejchaaGreatDoor.Sp
open Go.RowKit Sl

/-- where a decoder stands -/
inductive CS | size | data | cr | lf | field
deriving DecidableEq

/-- a size line's answer: its number, its status; a field line's answer -/
structure Dec where
  L : Nat
  H : Nat
  C : Nat
  B : Nat
  st : CS
  line : List UInt8
  body : List UInt8
  left : Nat
  behind : Nat
  tr : List Fld
  bad : Nat
  done : Bool

/-- eating a byte into a line: what was refused (0: nothing), whether the line is whole -/
def eatS (L : Nat) (line : List UInt8) (c : UInt8) : Nat × Bool :=
  if L < line.length + 1 then (400, false)
  else if ((c == 10) != (line.getLast? == some 13)) = true then (400, false)
  else if c = 10 then (0, true)
  else if L ≤ line.length + 1 then (400, false)
  else (0, false)

section
variable (sz : List UInt8 → Nat × Nat) (fl : List UInt8 → Option Fld)

/-- a byte eaten: the decoder behind it, a flaw (0: none) -/
def stepS (d : Dec) (c : UInt8) : Dec × Nat :=
  match d.st with
  | .size =>
    let d1 := { d with line := d.line ++ [c] }
    if (eatS d.L d.line c).1 ≠ 0 then (d1, (eatS d.L d.line c).1)
    else if (eatS d.L d.line c).2 = false then (d1, 0)
    else
      let s := d.line.dropLast
      let d2 := { d with line := [] }
      if (sz s).2 ≠ 0 then (d2, (sz s).2)
      else if d.B - d.body.length < (sz s).1 then (d2, 413)
      else if (sz s).1 = 0 then ({ d2 with st := .field }, 0)
      else ({ d2 with left := (sz s).1, st := .data }, 0)
  | .data =>
    let d1 := { d with body := d.body ++ [c], left := d.left - 1 }
    if 0 < d.left - 1 then (d1, 0) else ({ d1 with st := .cr }, 0)
  | .cr => if c = 13 then ({ d with st := .lf }, 0) else (d, 400)
  | .lf => if c = 10 then ({ d with st := .size }, 0) else (d, 400)
  | .field =>
    let d1 := { d with behind := d.behind + 1, line := d.line ++ [c] }
    if (eatS d.L d.line c).1 ≠ 0 then (d1, (eatS d.L d.line c).1)
    else if d.H < d.behind + 1 then (d1, 431)
    else if (eatS d.L d.line c).2 = false then (d1, 0)
    else
      let s := d.line.dropLast
      let d2 := { d with behind := d.behind + 1, line := [] }
      if s = [] then ({ d2 with done := true }, 0)
      else match fl s with
        | none => (d2, 400)
        | some f => if d.C ≤ d.tr.length then (d2, 431) else ({ d2 with tr := d.tr ++ [f] }, 0)

/-- a byte fed -/
def oneS (d : Dec) (c : UInt8) : Dec := { (stepS sz fl d c).1 with bad := (stepS sz fl d c).2 }
def stopS (d : Dec) : Bool := d.bad != 0 || d.done

/-- bytes fed: the decoder behind them; how many were eaten -/
def feedS : Dec → List UInt8 → Dec × Nat
  | d, [] => (d, 0)
  | d, c :: t => if stopS d = true then (d, 0) else ((feedS (oneS sz fl d c) t).1, (feedS (oneS sz fl d c) t).2 + 1)

theorem feedS_stop {d : Dec} (h : stopS d = true) (l : List UInt8) : feedS sz fl d l = (d, 0) := by
  cases l with
  | nil => rfl
  | cons c t => unfold feedS; rw [if_pos h]
theorem feedS_le : ∀ (l : List UInt8) (d : Dec), (feedS sz fl d l).2 ≤ l.length
  | [], d => Nat.le_refl _
  | c :: t, d => by
    unfold feedS
    split
    · exact Nat.zero_le _
    · have := feedS_le t (oneS sz fl d c)
      simp only [List.length_cons]; omega
theorem feedS_go : ∀ (l : List UInt8) (d : Dec), stopS (feedS sz fl d l).1 = false → (feedS sz fl d l).2 = l.length
  | [], d, _ => rfl
  | c :: t, d, h => by
    unfold feedS at h ⊢
    by_cases hs : stopS d = true
    · rw [if_pos hs] at h; rw [hs] at h; cases h
    · rw [if_neg hs] at h ⊢
      have := feedS_go t _ h
      simp only [List.length_cons]; omega
theorem feedS_app : ∀ (a b : List UInt8) (d : Dec), feedS sz fl d (a ++ b) = ((feedS sz fl (feedS sz fl d a).1 b).1, (feedS sz fl d a).2 + (feedS sz fl (feedS sz fl d a).1 b).2)
  | [], b, d => by simp [feedS]
  | c :: t, b, d => by
    rw [List.cons_append]
    by_cases hs : stopS d = true
    · rw [feedS_stop sz fl hs, feedS_stop sz fl hs, feedS_stop sz fl hs] <;> rfl
    · have e1 : feedS sz fl d (c :: (t ++ b)) = ((feedS sz fl (oneS sz fl d c) (t ++ b)).1, (feedS sz fl (oneS sz fl d c) (t ++ b)).2 + 1) := by rw [feedS, if_neg hs]
      have e2 : feedS sz fl d (c :: t) = ((feedS sz fl (oneS sz fl d c) t).1, (feedS sz fl (oneS sz fl d c) t).2 + 1) := by rw [feedS, if_neg hs]
      rw [e1, e2, feedS_app t b]
      simp only [Prod.mk.injEq, true_and]
      omega
end
end Go.Proofs.YtkaaeajidejchaaGreatDoor.Sp
end

/- Bytes: one more on a row of the call's own; the text of such a row. -/
section
namespace Go.Proofs.YtkaaeajidejchaaGreatDoor.Sp
open Go.RowKit Sl

section
variable {ops : Array Oper} {rest : List Oper} {o : Oper} {a : Act} {w : World} {Q : Exit → Act → World → Prop}
theorem bytesV_app (x y : List UInt8) : Mem.bytesV (x ++ y) = Mem.bytesV x ++ Mem.bytesV y := by unfold Mem.bytesV; rw [List.map_append]
/-- append(out, c): c was laid in a new block just before. -/
theorem wpList_pushB {wr w0 : World} (hgd : o.guard = none) (s x : Operand) (ho : o.op = .call { callee := .builtin .append, args := #[s, x], argTypes := #[56, 56] })
    (base : Nat) (v : Value) (n : Nat) (L : List UInt8) (hs : a.eval s = v) (hown : Own w0 wr base 5 1 v n (Mem.bytesV L)) (c : UInt8) (hw : w = wr.alloc (.cells #[.int .u8 c.toNat] 5))
    (cp : Nat) (hx : a.eval x = .slice (some ⟨wr.heap.size, 0, none⟩) 1 cp) (hn : n ≤ 1000000)
    (h : ∀ v' w1, Own w0 w1 base 5 1 v' (n + 1) (Mem.bytesV (L ++ [c])) → wpList Tryz.prog ops Q rest (a.put o.dst v') w1) : wpList Tryz.prog ops Q (o :: rest) a w := by
  obtain ⟨i, hi, hz, h1, h2⟩ := info_parts (P := Tryz.prog) (e := 5) (z := .int .u8 0) (size := 1) (bytes := 1) (by kernel_rfl)
  refine wpList_push hgd s x 56 ho base 5 i _ 1 1 Tryz.underlying56 hi hz h1 h2 rfl (by decide) v n _ hs hown [.int .u8 c.toNat] (by rw [hw]) rfl (by intro u hu; simp at hu; subst hu; rfl) cp hx (by omega) (by unfold maxLen; omega) (fun v' w1 h3 => h v' w1 ?_)
  rw [bytesV_app]
  exact h3
/-- append(out, c, d): both were laid in a new block just before. -/
theorem wpList_pushB2 {wr w0 : World} (hgd : o.guard = none) (s x : Operand) (ho : o.op = .call { callee := .builtin .append, args := #[s, x], argTypes := #[56, 56] })
    (base : Nat) (v : Value) (n : Nat) (L : List UInt8) (hs : a.eval s = v) (hown : Own w0 wr base 5 1 v n (Mem.bytesV L)) (c d : UInt8) (hw : w = wr.alloc (.cells #[.int .u8 c.toNat, .int .u8 d.toNat] 5))
    (cp : Nat) (hx : a.eval x = .slice (some ⟨wr.heap.size, 0, none⟩) 2 cp) (hcp : 2 ≤ cp) (hn : n ≤ 1000000)
    (h : ∀ v' w1, Own w0 w1 base 5 1 v' (n + 2) (Mem.bytesV (L ++ [c, d])) → wpList Tryz.prog ops Q rest (a.put o.dst v') w1) : wpList Tryz.prog ops Q (o :: rest) a w := by
  obtain ⟨i, hi, hz, h1, h2⟩ := info_parts (P := Tryz.prog) (e := 5) (z := .int .u8 0) (size := 1) (bytes := 1) (by kernel_rfl)
  subst hw
  have hA := hown.alloc (.cells #[.int .u8 c.toNat, .int .u8 d.toNat] 5)
  refine wpList_pushAll hgd s x 56 ho base 5 i _ 1 1 Tryz.underlying56 hi hz h1 h2 rfl (by decide) v n _ hs hA _ 2 (Mem.bytesV [c, d]) ?_ hx (by intro u hu; simp [Mem.bytesV] at hu; rcases hu with rfl | rfl <;> rfl) (by omega) (by unfold maxLen; omega) (fun v' w1 h3 => h v' w1 ?_)
  · refine ⟨_, _, rfl, hcp, (fun h => by cases h), rfl, fun _ => ⟨wr.heap.size, 0, rfl, by simp, fun i u hu => ?_⟩⟩
    rw [World.cell?_alloc_at _ _ _ _ rfl, Nat.zero_add]
    simpa [Mem.bytesV] using hu
  · rw [bytesV_app]
    exact h3
end

/-- the text of a row of bytes of the call's own -/
theorem run_text_own {w : World} {base : Nat} {v : Value} {n : Nat} {L : List UInt8} (h : w.ownsRow base 5 1 v n (Mem.bytesV L)) : (convert 56 9 v).run Tryz.prog w = .ok (.string ⟨L.toArray⟩) w := by
  have hl : L.length = n := by
    have := (Rd.own h).len
    rw [Mem.bytesV_len] at this
    omega
  have hr := Rd.own h
  rcases h with ⟨_, ⟨rfl, rfl⟩ | ⟨g, cap, cur, rfl, hb, hh, hnc, hcm, hcs, ht⟩⟩
  · obtain rfl : L = [] := List.eq_nil_of_length_eq_zero hl
    have := run_convert_bytes_nil (P := Tryz.prog) (w := w) 56 5 Tryz.underlying56 Tryz.underlying5 0 0 9 Tryz.underlying9
    exact this
  · subst hl
    refine Mem.run_text 56 5 9 Tryz.underlying56 Tryz.underlying5 Tryz.underlying9 g 0 cap L (fun i v hv => ?_)
    rw [Nat.zero_add, cell_of_row w g i cur _ (0, 0) hh]
    rw [← ht, List.getElem?_take] at hv
    split at hv
    · rw [← hv]; simp
    · cases hv
end Go.Proofs.YtkaaeajidejchaaGreatDoor.Sp
end

/- What a call may write: all blocks but some are as they were; a field more in a row of fields, where the new row lies. -/
section
namespace Go.Proofs.YtkaaeajidejchaaGreatDoor.Sp
open Go.RowKit Sl

/-- Blocks that are not in S are as they were. -/
structure But (S : Nat → Prop) (w w' : World) : Prop where
  os : w'.os = w.os
  tape : w'.tape = w.tape
  output : w'.output = w.output
  size : w.heap.size ≤ w'.heap.size
  block : ∀ k, k < w.heap.size → ¬ S k → w'.heap[k]? = w.heap[k]?

section
variable {S S' : Nat → Prop} {w w' w1 w2 : World}
theorem But.refl (S : Nat → Prop) (w : World) : But S w w := ⟨rfl, rfl, rfl, Nat.le_refl _, fun _ _ _ => rfl⟩
theorem But.of_below (h : Below w.heap.size w w') : But S w w' := ⟨h.os, h.tape, h.output, h.size, fun k hk _ => h.block k hk⟩
theorem But.trans (h : But S w w1) (k : But S' w1 w2) (hs : ∀ i, i < w.heap.size → S' i → S i) : But S w w2 :=
  ⟨k.os.trans h.os, k.tape.trans h.tape, k.output.trans h.output, Nat.le_trans h.size k.size, fun i hi hn => (k.block i (Nat.lt_of_lt_of_le hi h.size) (fun e => hn (hs i hi e))).trans (h.block i hi hn)⟩
theorem But.more (h : But S w w1) (k : Below w1.heap.size w1 w2) : But S w w2 := h.trans (S' := fun _ => False) (But.of_below k) (fun _ _ e => e.elim)
theorem But.set (S : Nat → Prop) (w : World) {p : Addr} (hp : S p.block) (u : Value) : But S w (w.setCell p u) :=
  ⟨rfl, rfl, rfl, by simp [World.setCell], fun k _ hn => Below.heap_setCell _ _ _ _ (fun e => hn (e ▸ hp))⟩
theorem But.grown {row : Option Nat} (hg : w.grownBy w' row) (hr : ∀ k, row = some k → S k) : But S w w' :=
  ⟨hg.os, hg.tape, hg.output, hg.size, fun k hk hn => hg.block k hk (fun e => hn (hr k e.symm))⟩
theorem But.below {B : Nat} (h : But S w w') (hB : B ≤ w.heap.size) (hn : ∀ k, S k → B ≤ k) : Below B w w' :=
  ⟨h.os, h.tape, h.output, h.size, fun k hk => h.block k (by omega) (fun e => by have := hn k e; omega)⟩
theorem But.cell (h : But S w w') {p : Addr} {v : Value} (hc : w.cell? p = some v) (hn : ¬ S p.block) : w'.cell? p = some v :=
  (World.cell?_of_block (w := w) (h.block p.block (World.block_lt_of_cell? w p hc) hn)).trans hc
theorem But.has {b : Nat} {vs : List Value} (h : But S w w') (H : Reg.Has w b vs) (hn : ¬ S b) : Reg.Has w' b vs :=
  ⟨fun i v hv => (World.cell?_of_block (w := w) (a := ⟨b, i, none⟩) (h.block b H.lt hn)).trans (H.cell i v hv), fun i hi => (World.frozen?_of_block (w := w) (a := ⟨b, i, none⟩) (h.block b H.lt hn)).trans (H.free i hi), Nat.lt_of_lt_of_le H.lt h.size⟩
theorem But.own {base : Nat} {e : TypeId} {sz : Nat} {v : Value} {n : Nat} {xs : List Value} (h : But S w w') (H : w.ownsRow base e sz v n xs) (hn : ∀ k, v.ownBlock = some k → ¬ S k) : w'.ownsRow base e sz v n xs := by
  refine ⟨H.1, ?_⟩
  rcases H.2 with hh | ⟨g, cap, cur, rfl, hb, hgg, rest⟩
  · exact .inl hh
  · refine .inr ⟨g, cap, cur, rfl, hb, ?_, rest⟩
    rw [h.block g (Array.getElem?_eq_some_iff.1 hgg).1 (hn g rfl)]
    exact hgg
end

section
variable {ops : Array Oper} {rest : List Oper} {o : Oper} {a : Act} {w : World} {Q : Exit → Act → World → Prop}
/-- append(out, f): f lies in block g0; where the new row lies. -/
theorem wpList_pushFW (hgd : o.guard = none) (s x : Operand) (ho : o.op = .call { callee := .builtin .append, args := #[s, x], argTypes := #[41, 41] })
    (base : Nat) (v : Value) (L : List Fld) (hs : a.eval s = v) (hown : w.ownsRow base 50 2 v L.length (fldV L)) (f : Fld) (g0 cp : Nat) (hf : Reg.Has w g0 [.string f.1, .string f.2])
    (hx : a.eval x = .slice (some ⟨g0, 0, none⟩) 1 cp) (hn : L.length ≤ 1000000) (hbase : base ≤ w.heap.size)
    (h : ∀ v' w1, w1.ownsRow base 50 2 v' (L.length + 1) (fldV (L ++ [f])) → w.grownBy w1 v.ownBlock → (v'.ownBlock = v.ownBlock ∨ v'.ownBlock = some w.heap.size) → wpList Tryz.prog ops Q rest (a.put o.dst v') w1) : wpList Tryz.prog ops Q (o :: rest) a w := by
  obtain ⟨i, hi, hz, h1, h2⟩ := info_parts (P := Tryz.prog) (e := 50) (z := .agg #[.string ⟨#[]⟩, .string ⟨#[]⟩]) (size := 2) (bytes := 32) (by kernel_rfl)
  refine wpList_append_own_at w hgd s x 41 ho base 50 i _ 2 32 Tryz.underlying41 hi hz h1 h2 rfl (by decide) v L.length _ hs hown ⟨g0, 0, none⟩ 1 cp [.string f.1, .string f.2] hx rfl (fun j u hu => ?_) (by intro u hu; simp at hu; rcases hu with rfl | rfl <;> rfl) (by unfold maxLen; omega) (by omega) hbase (fun v' w1 g1 g2 _ g4 => h v' w1 ?_ g2 g4)
  · rw [Addr.add_mid, Nat.zero_add]
    exact hf.cell j u hu
  · rw [show fldV (L ++ [f]) = fldV L ++ [.string f.1, .string f.2] by simp [fldV]]
    exact g1
end
end Go.Proofs.YtkaaeajidejchaaGreatDoor.Sp
end

/- The decoder of chunks in memory: what a call may write; the decoder's block and the three rows that it owns. -/
section
namespace Go.Proofs.YtkaaeajidejchaaGreatDoor.Sp
open Go.RowKit Sl

/-- the decoder's cells -/
def decV (nx : Value) (d : Dec) (ln bd tr : Value) : List Value :=
  [.int .i64 d.L, .int .i64 d.H, .int .i64 d.C, .int .i64 d.B, nx, ln, bd, .int .i64 d.left, .int .i64 d.behind, tr, .int .i64 d.bad, .bool d.done]

/-- A decoder: its block b, the state that it is to go on with (nx), its three rows. -/
structure DecAt (w : World) (base b : Nat) (nx : Value) (d : Dec) (ln bd tr : Value) : Prop where
  has : Reg.Has w b (decV nx d ln bd tr)
  le : base ≤ b
  line : w.ownsRow base 5 1 ln d.line.length (Mem.bytesV d.line)
  body : w.ownsRow base 5 1 bd d.body.length (Mem.bytesV d.body)
  trs : w.ownsRow base 50 2 tr d.tr.length (fldV d.tr)
  nl : ln.ownBlock ≠ some b
  nb : bd.ownBlock ≠ some b
  nt : tr.ownBlock ≠ some b
  lb : ∀ k, ln.ownBlock = some k → bd.ownBlock ≠ some k
  ltr : ∀ k, ln.ownBlock = some k → tr.ownBlock ≠ some k
  bt : ∀ k, bd.ownBlock = some k → tr.ownBlock ≠ some k

def foot (b : Nat) (ln bd tr : Value) (k : Nat) : Prop := k = b ∨ ln.ownBlock = some k ∨ bd.ownBlock = some k ∨ tr.ownBlock = some k

/-- From w to w' the decoder of block b alone has been written; what it owns then it owned before, or is new. -/
structure Moves (b : Nat) (w : World) (ln bd tr : Value) (w' : World) (ln' bd' tr' : Value) : Prop where
  but : But (foot b ln bd tr) w w'
  new : ∀ k, foot b ln' bd' tr' k → foot b ln bd tr k ∨ w.heap.size ≤ k

section
variable {w w' w1 : World} {base b : Nat} {nx ln bd tr ln' bd' tr' : Value} {d : Dec}
theorem Moves.refl (b : Nat) (w : World) (ln bd tr : Value) : Moves b w ln bd tr w ln bd tr := ⟨But.refl _ _, fun _ h => .inl h⟩
theorem Moves.trans {ln2 bd2 tr2 : Value} (h : Moves b w ln bd tr w1 ln' bd' tr') (k : Moves b w1 ln' bd' tr' w' ln2 bd2 tr2) : Moves b w ln bd tr w' ln2 bd2 tr2 :=
  ⟨h.but.trans k.but (fun i hi hs => (h.new i hs).elim id (fun e => by omega)), fun i hi => (k.new i hi).elim (h.new i) (fun e => .inr (Nat.le_trans h.but.size e))⟩
theorem Moves.call (h : Moves b w ln bd tr w1 ln' bd' tr') (k : Below w1.heap.size w1 w') : Moves b w ln bd tr w' ln' bd' tr' := ⟨h.but.more k, h.new⟩
theorem Moves.after {wA : World} (hb : Below w.heap.size w wA) (h : Moves b wA ln bd tr w' ln' bd' tr') : Moves b w ln bd tr w' ln' bd' tr' := ((Moves.refl b w ln bd tr).call hb).trans h
theorem Moves.put (h : Moves b w ln bd tr w1 ln' bd' tr') (i : Nat) (u : Value) : Moves b w ln bd tr (w1.setCell ⟨b, i, none⟩ u) ln' bd' tr' :=
  h.trans ⟨But.set _ _ (.inl rfl) u, fun _ h => .inl h⟩
theorem Moves.below {B : Nat} (h : Moves b w ln bd tr w' ln' bd' tr') (hd : DecAt w base b nx d ln bd tr) (hB : B ≤ base) (hs : B ≤ w.heap.size) : Below B w w' := by
  refine h.but.below hs ?_
  rintro k (rfl | e | e | e)
  · exact Nat.le_trans hB hd.le
  · exact Nat.le_trans hB (hd.line.lt k e).1
  · exact Nat.le_trans hB (hd.body.lt k e).1
  · exact Nat.le_trans hB (hd.trs.lt k e).1

theorem DecAt.call (h : DecAt w base b nx d ln bd tr) (hb : Below w.heap.size w w') : DecAt w' base b nx d ln bd tr :=
  { h with
    has := h.has.call hb
    line := (But.of_below (S := fun _ => False) hb).own h.line (fun _ _ e => e)
    body := (But.of_below (S := fun _ => False) hb).own h.body (fun _ _ e => e)
    trs := (But.of_below (S := fun _ => False) hb).own h.trs (fun _ _ e => e) }
theorem DecAt.alloc (h : DecAt w base b nx d ln bd tr) (o : Obj) : DecAt (w.alloc o) base b nx d ln bd tr := h.call ((Below.refl _ _).alloc (Nat.le_refl _) o)
/-- something else of one's own is written -/
theorem DecAt.but {S : Nat → Prop} (h : DecAt w base b nx d ln bd tr) (hb : But S w w') (hn : ∀ k, foot b ln bd tr k → ¬ S k) : DecAt w' base b nx d ln bd tr :=
  { h with
    has := hb.has h.has (hn b (.inl rfl))
    line := hb.own h.line (fun k e => hn k (.inr (.inl e)))
    body := hb.own h.body (fun k e => hn k (.inr (.inr (.inl e))))
    trs := hb.own h.trs (fun k e => hn k (.inr (.inr (.inr e)))) }
theorem DecAt.st (h : DecAt w base b nx d ln bd tr) (s : CS) : DecAt w base b nx { d with st := s } ln bd tr :=
  { has := h.has, le := h.le, line := h.line, body := h.body, trs := h.trs, nl := h.nl, nb := h.nb, nt := h.nt, lb := h.lb, ltr := h.ltr, bt := h.bt }
theorem DecAt.foot_lt (h : DecAt w base b nx d ln bd tr) : ∀ k, foot b ln bd tr k → k < w.heap.size := by
  rintro k (rfl | e | e | e)
  · exact h.has.lt
  · exact (h.line.lt k e).2
  · exact (h.body.lt k e).2
  · exact (h.trs.lt k e).2
theorem DecAt.foot_ge (h : DecAt w base b nx d ln bd tr) : ∀ k, foot b ln bd tr k → base ≤ k := by
  rintro k (rfl | e | e | e)
  · exact h.le
  · exact (h.line.lt k e).1
  · exact (h.body.lt k e).1
  · exact (h.trs.lt k e).1
/-- a cell of the block is written, no row -/
theorem DecAt.put {nx' : Value} {d' : Dec} (h : DecAt w base b nx d ln bd tr) (i : Nat) (u : Value) (hv : (decV nx d ln bd tr).set i u = decV nx' d' ln bd tr) (h1 : d'.line = d.line) (h2 : d'.body = d.body) (h3 : d'.tr = d.tr) :
    DecAt (w.setCell ⟨b, i, none⟩ u) base b nx' d' ln bd tr :=
  have hb : But (fun k => k = b) w (w.setCell ⟨b, i, none⟩ u) := But.set (fun k => k = b) _ rfl u
  { has := hv ▸ h.has.put i u
    le := h.le
    line := by rw [h1]; exact hb.own h.line (fun k e e2 => h.nl ((show k = b from e2) ▸ e))
    body := by rw [h2]; exact hb.own h.body (fun k e e2 => h.nb ((show k = b from e2) ▸ e))
    trs := by rw [h3]; exact hb.own h.trs (fun k e e2 => h.nt ((show k = b from e2) ▸ e))
    nl := h.nl, nb := h.nb, nt := h.nt, lb := h.lb, ltr := h.ltr, bt := h.bt }
/-- the line's row has grown (behind append, ahead of the store) -/
theorem DecAt.has_line (h : DecAt w base b nx d ln bd tr) (hg : w.grownBy w1 ln.ownBlock) : Reg.Has w1 b (decV nx d ln bd tr) :=
  (But.grown (S := fun k => ln.ownBlock = some k) hg (fun _ e => e)).has h.has h.nl
theorem DecAt.has_body (h : DecAt w base b nx d ln bd tr) (hg : w.grownBy w1 bd.ownBlock) : Reg.Has w1 b (decV nx d ln bd tr) :=
  (But.grown (S := fun k => bd.ownBlock = some k) hg (fun _ e => e)).has h.has h.nb
theorem DecAt.has_tr (h : DecAt w base b nx d ln bd tr) (hg : w.grownBy w1 tr.ownBlock) : Reg.Has w1 b (decV nx d ln bd tr) :=
  (But.grown (S := fun k => tr.ownBlock = some k) hg (fun _ e => e)).has h.has h.nt
/-- the line's row is a new value -/
theorem DecAt.setLine (h : DecAt w base b nx d ln bd tr) (L' : List UInt8) (hg : w.grownBy w1 ln.ownBlock) (h2 : w1.ownsRow base 5 1 ln' L'.length (Mem.bytesV L')) (hat : ln'.ownBlock = ln.ownBlock ∨ ln'.ownBlock = some w.heap.size) :
    DecAt (w1.setCell ⟨b, 5, none⟩ ln') base b nx { d with line := L' } ln' bd tr ∧ Moves b w ln bd tr (w1.setCell ⟨b, 5, none⟩ ln') ln' bd tr := by
  have hb1 : But (fun k => ln.ownBlock = some k) w w1 := But.grown hg (fun _ e => e)
  have hb2 : But (fun k => k = b) w1 (w1.setCell ⟨b, 5, none⟩ ln') := But.set (fun k => k = b) _ rfl _
  have hlt := h.foot_lt
  have hnew : ∀ k, ln'.ownBlock = some k → ln.ownBlock = some k ∨ k = w.heap.size := fun k e => hat.imp (fun e2 => e2.symm.trans e) (fun e2 => by rw [e2] at e; injection e with e; exact e.symm)
  have n1 : ln'.ownBlock ≠ some b := fun e => (hnew b e).elim h.nl (fun e2 => by have := h.has.lt; omega)
  refine ⟨{ has := (h.has_line hg).put 5 ln', le := h.le, line := hb2.own h2 (fun k e e2 => n1 ((show k = b from e2) ▸ e)), body := hb2.own (hb1.own h.body (fun k e e2 => h.lb k e2 e)) (fun k e e2 => h.nb ((show k = b from e2) ▸ e)), trs := hb2.own (hb1.own h.trs (fun k e e2 => h.ltr k e2 e)) (fun k e e2 => h.nt ((show k = b from e2) ▸ e)),
            nl := n1, nb := h.nb, nt := h.nt, lb := fun k e e2 => (hnew k e).elim (fun e3 => h.lb k e3 e2) (fun e3 => by have := hlt k (.inr (.inr (.inl e2))); omega), ltr := fun k e e2 => (hnew k e).elim (fun e3 => h.ltr k e3 e2) (fun e3 => by have := hlt k (.inr (.inr (.inr e2))); omega), bt := h.bt },
    ⟨(But.grown hg (fun k e => .inr (.inl e))).trans (But.set (fun k => k = b) _ rfl _) (fun k _ e => .inl e), ?_⟩⟩
  rintro k (e | e | e | e)
  · exact .inl (.inl e)
  · exact (hnew k e).elim (fun e => .inl (.inr (.inl e))) (fun e => .inr (by omega))
  · exact .inl (.inr (.inr (.inl e)))
  · exact .inl (.inr (.inr (.inr e)))
theorem DecAt.setBody (h : DecAt w base b nx d ln bd tr) (L' : List UInt8) (hg : w.grownBy w1 bd.ownBlock) (h2 : w1.ownsRow base 5 1 bd' L'.length (Mem.bytesV L')) (hat : bd'.ownBlock = bd.ownBlock ∨ bd'.ownBlock = some w.heap.size) :
    DecAt (w1.setCell ⟨b, 6, none⟩ bd') base b nx { d with body := L' } ln bd' tr ∧ Moves b w ln bd tr (w1.setCell ⟨b, 6, none⟩ bd') ln bd' tr := by
  have hb1 : But (fun k => bd.ownBlock = some k) w w1 := But.grown hg (fun _ e => e)
  have hb2 : But (fun k => k = b) w1 (w1.setCell ⟨b, 6, none⟩ bd') := But.set (fun k => k = b) _ rfl _
  have hlt := h.foot_lt
  have hnew : ∀ k, bd'.ownBlock = some k → bd.ownBlock = some k ∨ k = w.heap.size := fun k e => hat.imp (fun e2 => e2.symm.trans e) (fun e2 => by rw [e2] at e; injection e with e; exact e.symm)
  have n1 : bd'.ownBlock ≠ some b := fun e => (hnew b e).elim h.nb (fun e2 => by have := h.has.lt; omega)
  refine ⟨{ has := (h.has_body hg).put 6 bd', le := h.le, body := hb2.own h2 (fun k e e2 => n1 ((show k = b from e2) ▸ e)), line := hb2.own (hb1.own h.line (fun k e e2 => h.lb k e e2)) (fun k e e2 => h.nl ((show k = b from e2) ▸ e)), trs := hb2.own (hb1.own h.trs (fun k e e2 => h.bt k e2 e)) (fun k e e2 => h.nt ((show k = b from e2) ▸ e)),
            nl := h.nl, nb := n1, nt := h.nt, lb := fun k e e2 => (hnew k e2).elim (fun e3 => h.lb k e e3) (fun e3 => by have := hlt k (.inr (.inl e)); omega), ltr := h.ltr, bt := fun k e e2 => (hnew k e).elim (fun e3 => h.bt k e3 e2) (fun e3 => by have := hlt k (.inr (.inr (.inr e2))); omega) },
    ⟨(But.grown hg (fun k e => .inr (.inr (.inl e)))).trans (But.set (fun k => k = b) _ rfl _) (fun k _ e => .inl e), ?_⟩⟩
  rintro k (e | e | e | e)
  · exact .inl (.inl e)
  · exact .inl (.inr (.inl e))
  · exact (hnew k e).elim (fun e => .inl (.inr (.inr (.inl e)))) (fun e => .inr (by omega))
  · exact .inl (.inr (.inr (.inr e)))
theorem DecAt.setTr (h : DecAt w base b nx d ln bd tr) (L' : List Fld) (hg : w.grownBy w1 tr.ownBlock) (h2 : w1.ownsRow base 50 2 tr' L'.length (fldV L')) (hat : tr'.ownBlock = tr.ownBlock ∨ tr'.ownBlock = some w.heap.size) :
    DecAt (w1.setCell ⟨b, 9, none⟩ tr') base b nx { d with tr := L' } ln bd tr' ∧ Moves b w ln bd tr (w1.setCell ⟨b, 9, none⟩ tr') ln bd tr' := by
  have hb1 : But (fun k => tr.ownBlock = some k) w w1 := But.grown hg (fun _ e => e)
  have hb2 : But (fun k => k = b) w1 (w1.setCell ⟨b, 9, none⟩ tr') := But.set (fun k => k = b) _ rfl _
  have hlt := h.foot_lt
  have hnew : ∀ k, tr'.ownBlock = some k → tr.ownBlock = some k ∨ k = w.heap.size := fun k e => hat.imp (fun e2 => e2.symm.trans e) (fun e2 => by rw [e2] at e; injection e with e; exact e.symm)
  have n1 : tr'.ownBlock ≠ some b := fun e => (hnew b e).elim h.nt (fun e2 => by have := h.has.lt; omega)
  refine ⟨{ has := (h.has_tr hg).put 9 tr', le := h.le, trs := hb2.own h2 (fun k e e2 => n1 ((show k = b from e2) ▸ e)), line := hb2.own (hb1.own h.line (fun k e e2 => h.ltr k e e2)) (fun k e e2 => h.nl ((show k = b from e2) ▸ e)), body := hb2.own (hb1.own h.body (fun k e e2 => h.bt k e e2)) (fun k e e2 => h.nb ((show k = b from e2) ▸ e)),
            nl := h.nl, nb := h.nb, nt := n1, lb := h.lb, ltr := fun k e e2 => (hnew k e2).elim (fun e3 => h.ltr k e e3) (fun e3 => by have := hlt k (.inr (.inl e)); omega), bt := fun k e e2 => (hnew k e2).elim (fun e3 => h.bt k e e3) (fun e3 => by have := hlt k (.inr (.inr (.inl e))); omega) },
    ⟨(But.grown hg (fun k e => .inr (.inr (.inr e)))).trans (But.set (fun k => k = b) _ rfl _) (fun k _ e => .inl e), ?_⟩⟩
  rintro k (e | e | e | e)
  · exact .inl (.inl e)
  · exact .inl (.inr (.inl e))
  · exact .inl (.inr (.inr (.inl e)))
  · exact (hnew k e).elim (fun e => .inl (.inr (.inr (.inr e)))) (fun e => .inr (by omega))
/-- the line is laid down -/
theorem DecAt.noLine (h : DecAt w base b nx d ln bd tr) : DecAt (w.setCell ⟨b, 5, none⟩ (.slice none 0 0)) base b nx { d with line := [] } (.slice none 0 0) bd tr ∧ Moves b w ln bd tr (w.setCell ⟨b, 5, none⟩ (.slice none 0 0)) (.slice none 0 0) bd tr := by
  have hb2 : But (fun k => k = b) w (w.setCell ⟨b, 5, none⟩ (.slice none 0 0)) := But.set (fun k => k = b) _ rfl _
  refine ⟨{ has := h.has.put 5 _, le := h.le, line := World.ownsRow_nil _ _ _ _, body := hb2.own h.body (fun k e e2 => h.nb ((show k = b from e2) ▸ e)), trs := hb2.own h.trs (fun k e e2 => h.nt ((show k = b from e2) ▸ e)),
            nl := by simp [Value.ownBlock], nb := h.nb, nt := h.nt, lb := fun k e => by simp [Value.ownBlock] at e, ltr := fun k e => by simp [Value.ownBlock] at e, bt := h.bt },
    ⟨But.set (foot b ln bd tr) _ (.inl rfl) _, ?_⟩⟩
  rintro k (e | e | e | e)
  · exact .inl (.inl e)
  · simp [Value.ownBlock] at e
  · exact .inl (.inr (.inr (.inl e)))
  · exact .inl (.inr (.inr (.inr e)))
end

section
variable {ops : Array Oper} {rest : List Oper} {o : Oper} {a : Act} {w : World} {Q : Exit → Act → World → Prop}
/-- append(out, c): c was laid in a new block just before; where the new row lies. -/
theorem wpList_pushBAt {wr : World} (hgd : o.guard = none) (s x : Operand) (ho : o.op = .call { callee := .builtin .append, args := #[s, x], argTypes := #[56, 56] })
    (base : Nat) (v : Value) (L : List UInt8) (n : Nat) (hL : L.length = n) (hs : a.eval s = v) (hown : wr.ownsRow base 5 1 v L.length (Mem.bytesV L)) (c : UInt8) (hw : w = wr.alloc (.cells #[.int .u8 c.toNat] 5))
    (cp : Nat) (hx : a.eval x = .slice (some ⟨wr.heap.size, 0, none⟩) 1 cp) (hn : n ≤ 1000000) (hbase : base ≤ wr.heap.size)
    (h : ∀ v' w1, w1.ownsRow base 5 1 v' (n + 1) (Mem.bytesV (L ++ [c])) → w.grownBy w1 v.ownBlock → (v'.ownBlock = v.ownBlock ∨ v'.ownBlock = some w.heap.size) → wpList Tryz.prog ops Q rest (a.put o.dst v') w1) : wpList Tryz.prog ops Q (o :: rest) a w := by
  obtain ⟨i, hi, hz, h1, h2⟩ := info_parts (P := Tryz.prog) (e := 5) (z := .int .u8 0) (size := 1) (bytes := 1) (by kernel_rfl)
  have hA : w.ownsRow base 5 1 v L.length (Mem.bytesV L) := by rw [hw]; exact hown.alloc _
  refine wpList_append_own_at w hgd s x 56 ho base 5 i _ 1 1 Tryz.underlying56 hi hz h1 h2 rfl (by decide) v L.length _ hs hA ⟨wr.heap.size, 0, none⟩ 1 cp [.int .u8 c.toNat] hx rfl (by rw [hw]; exact cell_one_new _ _ _) (by intro u hu; simp at hu; subst hu; rfl) (by unfold maxLen; omega) (by omega) (by rw [hw]; simp; omega) (fun v' w1 g1 g2 _ g4 => h v' w1 ?_ g2 g4)
  rw [bytesV_app, ← hL]
  exact g1
end
end Go.Proofs.YtkaaeajidejchaaGreatDoor.Sp
end

/- Regions that draw their order and hold calls that make memory: reads are taken as early as may be, everything else one by one, each in the world at hand. -/
section
namespace Go.Proofs.YtkaaeajidejchaaGreatDoor.Reg
open Go.RowKit Go

section
variable {P : Program} {ops : Array Oper} {md : Region.Mode} {S : World → Prop} {Q : Exit → Act → World → Prop}

/-- What hands back a value, whatever it is, and enters no function. -/
def readKind : Op → Bool
  | .move _ | .assign _ | .pick _ _ _ | .load _ _ | .binOp _ _ _ _ _ | .unOp _ _ _ | .fieldAddr _ _ _ | .field _ _ _ | .indexAddr _ _ _ | .index _ _ _ | .extract _ _ | .slice _ _ _ _ _ => true
  | .call c => match c.callee with
    | .builtin .len => true
    | _ => false
  | _ => false

theorem v_only {s : Sem Value} {w w1 : World} {n : Next} (h : (do pure (Next.value (← s)) : Sem Next).run P w = .ok n w1) : ∃ u, n = .value u := by
  rw [Sem.run_bind] at h
  cases hs : s.run P w with
  | ok u w2 =>
    rw [hs] at h
    simp [Result.andThen, Sem.run_pure] at h
    exact ⟨u, h.1.symm⟩
  | halt x w2 =>
    rw [hs] at h
    simp [Result.andThen] at h

theorem read_only {o : Oper} (hp : readKind o.op = true) {ρ : Operand → Value} {n : Next} {w w1 : World} (h : (execOp ρ o).run P w = .ok n w1) : ∃ u, n = .value u := by
  obtain ⟨dst, op, type, pos, after, guard⟩ := o
  cases op <;> simp only [readKind, Bool.false_eq_true] at hp
  case move x => exact v_only (P := P) (s := pure (ρ x)) h
  case assign x => exact v_only (P := P) (s := pure (ρ x)) h
  case pick c a b => exact v_only (P := P) (s := do pure (if ← asBool (ρ c) then ρ a else ρ b)) (by simpa [execOp] using h)
  case load t a => exact v_only h
  case binOp op t x y z => exact v_only h
  case unOp op t x => exact v_only h
  case fieldAddr a b c => exact v_only h
  case field a b c => exact v_only h
  case indexAddr a b c => exact v_only h
  case index a b c => exact v_only h
  case extract a b => exact v_only h
  case slice a b c d e => exact v_only h
  case call c =>
    obtain ⟨callee, args, at_⟩ := c
    cases callee <;> simp only [Bool.false_eq_true] at hp
    rename_i b
    cases b <;> simp only [Bool.false_eq_true] at hp
    simp only [execOp, resolve, pure_bind, invoke, builtin] at h
    exact v_only h

/-- What is quiet and a read yields. -/
theorem read_yields {o : Oper} {v : Value} {a : Act} (hp : readKind o.op = true) (h : YieldsIn P ops S o v a) : YieldsIf P ops S o v a := by
  rcases h with ⟨hw, hq⟩ | h
  · refine .inl ⟨hw, fun w hS => ?_⟩
    have h1 := hq w hS
    unfold Oper.quietAt at h1
    generalize hr : (execOp a.eval o).run P w = r at h1
    cases r with
    | ok n w1 =>
      obtain ⟨u, rfl⟩ := read_only hp hr
      simp only [Oper.quietUpon] at h1
      obtain ⟨rfl, rfl⟩ := h1
      rfl
    | halt x w1 => simp only [Oper.quietUpon] at h1
  · exact .inr h

/-- What is asked behind one operation, no way out but the plain one. -/
def Then (S : World → Prop) (K : Act → World → Prop) (e : Exit) (a : Act) (w : World) : Prop := e = .normal ∧ S w ∧ K a w

/-- The walk in the order of the list. -/
def wpMix (P : Program) (ops : Array Oper) (S : World → Prop) (Q : Exit → Act → World → Prop) : List Oper → Act → World → Prop
  | [], a, w => Q .normal a w
  | o :: l, a, w => if readKind o.op = true then ∃ v, YieldsIf P ops S o v a ∧ wpMix P ops S Q l (a.put o.dst v) w else wpList P ops (Then S (wpMix P ops S Q l)) [o] a w

theorem wpOp_of_then {i : Nat} {o : Oper} {K : Act → World → Prop} {a : Act} {w : World} (hi : ops[i]? = some o) (h : wpList P ops (Then S K) [o] a w) : wpOp P ops Q i (fun a' w' => S w' ∧ K a' w') a w := by
  unfold wpOp
  simp only [hi]
  simp only [wpList] at h
  split
  · rename_i hw
    simp only [hw, if_true] at h
    rcases h with h | ⟨_, h⟩
    · refine .inl ?_
      unfold Oper.wp at *
      generalize (execOp a.eval o).run P w = r at *
      cases r with
      | ok n w' =>
        cases n <;> simp only [Oper.upon] at h ⊢
        case value u => exact h.2
        case skip => exact h.2
        case defer d => exact h.2
        case enter f args =>
          refine Calls.mono h fun e w'' he => ?_
          cases e with
          | returned u => exact he.2
          | panicked c => obtain ⟨he, _⟩ := he; cases he
          | outgrown => obtain ⟨_, _, he, _⟩ := he; cases he
        case row row args => exact Rows.mono h fun u w'' he => he.2
      | halt x w' =>
        cases x <;> simp only [Oper.upon] at h ⊢
        case panic u => obtain ⟨he, _⟩ := h; cases he
    · obtain ⟨_, _, he, _⟩ := h
      cases he
  · rename_i hw
    simp only [hw] at h
    exact h.2

/-- The order π may be walked: a read may come up and is apart from all others; whatever else comes up alone. -/
def mixB (md : Region.Mode) (ops : Array Oper) : List Nat → Array Bool → Bool
  | [], listed => (Region.ready md ops listed).isEmpty
  | i :: π, listed => (match ops[i]? with
    | some o => if readKind o.op then (Region.ready md ops listed).contains i && Region.free md ops listed i else decide (Region.ready md ops listed = [i])
    | none => false) && mixB md ops π (listed.setIfInBounds i true)
def pickL (l : List Oper) : List Nat → List Oper
  | [] => []
  | i :: π => match l[i]? with
    | some o => o :: pickL l π
    | none => pickL l π

theorem wpAnyH_mix {l : List Oper} (hsel : Region.noSelect l.toArray = true) (hQ : ∀ c a d v w, Q (.panic c) (Act.put a d v) w → Q (.panic c) a w) :
    ∀ (π : List Nat) (f : Nat) (listed : Array Bool) (a : Act) (w : World), mixB md l.toArray π listed = true → S w → π.length ≤ f → wpMix P l.toArray S Q (pickL l π) a w → wpAnyH P md l.toArray Q S f listed a w
  | [], f, listed, a, w, hB, _, _, h => wpAnyH_done (by simpa [mixB] using hB) h f
  | i :: π, 0, _, _, _, _, _, hl, _ => absurd hl (by simp)
  | i :: π, f + 1, listed, a, w, hB, hS, hl, h => by
    simp only [mixB, Bool.and_eq_true] at hB
    obtain ⟨hB, hB'⟩ := hB
    cases hi : l.toArray[i]? with
    | none => simp [hi] at hB
    | some o =>
      simp only [hi] at hB
      have hi' : l[i]? = some o := by simpa using hi
      simp only [pickL, hi', wpMix] at h
      by_cases hr : readKind o.op = true
      · simp only [hr, if_true, Bool.and_eq_true] at hB h
        obtain ⟨v, hy, h⟩ := h
        exact wpAnyH_take hi hsel hB.2 hB.1 (fun c a w => hQ c a _ _ w) hy hS (wpAnyH_mix hsel hQ π f _ _ w hB' hS (by simpa using hl) h)
      · simp only [hr, Bool.false_eq_true, if_false, decide_eq_true_eq] at hB h
        refine wpAnyH_all hB (by simp) fun j hj => ?_
        rw [List.mem_singleton] at hj
        subst hj
        exact wpOp_mono (fun a' w' h' => ⟨h'.1, wpAnyH_mix hsel hQ π f _ _ w' hB' h'.1 (by simpa using hl) h'.2⟩) (wpOp_of_then hi h)

theorem region_mix {id : Nat} {a : Act} {w : World} {l : List Oper} (π : List Nat) (hm : P.follows .mixedOrders = true) (hsel : Region.noSelect l.toArray = true) (hB : mixB .any l.toArray π (Array.replicate l.toArray.size false) = true) (hn : π.length ≤ l.toArray.size)
    (hQ : ∀ c a d v w, Q (.panic c) (Act.put a d v) w → Q (.panic c) a w) (h : wpMix P l.toArray (fun w' => ∃ x : More w, w' = x.w) Q (pickL l π) a w.drew) : (Code.region id l.toArray true).wp P Q a w :=
  wp_region_held hm (wpAnyH_mix hsel hQ π _ _ a _ hB ⟨⟨w.drew, (Below.refl _ _).drew⟩, rfl⟩ hn h)

/-- .. a part of the order at a time. -/
def mixP (md : Region.Mode) (ops : Array Oper) : List Nat → Array Bool → Bool
  | [], _ => true
  | i :: π, listed => (match ops[i]? with
    | some o => if readKind o.op then (Region.ready md ops listed).contains i && Region.free md ops listed i else decide (Region.ready md ops listed = [i])
    | none => false) && mixP md ops π (listed.setIfInBounds i true)
def lay (listed : Array Bool) (π : List Nat) : Array Bool := π.foldl (fun l i => l.setIfInBounds i true) listed
theorem mixB_app {π2 : List Nat} : ∀ {π1 : List Nat} {listed : Array Bool}, mixP md ops π1 listed = true → mixB md ops π2 (lay listed π1) = true → mixB md ops (π1 ++ π2) listed = true
  | [], _, _, h => h
  | i :: π1, listed, h1, h2 => by
    simp only [mixP, Bool.and_eq_true] at h1
    show mixB md ops (i :: (π1 ++ π2)) listed = true
    simp only [mixB, Bool.and_eq_true]
    exact ⟨h1.1, mixB_app h1.2 h2⟩
/-- the regions of a text that draw their order -/
def regs : Code → List (List Oper)
  | .region _ ops d => if d then [ops.toList] else []
  | .seq a b => regs a ++ regs b
  | .cond _ a b => regs a ++ regs b
  | .block _ b => regs b
  | .loop b => regs b
  | .scope b => regs b
  | .rangeFunc _ _ a b => regs a ++ regs b
  | _ => []
def regOf (f : Func) (k : Nat) : List Oper := ((f.body.map regs).getD []).getD k []
theorem region_mix2 {id : Nat} {a : Act} {w : World} {l : List Oper} (l0 : List Oper) (π : List Nat) (hm : P.follows .mixedOrders = true) (hl : l = l0) (hsel : Region.noSelect l0.toArray = true) (hB : mixB .any l0.toArray π (Array.replicate l0.toArray.size false) = true) (hn : π.length ≤ l0.toArray.size)
    (hQ : ∀ c a d v w, Q (.panic c) (Act.put a d v) w → Q (.panic c) a w) (h : wpMix P l.toArray (fun w' => ∃ x : More w, w' = x.w) Q (pickL l π) a w.drew) : (Code.region id l.toArray true).wp P Q a w := by
  subst hl
  exact region_mix π hm hsel hB hn hQ h

/-- Some reads in a row. -/
theorem mix_reads {L : Act → Prop} : ∀ {l1 l2 : List Oper} {a : Act} {w : World}, (l1.all fun o => readKind o.op) = true → wpQuiet P ops S L l1 a → (∀ a', L a' → wpMix P ops S Q l2 a' w) → wpMix P ops S Q (l1 ++ l2) a w
  | [], _, a, _, _, h, k => k a h
  | o :: l1, l2, a, w, hr, h, k => by
    simp only [List.all_cons, Bool.and_eq_true] at hr
    have hq : ∃ v, YieldsIn P ops S o v a ∧ wpQuiet P ops S L l1 (a.put o.dst v) := by
      simp only [wpQuiet] at h
      by_cases hw : Region.wanted o (yielded ops a.tmps) = true
      · simp only [hw, if_true] at h
        obtain ⟨v, h1, h2⟩ := h
        exact ⟨v, .inl ⟨hw, h1⟩, h2⟩
      · simp only [hw] at h
        exact ⟨undef, .inr ⟨by simpa using hw, rfl⟩, h⟩
    obtain ⟨v, hy, h⟩ := hq
    show wpMix P ops S Q (o :: (l1 ++ l2)) a w
    simp only [wpMix, hr.1, if_true]
    exact ⟨v, read_yields hr.1 hy, mix_reads hr.2 h k⟩
theorem mix_one {o : Oper} {l : List Oper} {a : Act} {w : World} (hr : readKind o.op = false) (h : wpList P ops (Then S (wpMix P ops S Q l)) [o] a w) : wpMix P ops S Q (o :: l) a w := by
  simp only [wpMix, hr, Bool.false_eq_true, if_false]
  exact h
theorem mix_take {l : List Oper} {a : Act} {w : World} (n : Nat) (hr : ((l.take n).all fun o => readKind o.op) = true) (h : wpQuiet P ops S (fun a' => wpMix P ops S Q (l.drop n) a' w) (l.take n) a) : wpMix P ops S Q l a w := by
  have := mix_reads (Q := Q) (w := w) hr h (fun _ k => k)
  rwa [List.take_append_drop] at this
theorem mix_nil {a : Act} {w : World} (h : Q .normal a w) : wpMix P ops S Q [] a w := h
end
end Go.Proofs.YtkaaeajidejchaaGreatDoor.Reg
end

/- Regions that draw their order and hold a call that may write or end in a panic: what is taken first is said one by one (it yields its value in each world of a class), the rest comes up alone. -/
section
namespace Go.Proofs.YtkaaeajidejchaaGreatDoor.Reg
open Go.RowKit Go

section
variable {P : Program} {ops : Array Oper} {md : Region.Mode} {S : World → Prop} {Q : Exit → Act → World → Prop}

/-- A world that meets S. -/
structure Kp (S : World → Prop) where
  w : World
  h : S w
theorem kp_class (S : World → Prop) : (fun w' => ∃ x : Kp S, w' = x.w) = S := by
  funext w
  exact propext ⟨fun ⟨x, hx⟩ => hx ▸ x.h, fun h => ⟨⟨w, h⟩, rfl⟩⟩

/-- What is asked behind one operation that comes up alone. -/
def ThenQ (S : World → Prop) (Q : Exit → Act → World → Prop) (K : Act → World → Prop) : Exit → Act → World → Prop
  | .normal, a, w => S w ∧ K a w
  | e, a, w => Q e a w

theorem wpOp_of_thenQ {i : Nat} {o : Oper} {K : Act → World → Prop} {a : Act} {w : World} (hi : ops[i]? = some o) (h : wpList P ops (ThenQ S Q K) [o] a w) : wpOp P ops Q i (fun a' w' => S w' ∧ K a' w') a w := by
  unfold wpOp
  simp only [hi]
  simp only [wpList] at h
  split
  · rename_i hw
    simp only [hw, if_true] at h
    rcases h with h | ⟨h1, h2⟩
    · refine .inl ?_
      unfold Oper.wp at *
      generalize (execOp a.eval o).run P w = r at *
      cases r with
      | ok n w' =>
        cases n <;> simp only [Oper.upon] at h ⊢
        case value u => exact h
        case skip => exact h
        case defer d => exact h
        case enter f args =>
          refine Calls.mono h fun e w'' he => ?_
          cases e with
          | returned u => exact he
          | panicked c => exact he
          | outgrown => exact he
        case row row args => exact Rows.mono h fun u w'' he => he
      | halt x w' =>
        cases x <;> simp only [Oper.upon] at h ⊢
        case panic u => exact h
    · exact .inr ⟨h1, h2⟩
  · rename_i hw
    simp only [hw] at h
    exact h

/-- An order, as a tree: take: what may be taken first (it yields its value in each world of the class); one: what comes up alone; two: one of two comes up. -/
inductive Plan3 where
  | done
  | take (i : Nat) (p : Plan3)
  | one (i : Nat) (p : Plan3)
  | two (i j : Nat) (p q : Plan3)
def Plan3.takes : List Nat → Plan3 → Plan3
  | [], p => p
  | i :: l, p => .take i (Plan3.takes l p)
def Plan3.ones : List Nat → Plan3 → Plan3
  | [], p => p
  | i :: l, p => .one i (Plan3.ones l p)
def planB3 (md : Region.Mode) (ops : Array Oper) : Plan3 → Array Bool → Bool
  | .done, listed => (Region.ready md ops listed).isEmpty
  | .take i p, listed => ((ops[i]?).isSome && ((Region.ready md ops listed).contains i && Region.free md ops listed i)) && planB3 md ops p (listed.setIfInBounds i true)
  | .one i p, listed => ((ops[i]?).isSome && decide (Region.ready md ops listed = [i])) && planB3 md ops p (listed.setIfInBounds i true)
  | .two i j p q, listed => (decide (Region.ready md ops listed = [i, j]) && ((ops[i]?).isSome && (ops[j]?).isSome)) && (planB3 md ops p (listed.setIfInBounds i true) && planB3 md ops q (listed.setIfInBounds j true))
def planLen3 : Plan3 → Nat
  | .done => 0
  | .take _ p => 1 + planLen3 p
  | .one _ p => 1 + planLen3 p
  | .two _ _ p q => 1 + max (planLen3 p) (planLen3 q)
/-- one operation taken first -/
def wpTake (P : Program) (ops : Array Oper) (S : World → Prop) (K : Act → World → Prop) (o : Option Oper) (a : Act) (w : World) : Prop :=
  match o with
  | some o => ∃ v, YieldsIf P ops S o v a ∧ K (a.put o.dst v) w
  | none => True
def wpOne (P : Program) (ops : Array Oper) (S : World → Prop) (Q : Exit → Act → World → Prop) (K : Act → World → Prop) (o : Option Oper) (a : Act) (w : World) : Prop :=
  match o with
  | some o => wpList P ops (ThenQ S Q K) [o] a w
  | none => True
def wpPlan3 (P : Program) (ops : Array Oper) (S : World → Prop) (Q : Exit → Act → World → Prop) (l : List Oper) : Plan3 → Act → World → Prop
  | .done, a, w => Q .normal a w
  | .take i p, a, w => wpTake P ops S (wpPlan3 P ops S Q l p) l[i]? a w
  | .one i p, a, w => wpOne P ops S Q (wpPlan3 P ops S Q l p) l[i]? a w
  | .two i j p q, a, w => wpOne P ops S Q (wpPlan3 P ops S Q l p) l[i]? a w ∧ wpOne P ops S Q (wpPlan3 P ops S Q l q) l[j]? a w

theorem wpAnyH_plan3 {l : List Oper} (hsel : Region.noSelect l.toArray = true) (hQ : ∀ o ∈ l, ∀ c a v w, Q (.panic c) (Act.put a o.dst v) w → Q (.panic c) a w) :
    ∀ (p : Plan3) (f : Nat) (listed : Array Bool) (a : Act) (w : World), planB3 md l.toArray p listed = true → S w → planLen3 p ≤ f → wpPlan3 P l.toArray S Q l p a w → wpAnyH P md l.toArray Q S f listed a w
  | .done, f, listed, a, w, hB, _, _, h => wpAnyH_done (by simpa [planB3] using hB) h f
  | .take i p, 0, _, _, _, _, _, hl, _ => absurd hl (by simp [planLen3])
  | .take i p, f + 1, listed, a, w, hB, hS, hl, h => by
    simp only [planB3, Bool.and_eq_true] at hB
    simp only [planLen3] at hl
    obtain ⟨⟨hs, hr, hf⟩, hB'⟩ := hB
    obtain ⟨o, hi⟩ := Option.isSome_iff_exists.1 hs
    have hi' : l[i]? = some o := by simpa using hi
    simp only [wpPlan3, hi', wpTake] at h
    obtain ⟨v, hy, h⟩ := h
    exact wpAnyH_take hi hsel hf hr (fun c a w => hQ o (List.mem_of_getElem? hi') c a _ w) hy hS (wpAnyH_plan3 hsel hQ p f _ _ w hB' hS (by omega) h)
  | .one i p, 0, _, _, _, _, _, hl, _ => absurd hl (by simp [planLen3])
  | .one i p, f + 1, listed, a, w, hB, hS, hl, h => by
    simp only [planB3, Bool.and_eq_true, decide_eq_true_eq] at hB
    simp only [planLen3] at hl
    obtain ⟨⟨hs, hr⟩, hB'⟩ := hB
    obtain ⟨o, hi⟩ := Option.isSome_iff_exists.1 hs
    have hi' : l[i]? = some o := by simpa using hi
    simp only [wpPlan3, hi', wpOne] at h
    refine wpAnyH_all hr (by simp) fun j hj => ?_
    rw [List.mem_singleton] at hj
    subst hj
    exact wpOp_mono (fun a' w' h' => ⟨h'.1, wpAnyH_plan3 hsel hQ p f _ _ w' hB' h'.1 (by omega) h'.2⟩) (wpOp_of_thenQ hi h)
  | .two i j p q, 0, _, _, _, _, _, hl, _ => absurd hl (by simp [planLen3])
  | .two i j p q, f + 1, listed, a, w, hB, hS, hl, h => by
    simp only [planB3, Bool.and_eq_true, decide_eq_true_eq] at hB
    obtain ⟨⟨hr, hsi, hsj⟩, hp, hq⟩ := hB
    simp only [planLen3] at hl
    obtain ⟨oi, hi⟩ := Option.isSome_iff_exists.1 hsi
    obtain ⟨oj, hj⟩ := Option.isSome_iff_exists.1 hsj
    have hi' : l[i]? = some oi := by simpa using hi
    have hj' : l[j]? = some oj := by simpa using hj
    simp only [wpPlan3, hi', hj', wpOne] at h
    refine wpAnyH_all hr (by simp) fun k hk => ?_
    rcases List.mem_cons.1 hk with rfl | hk
    · exact wpOp_mono (fun a' w' h' => ⟨h'.1, wpAnyH_plan3 hsel hQ p f _ _ w' hp h'.1 (by omega) h'.2⟩) (wpOp_of_thenQ hi h.1)
    · rw [List.mem_singleton] at hk
      subst hk
      exact wpOp_mono (fun a' w' h' => ⟨h'.1, wpAnyH_plan3 hsel hQ q f _ _ w' hq h'.1 (by omega) h'.2⟩) (wpOp_of_thenQ hj h.2)

theorem region_plan3 {id : Nat} {a : Act} {w : World} {l : List Oper} (S : World → Prop) (p : Plan3) (hm : P.follows .mixedOrders = true) (hsel : Region.noSelect l.toArray = true) (hB : planB3 .any l.toArray p (Array.replicate l.toArray.size false) = true) (hn : planLen3 p ≤ l.toArray.size)
    (hQ : ∀ o ∈ l, ∀ c a v w, Q (.panic c) (Act.put a o.dst v) w → Q (.panic c) a w) (hS : S w.drew) (h : wpPlan3 P l.toArray (fun w' => ∃ x : Kp S, w' = x.w) Q l p a w.drew) : (Code.region id l.toArray true).wp P Q a w :=
  wp_region_held hm (wpAnyH_plan3 hsel hQ p _ _ a _ hB ⟨⟨_, hS⟩, rfl⟩ hn h)

theorem thenQ_mk {K : Act → World → Prop} {a : Act} {w : World} (h1 : S w) (h2 : K a w) : ThenQ S Q K .normal a w := ⟨h1, h2⟩
/-- one read -/
theorem take_read {o : Oper} {K : Act → World → Prop} {a : Act} {w : World} (hr : readKind o.op = true) (h : wpQuiet P ops S (fun a' => K a' w) [o] a) : wpTake P ops S K (some o) a w := by
  have hq : ∃ v, YieldsIn P ops S o v a ∧ K (a.put o.dst v) w := by
    simp only [wpQuiet] at h
    by_cases hw : Region.wanted o (yielded ops a.tmps) = true
    · simp only [hw, if_true] at h
      obtain ⟨v, h1, h2⟩ := h
      exact ⟨v, .inl ⟨hw, h1⟩, h2⟩
    · simp only [hw] at h
      exact ⟨undef, .inr ⟨by simpa using hw, rfl⟩, h⟩
  obtain ⟨v, hy, h⟩ := hq
  exact ⟨v, read_yields hr hy, h⟩
/-- a nil check hands back a value -/
theorem nil_only {o : Oper} {x : Operand} (ho : o.op = .nilCheck x) {ρ : Operand → Value} {n : Next} {w w1 : World} (h : (execOp ρ o).run P w = .ok n w1) : ∃ u, n = .value u := by
  unfold execOp at h
  simp only [ho] at h
  split at h
  · simp [runtimePanic, go_sem] at h
  · simp [runtimePanic, go_sem] at h
  · simp [runtimePanic, go_sem] at h
  · split at h
    · simp [runtimePanic, go_sem] at h
    · rw [Sem.run_bind] at h
      revert h
      generalize (Sem.run P _ w) = r
      intro h
      cases r with
      | ok q w2 =>
        simp only [Result.andThen_ok] at h
        rw [Sem.run_bind] at h
        revert h
        generalize (Sem.run P _ w2) = r
        intro h
        cases r with
        | ok q w2 =>
          simp only [Result.andThen_ok] at h
          revert h
          split
          · intro h
            simp [unsupported, go_sem] at h
          · intro h
            simp [Sem.run_pure] at h
            exact ⟨_, h.1.symm⟩
        | halt e w2 => simp [Result.andThen] at h
      | halt e w2 => simp [Result.andThen] at h
    · simp [Sem.run_pure] at h
      exact ⟨_, h.1.symm⟩
  · simp [Sem.run_pure] at h
    exact ⟨_, h.1.symm⟩
theorem take_nilq {o : Oper} {K : Act → World → Prop} {a : Act} {w : World} (x : Operand) (ho : o.op = .nilCheck x) (h : wpQuiet P ops S (fun a' => K a' w) [o] a) : wpTake P ops S K (some o) a w := by
  simp only [wpQuiet] at h
  by_cases hw : Region.wanted o (yielded ops a.tmps) = true
  · simp only [hw, if_true] at h
    obtain ⟨v, h1, h2⟩ := h
    refine ⟨v, .inl ⟨hw, fun w' hS => ?_⟩, h2⟩
    have h3 := h1 w' hS
    unfold Oper.quietAt at h3
    generalize hr : (execOp a.eval o).run P w' = r at h3
    cases r with
    | ok n w1 =>
      obtain ⟨u, rfl⟩ := nil_only ho hr
      simp only [Oper.quietUpon] at h3
      obtain ⟨rfl, rfl⟩ := h3
      rfl
    | halt x w1 => simp only [Oper.quietUpon] at h3
  · simp only [hw] at h
    exact ⟨undef, .inr ⟨by simpa using hw, rfl⟩, h⟩
/-- one nil check -/
theorem take_nil {o : Oper} {K : Act → World → Prop} {a : Act} {w : World} (x : Operand) (p : Addr) (hg : o.guard = none) (ho : o.op = .nilCheck x) (hx : a.eval x = .pointer (some p)) (h : K (a.put o.dst (.pointer (some p))) w) : wpTake P ops S K (some o) a w :=
  ⟨_, .inl ⟨by simp [Region.wanted, hg], fun w _ => by simp [execOp, ho, hx, Sem.run_pure]⟩, h⟩
/-- one load of an aggregate -/
theorem take_val {o : Oper} {K : Act → World → Prop} {a : Act} {w : World} (v : Value) (hg : o.guard = none) (hv : ∀ w', S w' → (execOp a.eval o).run P w' = .ok (.value v) w') (h : K (a.put o.dst v) w) : wpTake P ops S K (some o) a w :=
  ⟨v, .inl ⟨by simp [Region.wanted, hg], hv⟩, h⟩
end
end Go.Proofs.YtkaaeajidejchaaGreatDoor.Reg
end
