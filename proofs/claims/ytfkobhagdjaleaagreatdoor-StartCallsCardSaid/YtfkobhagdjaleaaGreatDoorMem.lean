/- Memory: a text made into bytes, bytes made into a text. -/
import Derived.Test.YtfkobhagdjaleaaGreatDoorReg2
import Derived.WalkKit
import Derived.Lib.ConvBytes
import Derived.Laws.BytesArg
namespace Go.Proofs.YtfkobhagdjaleaaGreatDoor.Mem
open Go.RowKit

def bytesV (l : List UInt8) : List Value := l.map fun c => .int .u8 c.toNat
theorem bytesV_len (l : List UInt8) : (bytesV l).length = l.length := by simp [bytesV]
theorem bytesV_get (l : List UInt8) (i : Nat) (h : i < l.length) : (bytesV l)[i]? = some (.int .u8 l[i].toNat) := by simp [bytesV, h]
theorem bytesV_set (l : List UInt8) (i : Nat) (c : UInt8) : (bytesV l).set i (.int .u8 c.toNat) = bytesV (l.set i c) := by simp [bytesV, List.map_set]

theorem below_bytes (w : World) (e : TypeId) (s : ByteArray) : Below w.heap.size w (Lib.bytesWorld w e s) :=
  ⟨rfl, rfl, rfl, by rw [Lib.bytesWorld_size]; omega, fun i hi => Lib.bytesWorld_at_old w e s i hi⟩

theorem size_cells (w : World) (e : TypeId) (s : ByteArray) : s.size ≤ (Lib.bytesCells w e s).size := by
  unfold Lib.bytesCells
  rw [Array.size_append, Array.size_map]
  show s.data.size ≤ _
  omega

theorem has_bytes (w : World) (e : TypeId) (s : ByteArray) : Reg.Has (Lib.bytesWorld w e s) w.heap.size (bytesV s.data.toList) := by
  refine ⟨fun i v h => ?_, fun i h => ?_, by rw [Lib.bytesWorld_size]; omega⟩
  · have hi : i < s.data.toList.length := by
      have := (List.getElem?_eq_some_iff.1 h).1
      rwa [bytesV_len] at this
    rw [Lib.bytesWorld_cell w e s i (by simpa using hi), ← h, bytesV_get _ _ hi]
    simp only [List.getD, List.getElem?_eq_getElem hi, Option.getD_some]
  · rw [bytesV_len] at h
    have hi : i < s.size := by simpa using h
    have := size_cells w e s
    simp only [World.frozen?, Lib.bytesWorld_at_new]
    simp
    omega

variable {P : Program} {ops : Array Oper} {rest : List Oper} {o : Oper} {a : Act} {w : World} {Q : Exit → Act → World → Prop}

theorem wpList_bytes (hgd : o.guard = none) (src dst e : TypeId) (x : Operand) (ho : o.op = .convert src dst x) (s : ByteArray) (hx : a.eval x = .string s)
    (hs : P.underlying src = some .string) (hd : P.underlying dst = some (.slice e)) (he : P.underlying e = some (.int .u8))
    (h : ∀ cap w1, Reg.Has w1 w.heap.size (bytesV s.data.toList) → Below w.heap.size w w1 → wpList P ops Q rest (a.put o.dst (.slice (some ⟨w.heap.size, 0, none⟩) s.size cap)) w1) :
    wpList P ops Q (o :: rest) a w := by
  refine wpList_plain hgd fun K hK => ?_
  unfold Oper.wp execOp
  simp only [ho, hx, Sem.run_bind, Sem.run_pure, Result.andThen_ok, Lib.run_convert_string_bytes w src dst e s hs hd he]
  exact hK _ _ (h _ _ (has_bytes w e s) (below_bytes w e s))

theorem text_of (l : List UInt8) : strOfNums (l.map fun c => ((c.toNat : Nat) : Int)) = ⟨l.toArray⟩ := by
  unfold strOfNums
  congr 2
  rw [List.map_map]
  have : (fun n : Int => UInt8.ofNat n.toNat) ∘ (fun c : UInt8 => ((c.toNat : Nat) : Int)) = id := by
    funext c
    simp
  rw [this, List.map_id]

theorem run_text (src e : TypeId) (dst : TypeId) (hs : P.underlying src = some (.slice e)) (he : P.underlying e = some (.int .u8)) (hd : P.underlying dst = some .string) (b off cap : Nat) (l : List UInt8)
    (hc : ∀ i v, (bytesV l)[i]? = some v → w.cell? ⟨b, off + i, none⟩ = some v) :
    (convert src dst (.slice (some ⟨b, off, none⟩) l.length cap)).run P w = .ok (.string ⟨l.toArray⟩) w := by
  rw [run_convert_bytes_arg w src e hs he b off l.length cap (l.map fun c => ((c.toNat : Nat) : Int)) (by simp) (fun i hi => ?_) dst hd, text_of]
  rw [hc i _ (bytesV_get l i hi)]
  simp [List.getD, hi]

theorem wpList_text (hgd : o.guard = none) (src dst e : TypeId) (x : Operand) (ho : o.op = .convert src dst x) (b n cap : Nat) (l : List UInt8) (hx : a.eval x = .slice (some ⟨b, 0, none⟩) n cap)
    (hs : P.underlying src = some (.slice e)) (hd : P.underlying dst = some .string) (he : P.underlying e = some (.int .u8)) (hn : l.length = n) (hb : Reg.Has w b (bytesV l))
    (h : wpList P ops Q rest (a.put o.dst (.string ⟨l.toArray⟩)) w) :
    wpList P ops Q (o :: rest) a w := by
  refine wpList_plain hgd fun K hK => ?_
  subst hn
  have hr := run_text (P := P) (w := w) src e dst hs he hd b 0 cap l (fun i v hv => by rw [Nat.zero_add]; exact hb.cell i v hv)
  unfold Oper.wp execOp
  simp only [ho, hx, Sem.run_bind, Sem.run_pure, Result.andThen_ok, hr]
  exact hK _ _ h

theorem results_cell1 {fn : Func} {t : Tmp} {ty : TypeId} (h : fn.results = #[.cell t ty]) {tmps : Array Value} {ad : Addr} {v : Value} (ht : tmps.getD t undef = .pointer (some ad)) (hl : (loadVar ty ad).run P w = .ok v w) :
    (results fn tmps).run P w = .ok v w := by
  unfold results
  rw [h]
  have ht1 := ht
  rw [Array.getD_eq_getD_getElem?] at ht1
  simp [ht1, asAddr, hl]
theorem results_cell2 {fn : Func} {t u : Tmp} {ty : TypeId} (h : fn.results = #[.cell t ty, .tmp u]) {tmps : Array Value} {ad : Addr} {v : Value} (ht : tmps.getD t undef = .pointer (some ad)) (hl : (loadVar ty ad).run P w = .ok v w) :
    (results fn tmps).run P w = .ok (.tuple #[v, tmps.getD u undef]) w := by
  unfold results
  rw [h]
  have ht1 := ht
  rw [Array.getD_eq_getD_getElem?] at ht1
  simp [ht1, asAddr, hl]
theorem results_tmp4 {fn : Func} {t u v x : Tmp} (h : fn.results = #[.tmp t, .tmp u, .tmp v, .tmp x]) (tmps : Array Value) (P : Program) (w : World) :
    (results fn tmps).run P w = .ok (.tuple #[tmps.getD t undef, tmps.getD u undef, tmps.getD v undef, tmps.getD x undef]) w := by simp [results, h]
end Go.Proofs.YtfkobhagdjaleaaGreatDoor.Mem
