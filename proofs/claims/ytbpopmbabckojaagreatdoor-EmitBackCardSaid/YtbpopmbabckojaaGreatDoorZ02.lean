/- Lemmas for the statement's proof, several texts in one: Mem, B2, B3. -/
import Derived.Test.YtbpopmbabckojaaGreatDoorZ01
import Derived.WalkKit
import Derived.Lib.ConvBytes
import Derived.Laws.BytesArg
set_option linter.unusedVariables false
set_option linter.unusedSimpArgs false
/- Memory: a text made into bytes, bytes made into a text. -/
section
namespace Go.Proofs.YtbpopmbabckojaaGreatDoor.Mem
open Go.RowKit

def bytesV (l : List UInt8) : List Value := l.map fun c => .int .u8 c.toNat
theorem bytesV_len (l : List UInt8) : (bytesV l).length = l.length := by simp [bytesV]
theorem bytesV_get (l : List UInt8) (i : Nat) (h : i < l.length) : (bytesV l)[i]? = some (.int .u8 l[i].toNat) := by simp [bytesV, h]
theorem bytesV_set (l : List UInt8) (i : Nat) (c : UInt8) : (bytesV l).set i (.int .u8 c.toNat) = bytesV (l.set i c) := by simp [bytesV, List.map_set]

theorem below_bytes (w : World) (e : TypeId) (s : ByteArray) : Below w.heap.size w (Lib.bytesWorld w e s) :=
  ⟨rfl, rfl, rfl, by rw [Lib.bytesWorld_size]; omega, fun i hi => Lib.bytesWorld_at_old w e s i hi⟩

theorem size_cells (w : World) (e : TypeId) (s : ByteArray) : s.size ≤ (Lib.bytesCells w e s).size := by
  unfold Lib.bytesCells
  rw [Array.size_append, Array.size_map]
  show s.data.size ≤ _
  omega

theorem has_bytes (w : World) (e : TypeId) (s : ByteArray) : Reg.Has (Lib.bytesWorld w e s) w.heap.size (bytesV s.data.toList) := by
  refine ⟨fun i v h => ?_, fun i h => ?_, by rw [Lib.bytesWorld_size]; omega⟩
  · have hi : i < s.data.toList.length := by
      have := (List.getElem?_eq_some_iff.1 h).1
      rwa [bytesV_len] at this
    rw [Lib.bytesWorld_cell w e s i (by simpa using hi), ← h, bytesV_get _ _ hi]
    simp only [List.getD, List.getElem?_eq_getElem hi, Option.getD_some]
  · rw [bytesV_len] at h
    have hi : i < s.size := by simpa using h
    have := size_cells w e s
    simp only [World.frozen?, Lib.bytesWorld_at_new]
    simp
    omega

variable {P : Program} {ops : Array Oper} {rest : List Oper} {o : Oper} {a : Act} {w : World} {Q : Exit → Act → World → Prop}

theorem wpList_bytes (hgd : o.guard = none) (src dst e : TypeId) (x : Operand) (ho : o.op = .convert src dst x) (s : ByteArray) (hx : a.eval x = .string s)
    (hs : P.underlying src = some .string) (hd : P.underlying dst = some (.slice e)) (he : P.underlying e = some (.int .u8))
    (h : ∀ cap w1, Reg.Has w1 w.heap.size (bytesV s.data.toList) → Below w.heap.size w w1 → wpList P ops Q rest (a.put o.dst (.slice (some ⟨w.heap.size, 0, none⟩) s.size cap)) w1) :
    wpList P ops Q (o :: rest) a w := by
  refine wpList_plain hgd fun K hK => ?_
  unfold Oper.wp execOp
  simp only [ho, hx, Sem.run_bind, Sem.run_pure, Result.andThen_ok, Lib.run_convert_string_bytes w src dst e s hs hd he]
  exact hK _ _ (h _ _ (has_bytes w e s) (below_bytes w e s))

theorem text_of (l : List UInt8) : strOfNums (l.map fun c => ((c.toNat : Nat) : Int)) = ⟨l.toArray⟩ := by
  unfold strOfNums
  congr 2
  rw [List.map_map]
  have : (fun n : Int => UInt8.ofNat n.toNat) ∘ (fun c : UInt8 => ((c.toNat : Nat) : Int)) = id := by
    funext c
    simp
  rw [this, List.map_id]

theorem run_text (src e : TypeId) (dst : TypeId) (hs : P.underlying src = some (.slice e)) (he : P.underlying e = some (.int .u8)) (hd : P.underlying dst = some .string) (b off cap : Nat) (l : List UInt8)
    (hc : ∀ i v, (bytesV l)[i]? = some v → w.cell? ⟨b, off + i, none⟩ = some v) :
    (convert src dst (.slice (some ⟨b, off, none⟩) l.length cap)).run P w = .ok (.string ⟨l.toArray⟩) w := by
  rw [run_convert_bytes_arg w src e hs he b off l.length cap (l.map fun c => ((c.toNat : Nat) : Int)) (by simp) (fun i hi => ?_) dst hd, text_of]
  rw [hc i _ (bytesV_get l i hi)]
  simp [List.getD, hi]

theorem wpList_text (hgd : o.guard = none) (src dst e : TypeId) (x : Operand) (ho : o.op = .convert src dst x) (b n cap : Nat) (l : List UInt8) (hx : a.eval x = .slice (some ⟨b, 0, none⟩) n cap)
    (hs : P.underlying src = some (.slice e)) (hd : P.underlying dst = some .string) (he : P.underlying e = some (.int .u8)) (hn : l.length = n) (hb : Reg.Has w b (bytesV l))
    (h : wpList P ops Q rest (a.put o.dst (.string ⟨l.toArray⟩)) w) :
    wpList P ops Q (o :: rest) a w := by
  refine wpList_plain hgd fun K hK => ?_
  subst hn
  have hr := run_text (P := P) (w := w) src e dst hs he hd b 0 cap l (fun i v hv => by rw [Nat.zero_add]; exact hb.cell i v hv)
  unfold Oper.wp execOp
  simp only [ho, hx, Sem.run_bind, Sem.run_pure, Result.andThen_ok, hr]
  exact hK _ _ h

theorem results_cell1 {fn : Func} {t : Tmp} {ty : TypeId} (h : fn.results = #[.cell t ty]) {tmps : Array Value} {ad : Addr} {v : Value} (ht : tmps.getD t undef = .pointer (some ad)) (hl : (loadVar ty ad).run P w = .ok v w) :
    (results fn tmps).run P w = .ok v w := by
  unfold results
  rw [h]
  have ht1 := ht
  rw [Array.getD_eq_getD_getElem?] at ht1
  simp [ht1, asAddr, hl]
theorem results_cell2 {fn : Func} {t u : Tmp} {ty : TypeId} (h : fn.results = #[.cell t ty, .tmp u]) {tmps : Array Value} {ad : Addr} {v : Value} (ht : tmps.getD t undef = .pointer (some ad)) (hl : (loadVar ty ad).run P w = .ok v w) :
    (results fn tmps).run P w = .ok (.tuple #[v, tmps.getD u undef]) w := by
  unfold results
  rw [h]
  have ht1 := ht
  rw [Array.getD_eq_getD_getElem?] at ht1
  simp [ht1, asAddr, hl]
theorem results_tmp4 {fn : Func} {t u v x : Tmp} (h : fn.results = #[.tmp t, .tmp u, .tmp v, .tmp x]) (tmps : Array Value) (P : Program) (w : World) :
    (results fn tmps).run P w = .ok (.tuple #[tmps.getD t undef, tmps.getD u undef, tmps.getD v undef, tmps.getD x undef]) w := by simp [results, h]
end Go.Proofs.YtbpopmbabckojaaGreatDoor.Mem
end

/- Lower of the program and of the reference; Same of both. -/
section
namespace Go.Proofs.YtbpopmbabckojaaGreatDoor.Sp
open Go.RowKit

def lowB (c : UInt8) : UInt8 := if 65 ≤ c.toNat ∧ c.toNat ≤ 90 then c + 32 else c
def lower (l : List UInt8) : List UInt8 := l.map lowB
def lowTo (k : Nat) (l : List UInt8) : List UInt8 := (l.take k).map lowB ++ l.drop k

theorem lowB_nat (c : UInt8) (h : 65 ≤ c.toNat ∧ c.toNat ≤ 90) : (lowB c).toNat = c.toNat + 32 := by
  unfold lowB; rw [if_pos h, UInt8.toNat_add]; have : (32 : UInt8).toNat = 32 := rfl; omega
theorem lowB_same (c : UInt8) (h : ¬ (65 ≤ c.toNat ∧ c.toNat ≤ 90)) : lowB c = c := by unfold lowB; rw [if_neg h]
theorem lowTo_len (k : Nat) (l : List UInt8) : (lowTo k l).length = l.length := by
  unfold lowTo; rw [List.length_append, List.length_map, List.length_take, List.length_drop]; omega
theorem lowTo_zero (l : List UInt8) : lowTo 0 l = l := by simp [lowTo]
theorem lowTo_all (l : List UInt8) : lowTo l.length l = lower l := by simp [lowTo, lower]
theorem lowTo_at (k : Nat) (s : ByteArray) (h : k < s.size) : (Mem.bytesV (lowTo k s.data.toList))[k]? = some (.int .u8 s[k].toNat) := by
  have h' : k < s.data.toList.length := by simpa using h
  have hl : ((s.data.toList.take k).map lowB).length = k := by rw [List.length_map, List.length_take]; omega
  have hg : (lowTo k s.data.toList)[k]? = some s[k] := by
    unfold lowTo
    rw [List.getElem?_append_right (by omega), hl, Nat.sub_self, drop_cons s k h]
    rfl
  unfold Mem.bytesV
  rw [List.getElem?_map, hg]
  rfl
theorem lowTo_next (k : Nat) (s : ByteArray) (h : k < s.size) (n : Int) (hn : n = (lowB s[k]).toNat) : (Mem.bytesV (lowTo k s.data.toList)).set k (.int .u8 n) = Mem.bytesV (lowTo (k + 1) s.data.toList) := by
  have h' : k < s.data.toList.length := by simpa using h
  have hl : ((s.data.toList.take k).map lowB).length = k := by rw [List.length_map, List.length_take]; omega
  rw [hn, Mem.bytesV_set]
  congr 1
  unfold lowTo
  rw [List.set_append_right _ _ (by omega), hl, Nat.sub_self, drop_cons s k h, List.set_cons_zero, List.take_succ_eq_append_getElem h', List.map_append, List.append_assoc]
  rfl
theorem lowTo_skip (k : Nat) (s : ByteArray) (h : k < s.size) (hs : lowB s[k] = s[k]) : lowTo k s.data.toList = lowTo (k + 1) s.data.toList := by
  have h' : k < s.data.toList.length := by simpa using h
  unfold lowTo
  rw [drop_cons s k h, List.take_succ_eq_append_getElem h', List.map_append, List.append_assoc]
  congr 1
  simp only [List.map_cons, List.map_nil, List.cons_append, List.nil_append]
  rw [show s.data.toList[k] = s[k] from rfl, hs]

theorem rlower_any (s : ByteArray) (hs : s.size ≤ 9223372036854775807) (w : World) :
    Calls Tryz.prog 73 #[.string s] w fun e w' => e = .returned (.string ⟨(lower s.data.toList).toArray⟩) ∧ Below w.heap.size w w' := by
  go_enter Tryz.func73, Tryz.ntmps73
  go_wp2_with (refine Mem.wpList_bytes rfl 9 66 5 _ rfl _ rfl Tryz.underlying9 Tryz.underlying66 Tryz.underlying5 ?_; intro cap w1 HB hb)
  go_loopw [4] (fun i wr => ∃ k : Nat, k ≤ s.size ∧ i = .int .i64 k ∧ Reg.Has wr w.heap.size (Mem.bytesV (lowTo k s.data.toList)) ∧ Below w.heap.size w wr) (fun i _ => s.size - (intOf i).toNat)
  case atStart => exact ⟨0, Nat.zero_le _, rfl, by rw [lowTo_zero]; exact HB, hb⟩
  case round =>
    clear HB hb
    obtain ⟨k, hk, rfl, HB, hb⟩ := hrel
    by_cases hlt : k < s.size
    · have c0 := HB.cell k _ (lowTo_at k s hlt)
      have f0 := HB.free k (by rw [Mem.bytesV_len, lowTo_len]; simpa using hlt)
      have zB := HB.lt
      go_wp2
      · have hr : 65 ≤ s[k].toNat ∧ s[k].toNat ≤ 90 := by omega
        go_roundw
        case rel =>
          exact ⟨k + 1, by omega, by go_num, by rw [← lowTo_next k s hlt ((s[k].toNat : Int) + 32) (by rw [lowB_nat _ hr]; omega)]; exact HB.put k _, hb.setCell (by simp) _⟩
        case measure => simp [intOf]; omega
      all_goals
        go_roundw
        case rel =>
          exact ⟨k + 1, by omega, by go_num, by rw [← lowTo_skip k s hlt (lowB_same _ (by omega))]; exact HB, hb⟩
        case measure => simp [intOf]; omega
    · have hke : k = s.size := by omega
      subst hke
      go_wp2_with (refine Mem.wpList_text rfl 66 9 5 _ rfl _ _ _ (lowTo s.size s.data.toList) rfl Tryz.underlying66 Tryz.underlying9 Tryz.underlying5 (by rw [lowTo_len]; simp) HB ?_)
      go_ret
      exact ⟨ret_str (by rw [← lowTo_all]; simp), hb⟩

theorem lower_any (s : ByteArray) (hs : s.size ≤ 9223372036854775807) (w : World) :
    Calls Tryz.prog 115 #[.string s] w fun e w' => e = .returned (.string ⟨(lower s.data.toList).toArray⟩) ∧ Below w.heap.size w w' := by
  go_enter Tryz.func115, Tryz.ntmps115
  go_wp2_with (refine Mem.wpList_bytes rfl 9 66 5 _ rfl _ rfl Tryz.underlying9 Tryz.underlying66 Tryz.underlying5 ?_; intro cap w1 HB hb)
  go_loopw [10] (fun i wr => ∃ k : Nat, k ≤ s.size ∧ i = .int .i64 k ∧ Reg.Has wr w.heap.size (Mem.bytesV (lowTo k s.data.toList)) ∧ Below w.heap.size w wr) (fun i _ => s.size - (intOf i).toNat)
  case atStart => exact ⟨0, Nat.zero_le _, rfl, by rw [lowTo_zero]; exact HB, hb⟩
  case round =>
    clear HB hb
    obtain ⟨k, hk, rfl, HB, hb⟩ := hrel
    by_cases hlt : k < s.size
    · have c0 := HB.cell k _ (lowTo_at k s hlt)
      have f0 := HB.free k (by rw [Mem.bytesV_len, lowTo_len]; simpa using hlt)
      have zB := HB.lt
      go_wp2
      · have hr : 65 ≤ s[k].toNat ∧ s[k].toNat ≤ 90 := by omega
        go_roundw
        case rel =>
          exact ⟨k + 1, by omega, by go_num, by rw [← lowTo_next k s hlt ((s[k].toNat : Int) + 97 - 65) (by rw [lowB_nat _ hr]; omega)]; exact HB.put k _, hb.setCell (by simp) _⟩
        case measure => simp [intOf]; omega
      all_goals
        go_roundw
        case rel =>
          exact ⟨k + 1, by omega, by go_num, by rw [← lowTo_skip k s hlt (lowB_same _ (by omega))]; exact HB, hb⟩
        case measure => simp [intOf]; omega
    · have hke : k = s.size := by omega
      subst hke
      go_wp2_with (refine Mem.wpList_text rfl 66 9 5 _ rfl _ _ _ (lowTo s.size s.data.toList) rfl Tryz.underlying66 Tryz.underlying9 Tryz.underlying5 (by rw [lowTo_len]; simp) HB ?_)
      go_ret
      exact ⟨ret_str (by rw [← lowTo_all]; simp), hb⟩

theorem lower_size (s : ByteArray) : (⟨(lower s.data.toList).toArray⟩ : ByteArray).size = s.size := by
  show (lower s.data.toList).toArray.size = s.size
  rw [List.size_toArray]; unfold lower; rw [List.length_map]; simp

def same (a b : List UInt8) : Bool := lower a == lower b
theorem same_any (a b : ByteArray) (ha : a.size ≤ 9223372036854775807) (hb : b.size ≤ 9223372036854775807) (w : World) :
    Calls Tryz.prog 94 #[.string a, .string b] w fun e w' => e = .returned (.bool (same a.data.toList b.data.toList)) ∧ Below w.heap.size w w' := by
  go_enter Tryz.func94, Tryz.ntmps94
  go_wp2_with fail
  refine (lower_any a ha _).mono ?_; rintro e w1 ⟨rfl, hb1⟩
  go_wp2_with fail
  refine (lower_any b hb _).mono ?_; rintro e w2 ⟨rfl, hb2⟩
  go_wp2
  go_ret
  exact ⟨ret_bool (by unfold same; rfl), hb1.trans (hb2.mono hb1.size)⟩

theorem rsame_any (a b : ByteArray) (ha : a.size ≤ 9223372036854775807) (hb : b.size ≤ 9223372036854775807) (w : World) :
    Calls Tryz.prog 49 #[.string a, .string b] w fun e w' => e = .returned (.bool (same a.data.toList b.data.toList)) ∧ Below w.heap.size w w' := by
  go_enter Tryz.func49, Tryz.ntmps49
  go_wp2_with fail
  refine (rlower_any a ha _).mono ?_; rintro e w1 ⟨rfl, hb1⟩
  go_wp2_with fail
  refine (rlower_any b hb _).mono ?_; rintro e w2 ⟨rfl, hb2⟩
  go_wp2
  go_ret
  exact ⟨ret_bool (by unfold same; rfl), hb1.trans (hb2.mono hb1.size)⟩

end Go.Proofs.YtbpopmbabckojaaGreatDoor.Sp
end

/- token.table: what each byte is. -/
section
namespace Go.Proofs.YtbpopmbabckojaaGreatDoor.Sp
open Go.RowKit

theorem below_setCells {B : Nat} {a : World} (b : Nat) (hB : B ≤ b) : ∀ (vs : List Value) (o : Nat) (w : World), Below B a w → Below B a (w.setCells b o vs)
  | [], _, _, h => h
  | v :: vs, o, _, h => below_setCells b hB vs (o + 1) _ (h.setCell (p := ⟨b, o, none⟩) hB v)
theorem has_setCells {w : World} {b n : Nat} {vs : List Value} (hn : n = vs.length) (ht : w.there b 0 n) (hlt : b < w.heap.size) (hs : ∀ o (w : World), (w.setCells b o vs).heap.size = w.heap.size) : Reg.Has (w.setCells b 0 vs) b vs := by
  subst hn
  refine ⟨fun i v hv => ?_, fun i hi => ?_, by rw [hs]; exact hlt⟩
  · have := World.rangeAt_setCells_same w b 0 vs ht i v hv
    rwa [Nat.zero_add] at this
  · rw [World.frozen?_setCells]
    have := (ht i hi).2
    rwa [Nat.zero_add] at this
theorem size_setCells (b : Nat) : ∀ (vs : List Value) (o : Nat) (w : World), (w.setCells b o vs).heap.size = w.heap.size
  | [], _, _ => rfl
  | v :: vs, o, w => by
    show ((w.setCell ⟨b, o, none⟩ v).setCells b (o + 1) vs).heap.size = _
    rw [size_setCells b vs (o + 1)]
    simp [World.setCell]
theorem has_range {w : World} {b : Nat} {vs : List Value} (h : Reg.Has w b vs) : w.rangeAt b 0 vs := fun j v hv => by rw [Nat.zero_add]; exact h.cell j v hv
theorem has_there {w : World} {b : Nat} {vs : List Value} (h : Reg.Has w b vs) : w.there b 0 vs.length := fun j hj => by
  rw [Nat.zero_add]
  exact ⟨by rw [h.cell j _ (List.getElem?_eq_getElem hj)]; rfl, h.free j hj⟩

def signs : List UInt8 := [33, 35, 36, 37, 38, 39, 42, 43, 45, 46, 94, 95, 96, 124, 126]
def idx (k : Nat) : Int := Lib.indexByte signs k.toUInt8
/-- a token's byte -/
def tB (k : Nat) : Bool := (decide (48 ≤ k) && decide (k ≤ 57)) || (decide (97 ≤ k) && decide (k ≤ 122)) || (decide (65 ≤ k) && decide (k ≤ 90)) || decide (0 ≤ idx k)
/-- a value's byte -/
def cB (k : Nat) : Bool := decide (k = 9) || (decide (32 ≤ k) && decide (k ≤ 126)) || decide (128 ≤ k)
def kindOf (k : Nat) : Int := (if tB k then 1 else 0) + (if cB k then 2 else 0)
/-- the table behind k rounds -/
@[irreducible] def tbl (k : Nat) : List Value := (List.range 256).map fun i => .int .u8 (if i < k then kindOf i else 0)
def tblArr : Array Value := (tbl 256).toArray
def zeroArr : Array Value := (tbl 0).toArray

theorem tbl_get (k i : Nat) (h : i < 256) : (tbl k)[i]? = some (.int .u8 (if i < k then kindOf i else 0)) := by
  unfold tbl
  rw [List.getElem?_map, List.getElem?_range h]
  rfl
theorem tbl_len (k : Nat) : (tbl k).length = 256 := by simp [tbl]
theorem tbl_set (k : Nat) (h : k < 256) : (tbl k).set k (.int .u8 (kindOf k)) = tbl (k + 1) := by
  apply List.ext_getElem?
  intro i
  by_cases hi : i < 256
  · by_cases hik : k = i
    · subst hik
      rw [List.getElem?_set_self (by rw [tbl_len]; exact h), tbl_get _ _ h, if_pos (by omega)]
    · rw [List.getElem?_set_ne hik, tbl_get _ _ hi, tbl_get _ _ hi]
      have e : (i < k) = (i < k + 1) := by apply propext; omega
      rw [show (if i < k then kindOf i else 0) = (if i < k + 1 then kindOf i else 0) by split <;> split <;> first | rfl | omega]
  · rw [List.getElem?_eq_none (by rw [List.length_set, tbl_len]; omega), List.getElem?_eq_none (by rw [tbl_len]; omega)]
theorem tbl_same (k : Nat) (h : k < 256) (h0 : kindOf k = 0) : tbl k = tbl (k + 1) := by
  rw [← tbl_set k h, h0]
  apply List.ext_getElem?
  intro i
  by_cases hik : k = i
  · subst hik
    rw [List.getElem?_set_self (by rw [tbl_len]; exact h), tbl_get _ _ h, if_neg (by omega)]
  · rw [List.getElem?_set_ne hik]
theorem zero_value (w : World) : (zeroValue 154).run Tryz.prog w = .ok (.agg zeroArr) w := by kernel_rfl

theorem idx_any (k : Nat) (w : World) : Calls Tryz.prog 147 #[.string ⟨#[33, 35, 36, 37, 38, 39, 42, 43, 45, 46, 94, 95, 96, 124, 126]⟩, .int .u8 (k : Int)] w fun e w' => e = .returned (.int .i64 (idx k)) ∧ w = w' := by
  refine (Tryz.strings_IndexByte _ _ _).mono ?_
  rintro e w' ⟨rfl, rfl⟩
  exact ⟨by rw [Int.toNat_natCast]; rfl, rfl⟩

theorem or1 : bits BinOp.or IntKind.u8 0 1 = 1 := by kernel_rfl
theorem or2 : bits BinOp.or IntKind.u8 0 2 = 2 := by kernel_rfl
theorem or3 : bits BinOp.or IntKind.u8 1 2 = 3 := by kernel_rfl
theorem kind_of {k : Nat} {t c : Bool} {n : Int} (ht : tB k = t) (hc : cB k = c) (hn : n = (if t then 1 else 0) + (if c then 2 else 0)) : kindOf k = n := by
  unfold kindOf; rw [ht, hc, hn]
theorem tB_yes {k : Nat} (h : (48 ≤ k ∧ k ≤ 57) ∨ (97 ≤ k ∧ k ≤ 122) ∨ (65 ≤ k ∧ k ≤ 90) ∨ 0 ≤ idx k) : tB k = true := by
  unfold tB; simp only [Bool.or_eq_true, Bool.and_eq_true, decide_eq_true_eq]; omega
theorem tB_no {k : Nat} (h : ¬ ((48 ≤ k ∧ k ≤ 57) ∨ (97 ≤ k ∧ k ≤ 122) ∨ (65 ≤ k ∧ k ≤ 90) ∨ 0 ≤ idx k)) : tB k = false := by
  rw [← Bool.not_eq_true]; unfold tB; simp only [Bool.or_eq_true, Bool.and_eq_true, decide_eq_true_eq]; omega
theorem cB_yes {k : Nat} (h : k = 9 ∨ (32 ≤ k ∧ k ≤ 126) ∨ 128 ≤ k) : cB k = true := by
  unfold cB; simp only [Bool.or_eq_true, Bool.and_eq_true, decide_eq_true_eq]; omega
theorem cB_no {k : Nat} (h : ¬ (k = 9 ∨ (32 ≤ k ∧ k ≤ 126) ∨ 128 ≤ k)) : cB k = false := by
  rw [← Bool.not_eq_true]; unfold cB; simp only [Bool.or_eq_true, Bool.and_eq_true, decide_eq_true_eq]; omega


theorem tB_iff (k : Nat) : tB k = true ↔ ((48 ≤ k ∧ k ≤ 57) ∨ (97 ≤ k ∧ k ≤ 122) ∨ (65 ≤ k ∧ k ≤ 90) ∨ 0 ≤ idx k) := by
  unfold tB; simp only [Bool.or_eq_true, Bool.and_eq_true, decide_eq_true_eq]; omega
theorem cB_iff (k : Nat) : cB k = true ↔ (k = 9 ∨ (32 ≤ k ∧ k ≤ 126) ∨ 128 ≤ k) := by
  unfold cB; simp only [Bool.or_eq_true, Bool.and_eq_true, decide_eq_true_eq]; omega
theorem eq_t {b : Bool} (h : b = true) : Value.bool true = .bool b := by rw [h]
theorem eq_tB {k : Nat} {p : Prop} [Decidable p] (h : p ↔ ((48 ≤ k ∧ k ≤ 57) ∨ (97 ≤ k ∧ k ≤ 122) ∨ (65 ≤ k ∧ k ≤ 90) ∨ 0 ≤ idx k)) : Value.bool (decide p) = .bool (tB k) := by
  congr 1; rw [Bool.eq_iff_iff, decide_eq_true_iff, tB_iff]; exact h
theorem eq_cB {k : Nat} {p : Prop} [Decidable p] (h : p ↔ (k = 9 ∨ (32 ≤ k ∧ k ≤ 126) ∨ 128 ≤ k)) : Value.bool (decide p) = .bool (cB k) := by
  congr 1; rw [Bool.eq_iff_iff, decide_eq_true_iff, cB_iff]; exact h

set_option maxRecDepth 100000 in
set_option maxHeartbeats 4000000 in
theorem table_any (w : World) : Calls Tryz.prog 131 #[] w fun e w' => e = .returned (.agg tblArr) ∧ Below w.heap.size w w' := by
  have hz := zero_value
  go_enter Tryz.func131, Tryz.ntmps131
  go_wp2_with fail
  have HB := Reg.Has.at w w.heap.size (tbl 0) 154 rfl
  have hbel : Below w.heap.size w (w.alloc (.cells zeroArr 154)) := (Below.refl _ _).alloc (Nat.le_refl _) _
  go_loopg [3] 256 (fun g i wr => ∃ k : Nat, k + g = 256 ∧ i = .int .i64 k ∧ Reg.Has wr w.heap.size (tbl k) ∧ Below w.heap.size w wr)
  case atStart => exact ⟨0, by omega, rfl, HB, hbel⟩
  case round =>
    clear HB hbel hz
    obtain ⟨k, hk, rfl, HB, bel⟩ := hrel
    by_cases hlt : k < 256
    · obtain ⟨g', rfl⟩ : ∃ g', gk = g' + 1 := ⟨gk - 1, by omega⟩
      have c0 := HB.cell k _ (tbl_get k k hlt)
      have f0 := HB.free k (by rw [tbl_len]; exact hlt)
      rw [if_neg (by omega)] at c0
      have zB := HB.lt
      go_upto_region 5 with fail
      go_cut [34] (fun t wc => t = .bool (tB k) ∧ wr = wc)
      case first =>
        clear c0 f0 zB HB bel
        go_wp2_with (go_at_call 147; refine (idx_any _ _).mono ?_; rintro e w' ⟨rfl, rfl⟩)
        all_goals go_meet
        all_goals refine ⟨?_, rfl⟩
        all_goals first | (with_reducible refine eq_t ?_; rw [tB_iff]; omega) | (with_reducible refine eq_tB ?_; omega)
      case rest =>
        obtain ⟨rfl, rfl⟩ := hcut
        cases ht : tB k
        · go_upto_region 7 with fail
          go_cut [53] (fun t wc => t = .bool (cB k) ∧ wr = wc)
          case first =>
            clear c0 f0 zB HB bel ht
            go_wp2_with fail
            all_goals go_meet
            all_goals refine ⟨?_, rfl⟩
            all_goals first | (with_reducible refine eq_t ?_; rw [cB_iff]; omega) | (with_reducible refine eq_cB ?_; omega)
          case rest =>
            obtain ⟨rfl, rfl⟩ := hcut
            have o2 := or2
            cases hc : cB k
            · go_wp2
              go_roundg g'
              case measure => omega
              case rel => exact ⟨k + 1, by omega, by go_num, by rw [← tbl_same k hlt (kind_of ht hc rfl)]; exact HB, bel⟩
            · go_wp2
              go_roundg g'
              case measure => omega
              case rel => exact ⟨k + 1, by omega, by go_num, by rw [← tbl_set k hlt, kind_of ht hc (n := 2) rfl]; exact HB.put k _, bel.setCell (by simp) _⟩
        · have o1 := or1
          have o3 := or3
          go_upto_region 7 with fail
          go_cut [53] (fun t wc => t = .bool (cB k) ∧ wr.setCell ⟨w.heap.size, k, none⟩ (.int .u8 1) = wc)
          case first =>
            clear c0 f0 zB HB bel ht
            go_wp2_with fail
            all_goals go_meet
            all_goals refine ⟨?_, rfl⟩
            all_goals first | (with_reducible refine eq_t ?_; rw [cB_iff]; omega) | (with_reducible refine eq_cB ?_; omega)
          case rest =>
            obtain ⟨rfl, rfl⟩ := hcut
            cases hc : cB k
            · go_wp2
              go_roundg g'
              case measure => omega
              case rel => exact ⟨k + 1, by omega, by go_num, by rw [← tbl_set k hlt, kind_of ht hc (n := 1) rfl]; exact HB.put k _, bel.setCell (by simp) _⟩
            · go_wp2
              go_roundg g'
              case measure => omega
              case rel =>
                refine ⟨k + 1, by omega, by go_num, ?_, (bel.setCell (by simp) _).setCell (by simp) _⟩
                rw [← tbl_set k hlt, kind_of ht hc (n := 3) rfl]
                have H8 := (HB.put k (.int .u8 1)).put k (.int .u8 3)
                rw [List.set_set] at H8
                exact H8
    · have hke : k = 256 := by omega
      subst hke
      have hi : (Tryz.prog.info? 154).map (·.size) = some (tbl 256).length := by rw [tbl_len]; kernel_rfl
      have hi2 : (Tryz.prog.info? 154).map (·.size) = some tblArr.size := by unfold tblArr; rw [List.size_toArray]; exact hi
      have hr := has_range HB
      have ht : wr.there w.heap.size 0 tblArr.size := by have := has_there HB; unfold tblArr; rw [List.size_toArray]; exact this
      have ho : tblArr.all (·.oneCell') = true := by kernel_rfl
      have HI := Lib.hid hi
      have HI2 := Lib.hid hi2
      have HR := hide hr
      have HT := hide ht
      have HO := Lib.hid ho
      clear hi hi2 hr ht ho
      go_wp2_with (first
        | (refine wpList_load_mid rfl 154 _ rfl w.heap.size 0 rfl (tbl 256) _ (unhide HR) Tryz.underlying154 rfl HI.out ?_)
        | (refine wpList_store_mid rfl 154 _ _ rfl w.heap.size 0 tblArr rfl rfl (unhide HT) HI2.out HO.out ?_))
      have hra := World.rangeAt_setCells_same wr w.heap.size 0 tblArr.toList (unhide HT)
      have hl := run_loadVar_mid (P := Tryz.prog) (wr.setCells w.heap.size 0 tblArr.toList) w.heap.size 0 154 tblArr.toList _ hra Tryz.underlying154 rfl HI2.out
      have e : tblArr.toList.toArray = tblArr := rfl
      rw [e] at hl
      exact bodyPost_ret (Mem.results_cell1 (ad := ⟨w.heap.size, 0, none⟩) Tryz.results131 rfl hl) rfl ⟨rfl, below_setCells _ (Nat.le_refl _) _ _ _ bel⟩
end Go.Proofs.YtbpopmbabckojaaGreatDoor.Sp
end
