/- Lemmas for the statement's proof, several texts in one: P28, Hx, F8, Ck, M8, P29, T6, L1. -/
import Derived.Test.YtkaaeajidejchaaGreatDoorZ08
import Derived.Test.YtkaaeajidejchaaGreatDoorZ01
import Derived.Test.YtkaaeajidejchaaGreatDoorZ03
import Derived.Test.YtkaaeajidejchaaGreatDoorZ04
import Derived.Lib.AppendIntMem
import Derived.Lib.LaidTab
import Derived.LaidSub
import Derived.LaidLaws
import Derived.Lib.TrailingZeros
set_option linter.unusedVariables false
set_option linter.unusedSimpArgs false
/- The law's status; a decoder that is nil. -/
section
namespace Go.Proofs.YtkaaeajidejchaaGreatDoor.Sp
open Go.RowKit Sl

set_option maxRecDepth 100000 in
theorem done_nil (w : World) : Calls Tryz.prog 12 #[.pointer none] w fun e w' => e = .returned (.bool false) ∧ w = w' := by
  go_enter Tryz.func12, Tryz.ntmps12
  go_wp2_with fail
  go_ret
  exact ⟨rfl, rfl⟩
set_option maxRecDepth 100000 in
theorem body_nil (w : World) : Calls Tryz.prog 14 #[.pointer none] w fun e w' => e = .returned (.string ⟨#[]⟩) ∧ w = w' := by
  go_enter Tryz.func14, Tryz.ntmps14
  go_wp2_with fail
  go_ret
  exact ⟨rfl, rfl⟩
set_option maxRecDepth 100000 in
set_option maxHeartbeats 2000000 in
theorem feed_nil (s : ByteArray) (w : World) : Calls Tryz.prog 13 #[.pointer none, .string s] w fun e w' => e = .returned (.tuple #[.int .i64 0, .int .i64 400]) ∧ Below w.heap.size w w' := by
  go_enter_defers Tryz.func13, Tryz.ntmps13
  go_wp2_with fail
  have n4 : ((((w.alloc (.cells #[.pointer none] 27)).alloc (.cells #[.int .i64 0] 3)).alloc (.cells #[.int .i64 400] 3))).cell? ⟨w.heap.size + 1, 0, none⟩ = some (.int .i64 0) := ((Reg.Has.at (w.alloc (.cells #[.pointer none] 27)) (w.heap.size + 1) [.int .i64 0] 3 (by simp)).alloc _).cell 0 _ rfl
  have n5 : ((((w.alloc (.cells #[.pointer none] 27)).alloc (.cells #[.int .i64 0] 3)).alloc (.cells #[.int .i64 400] 3))).cell? ⟨w.heap.size + 1 + 1, 0, none⟩ = some (.int .i64 400) := (Reg.Has.at ((w.alloc (.cells #[.pointer none] 27)).alloc (.cells #[.int .i64 0] 3)) (w.heap.size + 1 + 1) [.int .i64 400] 3 (by simp)).cell 0 _ rfl
  refine ⟨.tuple #[.int .i64 0, .int .i64 400], feed_res rfl rfl n4 n5, ?_⟩
  exact ⟨rfl, (((Below.refl w.heap.size w).alloc (Nat.le_refl _) _).alloc (by simp) _).alloc (by simp; omega) _⟩

/-- what the small decoder tells of bytes -/
def statA (s : ByteArray) : Nat := (feedS sizeF flF (newD 12 12 1 3) s.data.toList).1.bad
set_option maxRecDepth 100000 in
set_option maxHeartbeats 2000000 in
theorem status_any (s : ByteArray) (hs : s.size ≤ 200) (w : World) (hM : MaxV w) :
    Calls Tryz.prog 26 #[.agg #[.int .i64 12, .int .i64 12, .int .i64 1, .int .i64 3], .string s] w fun e w' => e = .returned (.int .i64 (statA s)) ∧ Below w.heap.size w w' := by
  have HL0 := hide (Reg.Has.new w [.int .i64 12, .int .i64 12, .int .i64 1, .int .i64 3] 23)
  have hb0 : Below w.heap.size w (w.alloc (.cells #[.int .i64 12, .int .i64 12, .int .i64 1, .int .i64 3] 23)) := (Below.refl _ _).alloc (Nat.le_refl _) _
  have HM := hide (hM.below hb0)
  have HB0 := hide hb0
  obtain ⟨⟨d2, n⟩, hf⟩ : ∃ r, feedS sizeF flF (newD 12 12 1 3) s.data.toList = r := ⟨_, rfl⟩
  have hq : statA s = d2.bad := by unfold statA; rw [hf]
  rw [hq]
  have HF := Lib.hid hf
  clear hM hb0 hf hq
  have l0 := (unhide HL0).cell 0 _ rfl
  have l1 := (unhide HL0).cell 1 _ rfl
  have l2 := (unhide HL0).cell 2 _ rfl
  have l3 := (unhide HL0).cell 3 _ rfl
  go_enter Tryz.func26, Tryz.ntmps26
  go_upto_region 1 with fail
  generalize w.alloc (.cells #[.int .i64 12, .int .i64 12, .int .i64 1, .int .i64 3] 23) = wb at *
  go_upto_region 2 with (go_at_call 11; refine (new_any _ _ _ _ _).mono ?_; rintro e w2 ⟨rfl, h2, hb2⟩)
  have hle := (unhide HB0).size
  have hb2s := hb2.size
  have HB2 := hide ((unhide HB0).trans (hb2.mono hle))
  have hMl := Nat.lt_of_lt_of_le (unhide HM).lt (Nat.le_refl wb.heap.size)
  have FE := hide (feedN_any w2 (wb.heap.size + 1) (newD 12 12 1 3) (.slice none 0 0) (.slice none 0 0) (.slice none 0 0) s 0 wb.heap.size h2 (newD_ok _ _ _ _) (by omega) hb2s (by show (3 : Nat) ≤ _; decide) ((unhide HM).below hb2) hMl d2 n HF.out)
  have H2 := hide h2
  clear h2 hb2 l0 l1 l2 l3
  go_wp2_with (go_at_call 13; refine (unhide FE).mono ?_; rintro e w3 ⟨rfl, ln3, bd3, tr3, h3, m3⟩)
  go_ret
  exact ⟨rfl, (unhide HB2).trans (m3.below (unhide H2) hle (unhide HB2).size)⟩
end Go.Proofs.YtkaaeajidejchaaGreatDoor.Sp
end

/- Numbers by sixteen: strconv.FormatInt at base 16 (below 4096), the reference's digits. -/
section
namespace Go.Proofs.YtkaaeajidejchaaGreatDoor.Sp
open Go.RowKit

/-- a digit by sixteen -/
def hxC (d : Nat) : UInt8 := if d < 10 then UInt8.ofNat (48 + d) else UInt8.ofNat (87 + d)
/-- a number's digits by sixteen (numbers below 4096) -/
def hxL (n : Nat) : List UInt8 := if n < 16 then [hxC n] else if n < 256 then [hxC (n / 16), hxC (n % 16)] else [hxC (n / 256), hxC (n / 16 % 16), hxC (n % 16)]
theorem hxL_len (n : Nat) : (hxL n).length ≤ 3 := by
  unfold hxL
  split
  · simp
  · split <;> simp
def Bru (w : World) : Prop := w.cell? ⟨4, 15, none⟩ = some (.int .u8 4)
theorem lt_cell {w : World} {a : Addr} {v : Value} (h : w.cell? a = some v) : a.block < w.heap.size := by
  rcases Nat.lt_or_ge a.block w.heap.size with h' | h'
  · exact h'
  · unfold World.cell? at h
    rw [Array.getElem?_eq_none h'] at h; cases h
theorem Bru.below {w w' : World} (h : Bru w) (hb : Below w.heap.size w w') : Bru w' := (hb.cell (lt_cell h)).trans h

set_option maxRecDepth 100000 in
theorem pow2_16 (w : World) : Calls Tryz.prog 91 #[.int .i64 16] w fun e w' => e = .returned (.bool true) ∧ w = w' := by
  go_enter Tryz.func91, Tryz.ntmps91
  go_wp2_with fail
  go_ret
  exact ⟨rfl, rfl⟩
set_option maxRecDepth 100000 in
theorem tz_16 (w : World) (h : Bru w) : Calls Tryz.prog 92 #[.int .u64 16] w fun e w' => e = .returned (.int .i64 4) ∧ w = w' := by
  unfold Bru at h
  have e1 : bits BinOp.and IntKind.u64 16 (IntKind.u64.wrap (-16)) = 16 := by kernel_rfl
  have e2 : IntKind.u64.wrap 4573923408821661840 = 4573923408821661840 := by kernel_rfl
  go_enter Tryz.func92, Tryz.ntmps92
  go_wp2
  go_ret
  exact ⟨rfl, rfl⟩
theorem text1 (b off cap : Nat) (c : UInt8) (w : World) (h : w.cell? ⟨b, off, none⟩ = some (.int .u8 c.toNat)) : (convert 56 9 (.slice (some ⟨b, off, none⟩) 1 cap)).run Tryz.prog w = .ok (.string ⟨#[c]⟩) w := by
  refine Mem.run_text (l := [c]) 56 5 9 Tryz.underlying56 Tryz.underlying5 Tryz.underlying9 b off cap (fun i v hv => ?_)
  rcases i with _ | i
  · simp [Mem.bytesV] at hv; subst hv; exact h
  · simp [Mem.bytesV] at hv
theorem text2 (b off cap : Nat) (c d : UInt8) (w : World) (h : w.cell? ⟨b, off, none⟩ = some (.int .u8 c.toNat)) (h1 : w.cell? ⟨b, off + 1, none⟩ = some (.int .u8 d.toNat)) : (convert 56 9 (.slice (some ⟨b, off, none⟩) 2 cap)).run Tryz.prog w = .ok (.string ⟨#[c, d]⟩) w := by
  refine Mem.run_text (l := [c, d]) 56 5 9 Tryz.underlying56 Tryz.underlying5 Tryz.underlying9 b off cap (fun i v hv => ?_)
  rcases i with _ | _ | i
  · simp [Mem.bytesV] at hv; subst hv; exact h
  · simp [Mem.bytesV] at hv; subst hv; exact h1
  · simp [Mem.bytesV] at hv
theorem text3 (b off cap : Nat) (c d e : UInt8) (w : World) (h : w.cell? ⟨b, off, none⟩ = some (.int .u8 c.toNat)) (h1 : w.cell? ⟨b, off + 1, none⟩ = some (.int .u8 d.toNat)) (h2 : w.cell? ⟨b, off + 2, none⟩ = some (.int .u8 e.toNat)) : (convert 56 9 (.slice (some ⟨b, off, none⟩) 3 cap)).run Tryz.prog w = .ok (.string ⟨#[c, d, e]⟩) w := by
  refine Mem.run_text (l := [c, d, e]) 56 5 9 Tryz.underlying56 Tryz.underlying5 Tryz.underlying9 b off cap (fun i v hv => ?_)
  rcases i with _ | _ | _ | i
  · simp [Mem.bytesV] at hv; subst hv; exact h
  · simp [Mem.bytesV] at hv; subst hv; exact h1
  · simp [Mem.bytesV] at hv; subst hv; exact h2
  · simp [Mem.bytesV] at hv
def dig36 : ByteArray := ⟨#[48, 49, 50, 51, 52, 53, 54, 55, 56, 57, 97, 98, 99, 100, 101, 102, 103, 104, 105, 106, 107, 108, 109, 110, 111, 112, 113, 114, 115, 116, 117, 118, 119, 120, 121, 122]⟩
theorem dig36_at (k : Nat) (h : k < 16) (w : World) : (Instr.index 9 (.string dig36) (.int .u64 k)).run Tryz.prog w = .ok (.int .u8 (hxC k).toNat) w := by
  have h1 : (0 : Int) ≤ (k : Int) ∧ (k : Int) < 36 := by omega
  have h2 : ∀ k : Fin 16, (dig36.data[k.val]!).toNat = (hxC k.val).toNat := by decide
  have h3 := h2 ⟨k, h⟩
  have h4 : k < dig36.data.size := by show k < 36; omega
  simp only at h3
  have h5 : dig36[k]? = some (hxC k) := by
    have e : dig36.data[k]! = hxC k := UInt8.toNat_inj.1 h3
    rw [getElem!_pos dig36.data k h4] at e
    have h6 : k < dig36.size := h4
    rw [getElem?_pos dig36 k h6]
    exact congrArg some e
  have h7 : ((dig36.size : Nat) : Int) = 36 := rfl
  generalize dig36 = D at h5 h7 ⊢
  simp [Instr.index, run_underlying Tryz.underlying9, asIntOf, part, go_sem, h1, h5, h7]
theorem and15 (n : Nat) (h : n < 4096) : bits BinOp.and IntKind.u64 (n : Int) 15 = ((n % 16 : Nat) : Int) := by
  have := bits_and_u64_nat n 15 (by omega) (by omega)
  rw [show ((15 : Nat) : Int) = 15 from rfl] at this
  rw [this]
  congr 1
  exact Nat.and_two_pow_sub_one_eq_mod n 4

set_option maxRecDepth 100000 in
set_option maxHeartbeats 4000000 in
theorem fbits_any (n : Nat) (hn : n < 4096) (w : World) (hT : Bru w) :
    Calls Tryz.prog 75 #[.slice none 0 0, .int .u64 n, .int .i64 16, .bool false, .bool false] w fun e w' => e = .returned (.tuple #[.slice none 0 0, .string (⟨(hxL n).toArray⟩)]) ∧ Below w.heap.size w w' := by
  have HT := hide hT
  clear hT
  go_enter Tryz.func75, Tryz.ntmps75
  go_wp2_with (first
    | (go_at_call 91; refine (pow2_16 _).mono ?_; rintro e w2 ⟨rfl, rfl⟩)
    | (go_at_call 92; refine (tz_16 _ ((unhide HT).below ((Below.refl w.heap.size w).alloc (Nat.le_refl _) _))).mono ?_; rintro e w3 ⟨rfl, rfl⟩))
  have HH := hide (Reg.Has.new w (List.replicate 65 (Value.int IntKind.u8 0)) 131)
  go_loopw [1, 13] (fun u i wr => ∃ (k m : Nat) (xs : List Value), u = .int .u64 m ∧ i = .int .i64 ((65 - k : Nat) : Int) ∧ xs.length = 65 ∧ Reg.Has wr w.heap.size xs ∧ Below w.heap.size w wr ∧ ((k = 0 ∧ m = n) ∨ (k = 1 ∧ 16 ≤ n ∧ m = n / 16 ∧ xs[64]? = some (.int .u8 (hxC (n % 16)).toNat)) ∨ (k = 2 ∧ 256 ≤ n ∧ m = n / 256 ∧ xs[63]? = some (.int .u8 (hxC (n / 16 % 16)).toNat) ∧ xs[64]? = some (.int .u8 (hxC (n % 16)).toNat)))) (fun u i _ => (intOf i).toNat)
  case atStart => exact ⟨0, n, List.replicate 65 (Value.int IntKind.u8 0), rfl, rfl, by simp, unhide HH, (Below.refl w.heap.size w).alloc (Nat.le_refl _) _, .inl ⟨rfl, rfl⟩⟩
  case round =>
    obtain ⟨k, m, xs, rfl, rfl, hlen, hhas, hbel, hcase⟩ := hrel
    have hc := fun i (h : i < 65) => hhas.cell i xs[i] (by simp [hlen, h])
    have hf := fun i (h : i < 65) => hhas.free i (by omega)
    have HHa := hide hhas
    have HBe := hide hbel
    have hm4 : m < 4096 := by rcases hcase with ⟨-, e⟩ | ⟨-, -, e, -⟩ | ⟨-, -, e, -⟩ <;> omega
    have ha := and15 m hm4
    clear hhas hbel
    rcases Nat.lt_or_ge m 16 with hm | hm
    · have hx2 := fun w => dig36_at m hm w
      unfold dig36 at hx2
      clear ha
      obtain ⟨x, hx⟩ : ∃ x, hxC m = x := ⟨_, rfl⟩
      rw [hx] at hx2
      rcases hcase with ⟨rfl, e⟩ | ⟨rfl, hn1, e, g1⟩ | ⟨rfl, hn1, e, g1, g2⟩
      · have c64 := hc 64 (by omega)
        have f64 := hf 64 (by omega)
        have cv := fun w' => text1 w.heap.size 64 1 x w'
        have HE := Lib.hid (show hxL n = [x] by unfold hxL; rw [if_pos (by omega), ← hx, e])
        clear hf hc e hx
        go_wp2_with fail
        go_ret2
        exact ⟨by rw [HE.out]; rfl, (unhide HBe).setCell (Nat.le_refl _) _⟩
      · have c64 := (unhide HHa).cell 64 _ g1
        have c63 := hc 63 (by omega)
        have f63 := hf 63 (by omega)
        obtain ⟨y, hy⟩ : ∃ y, hxC (n % 16) = y := ⟨_, rfl⟩
        rw [hy] at c64
        have cv := fun w' => text2 w.heap.size 63 2 x y w'
        have HE := Lib.hid (show hxL n = [x, y] by unfold hxL; rw [if_neg (by omega), if_pos (by omega), ← hx, ← hy, e])
        clear hf hc g1 e hx hy
        go_wp2_with fail
        go_ret2
        exact ⟨by rw [HE.out]; rfl, (unhide HBe).setCell (Nat.le_refl _) _⟩
      · have c64 := (unhide HHa).cell 64 _ g2
        have c63 := (unhide HHa).cell 63 _ g1
        have c62 := hc 62 (by omega)
        have f62 := hf 62 (by omega)
        obtain ⟨y, hy⟩ : ∃ y, hxC (n / 16 % 16) = y := ⟨_, rfl⟩
        obtain ⟨z, hz⟩ : ∃ y, hxC (n % 16) = y := ⟨_, rfl⟩
        rw [hy] at c63
        rw [hz] at c64
        have cv := fun w' => text3 w.heap.size 62 3 x y z w'
        have HE := Lib.hid (show hxL n = [x, y, z] by unfold hxL; rw [if_neg (by omega), if_neg (by omega), ← hx, ← hy, ← hz, e])
        clear hf hc g1 g2 e hx hy hz
        go_wp2_with fail
        go_ret2
        exact ⟨by rw [HE.out]; rfl, (unhide HBe).setCell (Nat.le_refl _) _⟩
    · have hx1 := fun w => dig36_at (m % 16) (by omega) w
      unfold dig36 at hx1
      obtain ⟨x, hx⟩ : ∃ x, hxC (m % 16) = x := ⟨_, rfl⟩
      rw [hx] at hx1
      obtain ⟨q, hq⟩ : ∃ q, m % 16 = q := ⟨_, rfl⟩
      rw [hq] at hx1 ha hx
      have hq16 : q < 16 := by omega
      rcases hcase with ⟨rfl, e⟩ | ⟨rfl, hn1, e, g1⟩ | ⟨rfl, hn1, e, g1, g2⟩
      · have c64 := hc 64 (by omega)
        have f64 := hf 64 (by omega)
        have HE := Lib.hid (show m / 16 = n / 16 by rw [e])
        have HX := Lib.hid (show x = hxC (n % 16) by rw [← hx, ← hq, e])
        have hn16 : 16 ≤ n := by omega
        clear hf hc e hx hq
        go_wp2_with fail
        go_roundw
        case rel => exact ⟨1, m / 16, xs.set 64 (.int .u8 x.toNat), by go_num, by go_num, by simp [hlen], (unhide HHa).put 64 _, (unhide HBe).setCell (Nat.le_refl _) _, .inr (.inl ⟨rfl, hn16, HE.out, by rw [← HX.out]; simp [hlen]⟩)⟩
        case measure => simp [intOf]
      · have c63 := hc 63 (by omega)
        have f63 := hf 63 (by omega)
        have HE := Lib.hid (show m / 16 = n / 256 by omega)
        have HX := Lib.hid (show x = hxC (n / 16 % 16) by rw [← hx, ← hq, e])
        have hn256 : 256 ≤ n := by omega
        clear hf hc e hx hq
        go_wp2_with fail
        go_roundw
        case rel => exact ⟨2, m / 16, xs.set 63 (.int .u8 x.toNat), by go_num, by go_num, by simp [hlen], (unhide HHa).put 63 _, (unhide HBe).setCell (Nat.le_refl _) _, .inr (.inr ⟨rfl, hn256, HE.out, by rw [← HX.out]; simp [hlen], by rw [List.getElem?_set_ne (by omega)]; exact g1⟩)⟩
        case measure => simp [intOf]
      · omega
def hxB (n : Nat) : ByteArray := ⟨(hxL n).toArray⟩
theorem hxB_size (n : Nat) : (hxB n).size ≤ 3 := by
  have := hxL_len n
  show (hxL n).toArray.size ≤ 3
  simpa using this
theorem hxB_data (n : Nat) : (hxB n).data.toList = hxL n := rfl
set_option maxRecDepth 100000 in
set_option maxHeartbeats 2000000 in
theorem fmtI_any (n : Nat) (hn : n < 4096) (w : World) (hT : Bru w) :
    Calls Tryz.prog 53 #[.int .i64 n, .int .i64 16] w fun e w' => e = .returned (.string (hxB n)) ∧ Below w.heap.size w w' := by
  have c1 := hide (fbits_any n hn w hT)
  have hw : IntKind.u64.wrap (n : Int) = n := by
    rw [IntKind.wrap_u64]; omega
  clear hT
  go_enter Tryz.func53, Tryz.ntmps53
  go_wp2_with fail
  refine (unhide c1).mono ?_; rintro e w1 ⟨rfl, hb1⟩
  go_wp2_with fail
  go_ret
  exact ⟨rfl, hb1⟩
set_option maxRecDepth 100000 in
set_option maxHeartbeats 2000000 in
theorem fmt16_any (n : Nat) (hn : n < 4096) (w : World) (hT : Bru w) :
    Calls Tryz.prog 35 #[.int .i64 n, .int .i64 16] w fun e w' => e = .returned (.string (hxB n)) ∧ Below w.heap.size w w' := by
  have c1 := hide (fmtI_any n hn w hT)
  clear hT
  go_enter Tryz.func35, Tryz.ntmps35
  go_wp2_with fail
  refine (unhide c1).mono ?_; rintro e w1 ⟨rfl, hb1⟩
  go_wp2_with fail
  go_ret
  exact ⟨rfl, hb1⟩
def hex16 : ByteArray := ⟨#[48, 49, 50, 51, 52, 53, 54, 55, 56, 57, 97, 98, 99, 100, 101, 102]⟩
theorem hex16_at (k : Nat) (h : k < 16) : hex16.extract k (k + 1) = ⟨#[hxC k]⟩ := by
  have h1 : ∀ k : Fin 16, (hex16.extract k.val (k.val + 1)).data.toList = [hxC k.val] := by decide +kernel
  have := h1 ⟨k, h⟩
  exact ba_eq this
set_option maxRecDepth 100000 in
set_option maxHeartbeats 2000000 in
theorem rdigits_any (n : Nat) (hn : n < 4096) (w : World) :
    Calls Tryz.prog 38 #[.int .i64 n] w fun e w' => e = .returned (.string (hxB n)) ∧ w = w' := by
  go_enter Tryz.func38, Tryz.ntmps38
  go_wp2_with fail
  go_loop [0, 3] (fun u o => ∃ (k m : Nat) (x : ByteArray), u = .int .i64 m ∧ o = .string x ∧ x.size = k ∧ ((k = 0 ∧ m = n) ∨ (k = 1 ∧ 16 ≤ n ∧ m = n / 16 ∧ x.data.toList = [hxC (n % 16)]) ∨ (k = 2 ∧ 256 ≤ n ∧ m = n / 256 ∧ x.data.toList = [hxC (n / 16 % 16), hxC (n % 16)]))) (fun u _ => (intOf u).toNat)
  case atStart => exact ⟨0, n, ⟨#[]⟩, rfl, rfl, rfl, .inl ⟨rfl, rfl⟩⟩
  case round =>
    obtain ⟨k, m, x, rfl, rfl, hx, hcase⟩ := hrel
    have hx3 : x.size ≤ 3 := by rcases hcase with ⟨e, -⟩ | ⟨e, -⟩ | ⟨e, -⟩ <;> omega
    have HC := hide hcase
    clear hcase
    have HE := Lib.hid (hex16_at (m % 16) (by omega))
    obtain ⟨a, ha⟩ : ∃ a, m / 16 = a := ⟨_, rfl⟩
    obtain ⟨b, hb⟩ : ∃ b, m % 16 = b := ⟨_, rfl⟩
    have hd : Int.tdiv (m : Int) 16 = (a : Int) := by rw [Int.tdiv_eq_ediv_of_nonneg (by omega)]; omega
    have hr : Int.tmod (m : Int) 16 = (b : Int) := by rw [Int.tmod_eq_emod_of_nonneg (by omega)]; omega
    have hd2 : (m : Int) / 16 = (a : Int) := by omega
    have hr2 : (m : Int) % 16 = (b : Int) := by omega
    have hb16 : b < 16 := by omega
    rw [hb] at HE
    unfold hex16 at HE
    have HA := Lib.hid ha
    have HB := Lib.hid hb
    clear ha hb
    obtain ⟨c, hc⟩ : ∃ c, hxC b = c := ⟨_, rfl⟩
    rw [hc] at HE
    have HHC := Lib.hid hc
    clear hc
    have hm4 : m < 4096 := by rcases unhide HC with ⟨-, e⟩ | ⟨-, -, e, -⟩ | ⟨-, -, e, -⟩ <;> omega
    have ha4 : a < 256 := by have := HA.out; omega
    have hw : wrap64 (a : Int) = a := by unfold wrap64; omega
    rcases Nat.eq_zero_or_pos a with h0 | h0
    · subst h0
      go_wp2_with fail
      go_ret
      refine ⟨?_, rfl⟩
      rw [HE.out]
      refine congrArg (fun x => Ending.returned (.string x)) (ba_eq ?_)
      rw [app_data]
      have h1 := HA.out
      have h2 := HB.out
      have h3 := HHC.out
      unfold hxL
      rcases unhide HC with ⟨e0, e⟩ | ⟨e0, e1, e, e2⟩ | ⟨e0, e1, e, e2⟩
      · rw [if_pos (by omega)]
        have : x.data.toList = [] := List.eq_nil_of_length_eq_zero (by rw [← e0, ← hx]; simp)
        rw [this, ← h3, ← h2, ← e, Nat.mod_eq_of_lt (by omega)]; rfl
      · rw [if_neg (by omega), if_pos (by omega), e2, ← h3, ← h2, e, Nat.mod_eq_of_lt (by omega)]; rfl
      · rw [if_neg (by omega), if_neg (by omega), e2, ← h3, ← h2, e, Nat.mod_eq_of_lt (by omega)]; rfl
    · have h0b : decide ((a : Int) = 0) = false := decide_eq_false (by omega)
      go_wp2_with fail
      refine ⟨⟨k + 1, a, ⟨#[c]⟩ ++ x, by go_num, by rw [HE.out], by rw [ByteArray.size_append]; show 1 + x.size = k + 1; omega, ?_⟩, ?_⟩
      · have h1 := HA.out
        have h2 := HB.out
        have h3 := HHC.out
        rcases unhide HC with ⟨e0, e⟩ | ⟨e0, e1, e, e2⟩ | ⟨e0, e1, e, e2⟩
        · refine .inr (.inl ⟨by omega, by omega, by omega, ?_⟩)
          have : x.data.toList = [] := List.eq_nil_of_length_eq_zero (by rw [← e0, ← hx]; simp)
          rw [app_data, this, ← h3, ← h2, ← e]; rfl
        · refine .inr (.inr ⟨by omega, by omega, by omega, ?_⟩)
          rw [app_data, e2, ← h3, ← h2, e]; rfl
        · omega
      · simp [intOf, hw]; have := HA.out; omega
end Go.Proofs.YtkaaeajidejchaaGreatDoor.Sp
end

/- field.Bytes. -/
section
namespace Go.Proofs.YtkaaeajidejchaaGreatDoor.Sp
open Go.RowKit Sl

theorem cell_call8 {W w' : World} {a : Addr} {v : Value} (hb : Below W.heap.size W w') (h : W.cell? a = some v) : w'.cell? a = some v :=
  (hb.cell (World.block_lt_of_cell? W a h)).trans h
def line1 (f : Fld) : ByteArray := f.1 ++ ⟨#[58, 32]⟩ ++ f.2 ++ ⟨#[13, 10]⟩
def linesL (L : List Fld) : List UInt8 := L.flatMap fun f => (line1 f).data.toList
theorem line1_data (f : Fld) : (line1 f).data.toList = f.1.data.toList ++ [58, 32] ++ f.2.data.toList ++ [13, 10] := by
  unfold line1
  rw [app_data, app_data, app_data]
theorem line1_size (f : Fld) : (line1 f).size = f.1.size + f.2.size + 4 := by
  rw [size_list (line1_data f)]
  simp; omega
theorem linesL_len (c : Nat) : ∀ L : List Fld, (∀ f ∈ L, f.1.size + f.2.size + 4 ≤ c) → (linesL L).length ≤ L.length * c
  | [], _ => by simp [linesL]
  | f :: t, h => by
    have ih := linesL_len c t (fun g hg => h g (List.mem_cons_of_mem _ hg))
    have h0 := h f List.mem_cons_self
    have h1 := line1_size f
    unfold linesL at ih ⊢
    rw [List.flatMap_cons, List.length_append, List.length_cons, Nat.add_mul]
    have h2 : (line1 f).data.toList.length = (line1 f).size := by simp
    omega
theorem linesL_app (A B : List Fld) : linesL (A ++ B) = linesL A ++ linesL B := by simp [linesL]
theorem linesL_take (L : List Fld) (k : Nat) (h : k < L.length) : linesL (L.take (k + 1)) = linesL (L.take k) ++ (line1 L[k]).data.toList := by
  rw [List.take_succ_eq_append_getElem h, linesL_app]
  show _ ++ List.flatMap _ [L[k]] = _
  rw [List.flatMap_cons, List.flatMap_nil, List.append_nil]

theorem isB_call {T e : TypeId} {B b : Nat} {xs : List Value} {w w' : World} (h : Lib.IsBuilder T e B b xs w) (hb : Below w.heap.size w w') : Lib.IsBuilder T e B b xs w' := by
  have one : ∀ p, Lib.BuilderAt T e B b p xs w → Lib.BuilderAt T e B b p xs w' := by
    rintro p ⟨hB, v, hbk, hown, hne⟩
    have hlt : b < w.heap.size := Lib.BuilderAt.lt ⟨hB, v, hbk, hown, hne⟩
    refine ⟨hB, v, (hb.block b hlt).trans hbk, ?_, hne⟩
    exact hown.kept (row := none) ⟨hb.os, hb.tape, hb.output, hb.size, fun k hk _ => hb.block k hk⟩ (by
      cases hv : v.ownBlock with
      | none => exact .inl rfl
      | some g => exact .inr (by simp))
  rcases h with h | h
  · exact .inl (one _ h)
  · exact .inr (one _ h)

def wrRen : Go.Shelf.Ren := ⟨fun | 166 => 34 | 240 => 52 | 276 => 71 | n => n, fun | 0 => 0 | 3 => 3 | 4 => 4 | 5 => 5 | 9 => 9 | 20 => 20 | 37 => 56 | 70 => 69 | 72 => 71 | 75 => 64 | 80 => 31 | 164 => 112 | n => n, fun | n => n⟩
theorem wrLays : Go.Proofs.Lays.n166 Tryz.prog wrRen := {
  mixed := by kernel_rfl
  f166 := Tryz.func34.trans (congrArg some (by kernel_rfl))
  f240 := Tryz.func52.trans (congrArg some (by kernel_rfl))
  f276 := Tryz.func71.trans (congrArg some (by kernel_rfl))
  t0 := Tryz.underlying0
  a0 := Tryz.isAgg0
  z0 := Tryz.sizeOf0
  v0 := Tryz.zeroValue0
  t3 := Tryz.underlying3
  a3 := Tryz.isAgg3
  z3 := Tryz.sizeOf3
  v3 := Tryz.zeroValue3
  t4 := Tryz.underlying4
  a4 := Tryz.isAgg4
  z4 := Tryz.sizeOf4
  v4 := Tryz.zeroValue4
  t9 := Tryz.underlying9
  a9 := Tryz.isAgg9
  z9 := Tryz.sizeOf9
  v9 := Tryz.zeroValue9
  t20 := Tryz.underlying20
  a20 := Tryz.isAgg20
  z20 := Tryz.sizeOf20
  v20 := Tryz.zeroValue20
  t37 := Tryz.underlying56
  a37 := Tryz.isAgg56
  z37 := Tryz.sizeOf56
  v37 := Tryz.zeroValue56
  t70 := Tryz.underlying69
  a70 := Tryz.isAgg69
  z70 := Tryz.sizeOf69
  v70 := Tryz.zeroValue69
  t72 := Tryz.underlying71
  a72 := Tryz.isAgg71
  z72 := Tryz.sizeOf71
  v72 := Tryz.zeroValue71
  t75 := Tryz.underlying64
  a75 := Tryz.isAgg64
  z75 := Tryz.sizeOf64
  v75 := Tryz.zeroValue64
  t164 := Tryz.underlying112
  a164 := Tryz.isAgg112
  z164 := Tryz.sizeOf112
  v164 := Tryz.zeroValue112 }
theorem wrExtra : Builder.Extra Tryz.prog wrRen := {
  sizeBuilder := by kernel_rfl
  liesBuilder := by kernel_rfl
  t5 := Tryz.underlying5
  a5 := Tryz.isAgg5
  z5 := Tryz.sizeOf5
  v5 := Tryz.zeroValue5
  infoByte := by kernel_rfl
  cellsByte := by kernel_rfl
  sizeByte := by kernel_rfl
  neB5 := by decide }
theorem write_any (B b : Nat) (l : List UInt8) (s : ByteArray) (w : World) (h : Lib.IsBuilder 71 5 B b (Lib.byteCells l) w) (hlen : l.length + s.size ≤ 140737488355328) (hBw : B ≤ w.heap.size) :
    Calls Tryz.prog 34 #[.pointer (some ⟨b, 0, none⟩), .string s] w fun e w' => e = .returned (.tuple #[.int .i64 s.size, .nilIface]) ∧ Lib.IsBuilder 71 5 B b (Lib.byteCells (l ++ s.data.toList)) w' ∧ Below B w w' := by
  have hl : (Lib.byteCells l).length = l.length := by simp [Lib.byteCells]
  refine (Any.Builder_WriteString wrLays wrExtra B b (Lib.byteCells l) s w h (by rw [hl]; exact hlen) hBw).mono ?_
  rintro e w' ⟨rfl, h1, h2⟩
  refine ⟨rfl, .inr ?_, h2⟩
  have : Lib.byteCells (l ++ s.data.toList) = Lib.byteCells l ++ Lib.strCells s := by simp [Lib.byteCells, Lib.strCells]
  rw [this]
  exact h1

def BytesO (L : List Fld) (e : Ending) : Prop := e = .returned (.tuple #[.string (if L.all chkS = true then ofL (linesL L) else ⟨#[]⟩), .int .i64 (errI (L.all chkS))])
theorem allC_take (L : List Fld) (k : Nat) (h : k < L.length) : (L.take (k + 1)).all chkS = ((L.take k).all chkS && chkS L[k]) := by
  rw [List.take_succ_eq_append_getElem h, List.all_append]; simp
theorem allC_no (L : List Fld) (k : Nat) (h : k < L.length) (hn : chkS L[k] = false) : L.all chkS = false := by
  cases hh : L.all chkS
  · rfl
  · rw [List.all_eq_true] at hh
    rw [hh _ (List.getElem_mem h)] at hn
    exact hn

set_option maxRecDepth 100000 in
set_option maxHeartbeats 2000000 in
theorem bytes_any (v : Value) (L : List Fld) (hL : L.length ≤ 1000000) (hf : ∀ f ∈ L, f.1.size ≤ 100000 ∧ f.2.size ≤ 100000) (w : World) (hv : Rd w v L.length 2 (fldV L)) :
    Calls Tryz.prog 33 #[v] w fun e w' => BytesO L e ∧ Below w.heap.size w w' := by
  obtain ⟨ao, cap, rfl⟩ := hv.form
  have HV := hide hv
  have HF := hide hf
  clear hv hf
  go_enter Tryz.func33, Tryz.ntmps33
  go_upto_region 2 with fail
  have HI := hide (Lib.fresh_isBuilder 71 5 w)
  have HB := hide ((Below.refl w.heap.size w).alloc (Nat.le_refl _) (.cells #[.pointer none, .slice none 0 0] 71))
  generalize w.alloc (.cells #[.pointer none, .slice none 0 0] 71) = w0 at HI HB ⊢
  go_wp2_with fail
  go_loopw [10] (fun i wr => ∃ k : Nat, i = .int .i64 k ∧ k ≤ L.length ∧ (L.take k).all chkS = true ∧ Lib.IsBuilder 71 5 w.heap.size w.heap.size (Lib.byteCells (linesL (L.take k))) wr ∧ Below w.heap.size w wr) (fun i _ => L.length - (intOf i).toNat)
  case atStart => exact ⟨0, rfl, Nat.zero_le _, by simp, by rw [List.take_zero]; exact unhide HI, unhide HB⟩
  case round =>
    clear HI HB
    obtain ⟨k, rfl, hk, hall, hi, hb⟩ := hrel
    have HA := Lib.hid hall
    have HI := hide hi
    have HB := hide hb
    clear hall hi
    rcases Nat.lt_or_ge k L.length with hlt | hge
    · obtain ⟨b, off, rfl, hbk, d1, d2⟩ := fld_cells ((unhide HV).below hb) rfl k hlt
      have hz := (unhide HF) L[k] (List.getElem_mem _)
      have hnl := linesL_len 200004 (L.take k) (fun f hf => by have := (unhide HF) f (List.mem_of_mem_take hf); omega)
      rw [List.length_take, Nat.min_eq_left hk] at hnl
      have HS := Lib.hid (linesL_take L k hlt)
      have HT := Lib.hid (allC_take L k hlt)
      have hno := allC_no L k hlt
      have h1s := line1_size L[k]
      have hsz := hb.size
      obtain ⟨⟨x, y⟩, hx⟩ : ∃ x, L[k] = x := ⟨_, rfl⟩
      rw [hx] at d1 d2 hz hno h1s HS HT
      obtain ⟨l, hl⟩ : ∃ l, linesL (L.take k) = l := ⟨_, rfl⟩
      rw [hl] at HI HS hnl
      have hzx : x.size ≤ 1000000 := Nat.le_trans hz.1 (by decide)
      have hzy : y.size ≤ 1000000 := Nat.le_trans hz.2 (by decide)
      have hc := fun w => check_any x y hzx hzy w
      have HZ := hide (show l.length + (line1 (x, y)).size ≤ 140737488355328 by simp only at hz h1s; omega)
      clear hx hl hz h1s hnl hb
      obtain ⟨ok, hok⟩ : ∃ ok, chkS (x, y) = ok := ⟨_, rfl⟩
      rw [hok] at hc hno HT
      have HC := hide hc
      have HNO := hide hno
      clear hc hno hok
      unfold errI at HC
      cases ok
      · simp only [Bool.false_eq_true, if_false] at HC
        have HN := Lib.hid ((unhide HNO) rfl)
        go_wp2_with (go_at_call 51; refine (unhide HC _).mono ?_; rintro e w2 ⟨rfl, hb2⟩; have HB2 := hide (((unhide HB).alloc hsz (.cells #[.string x, .string y] 50)).trans (hb2.mono (by simp; omega))); clear hb2)
        go_ret2
        unfold BytesO
        rw [HN.out]
        exact ⟨rfl, unhide HB2⟩
      · simp only [if_true] at HC
        go_wp2_with (first
          | (go_at_call 51; refine (unhide HC _).mono ?_; rintro e w2 ⟨rfl, hb2⟩; have d3 := cell_call8 hb2 (a := ⟨wr.heap.size, 0, none⟩) (v := .string x) (by simp); have d4 := cell_call8 hb2 (a := ⟨wr.heap.size, 1, none⟩) (v := .string y) (by simp); have HI2 := hide (isB_call (isB_call (unhide HI) ((Below.refl wr.heap.size wr).alloc (Nat.le_refl _) (.cells #[.string x, .string y] 50))) hb2); have HB2 := hide (((unhide HB).alloc hsz (.cells #[.string x, .string y] 50)).trans (hb2.mono (by simp; omega))); clear hb2)
          | (go_at_call 34; refine (write_any w.heap.size w.heap.size l (line1 (x, y)) _ (unhide HI2) (unhide HZ) (unhide HB2).size).mono ?_; rintro e w3 ⟨rfl, hi3, hb3⟩; have HI3 := hide hi3; have HB3 := hide ((unhide HB2).trans hb3); clear hi3 hb3))
        go_roundw
        case rel => exact ⟨k + 1, by go_num, by omega, by rw [HT.out, HA.out]; rfl, by rw [HS.out]; exact unhide HI3, unhide HB3⟩
        case measure => simp [intOf]; omega
    · have hT : L.take k = L := List.take_of_length_le hge
      rw [hT] at HA HI
      have HN := HA
      have HI2 := HI
      have hsz := hb.size
      clear hT hb
      go_wp2_with (go_at_call 36; refine (Tryz.Builder_String_any w.heap.size w.heap.size (linesL L) _ (unhide HI2) hsz).mono ?_; rintro e w3 ⟨rfl, hb3⟩; have HB3 := hide ((unhide HB).trans hb3); clear hb3)
      go_ret2
      unfold BytesO
      rw [HN.out]
      exact ⟨rfl, unhide HB3⟩
end Go.Proofs.YtkaaeajidejchaaGreatDoor.Sp
end

/- Plain: content in chunks. -/
section
namespace Go.Proofs.YtkaaeajidejchaaGreatDoor.Sp
open Go.RowKit Sl

/-- a chunk -/
def chunkL (s : List UInt8) : List UInt8 := hxL s.length ++ [13, 10] ++ s ++ [13, 10]
/-- chunks of k bytes -/
def chunksL (k : Nat) (s : List UInt8) : List UInt8 :=
  if h : s = [] ∨ k = 0 then [] else chunkL (s.take k) ++ chunksL k (s.drop k)
termination_by s.length
decreasing_by
  rw [not_or] at h
  have := List.length_pos_iff.2 h.1
  rw [List.length_drop]
  omega
/-- the size that is used -/
def sizeU (size : Int) (n : Nat) : Nat := if size < 1 then (if n = 0 then 1 else n) else size.toNat
/-- content in chunks, with trailers -/
def encL (bo : List UInt8) (size : Int) (T : List Fld) : List UInt8 := chunksL (sizeU size bo.length) bo ++ [48, 13, 10] ++ linesL T ++ [13, 10]

end Go.Proofs.YtkaaeajidejchaaGreatDoor.Sp
end

/- Content in chunks: chunk.Encode, the reference's Encode. -/
section
namespace Go.Proofs.YtkaaeajidejchaaGreatDoor.Sp
open Go.RowKit Sl

def EncO (bo : ByteArray) (size : Int) (T : List Fld) (e : Ending) : Prop := e = .returned (.tuple #[.string (if T.all chkS = true then ofL (encL bo.data.toList size T) else ⟨#[]⟩), .int .i64 (errI (T.all chkS))])
theorem chunksL_nil (k : Nat) : chunksL k [] = [] := by rw [chunksL, dif_pos (.inl rfl)]
theorem chunksL_more (k : Nat) (s : List UInt8) (hs : s ≠ []) (hk : k ≠ 0) : chunksL k s = chunkL (s.take k) ++ chunksL k (s.drop k) := by rw [chunksL, dif_neg (by simp [hs, hk])]
theorem sizeU_pos (size : Int) (n : Nat) : sizeU size n ≠ 0 := by
  unfold sizeU
  split
  · split <;> omega
  · omega

set_option maxRecDepth 100000 in
set_option maxHeartbeats 2000000 in
theorem encode_any (bo : ByteArray) (size : Int) (tr : Value) (T : List Fld) (hb : bo.size < 4096) (hs0 : -9223372036854775808 ≤ size) (hs1 : size ≤ 9223372036854775807) (hTr : Few T) (w : World) (hv : Rd w tr T.length 2 (fldV T)) (hR : Bru w) :
    Calls Tryz.prog 22 #[.string bo, .int .i64 size, tr] w fun e w' => EncO bo size T e ∧ Below w.heap.size w w' := by
  have q1 := hide (bytes_any _ T (by have := hTr.1; omega) (fun f hf => by have := hTr.2 f hf; omega) w hv)
  have hT4 := linesL_len 4004 T (fun f hf => by have := hTr.2 f hf; omega)
  have hT5 : (linesL T).length ≤ 400400 := by have := hTr.1; omega
  have HR := hide hR
  obtain ⟨ao, c1, rfl⟩ := hv.form
  clear hv hR hT4 hTr
  unfold EncO
  unfold BytesO at q1
  obtain ⟨tb, htb⟩ : ∃ b, T.all chkS = b := ⟨_, rfl⟩
  rw [htb] at q1 ⊢
  cases tb
  · simp only [Bool.false_eq_true, if_false, errI] at q1 ⊢
    go_enter Tryz.func22, Tryz.ntmps22
    go_wp2_with fail
    refine (unhide q1).mono ?_; rintro e w1 ⟨rfl, hb1⟩
    have HB1 := hide hb1
    clear hb1
    go_wp2_with fail
    go_ret2
    exact ⟨rfl, unhide HB1⟩
  simp only [if_true, errI] at q1 ⊢
  unfold encL
  generalize hK : sizeU size bo.data.toList.length = K
  have hK0 : K ≠ 0 := by rw [← hK]; exact sizeU_pos _ _
  have hKs : (decide (size < 1) = true ∧ max 1 (bo.size : Int) = K) ∨ (decide (size < 1) = false ∧ size = K) := by
    have hl : bo.data.toList.length = bo.size := by simp
    rw [hl] at hK
    unfold sizeU at hK
    by_cases h : size < 1
    · rw [if_pos h] at hK
      refine .inl ⟨decide_eq_true h, ?_⟩
      split at hK <;> omega
    · rw [if_neg h] at hK
      exact .inr ⟨decide_eq_false h, by omega⟩
  generalize hy : linesL T = y at *
  clear hK hy htb
  obtain ⟨t, ht⟩ : ∃ t : ByteArray, t = ofL y := ⟨_, rfl⟩
  have hty : t.data.toList = y := by rw [ht]; rfl
  have hts : t.size = y.length := by rw [ht]; simp [ofL, ByteArray.size]
  rw [← ht] at q1
  have HTY := Lib.hid hty
  clear ht hty
  have HBo := hide hb
  clear hb
  rcases hKs with ⟨hs2, hmx⟩ | ⟨hs2, rfl⟩
  all_goals
    go_enter Tryz.func22, Tryz.ntmps22
    go_wp2_with fail
    refine (unhide q1).mono ?_; rintro e w1 ⟨rfl, hb1⟩
    have HB1 := hide hb1
    clear hb1 q1
    go_wp2_with fail
    have HI := hide (Lib.fresh_isBuilder 71 5 w1)
    have HB2 := hide ((unhide HB1).alloc (unhide HB1).size (.cells #[.pointer none, .slice none 0 0] 71))
    have hB1 := (unhide HB1).size
    have hlt : w1.heap.size ≤ (w1.alloc (.cells #[.pointer none, .slice none 0 0] 71)).heap.size := by simp
    generalize w1.alloc (.cells #[.pointer none, .slice none 0 0] 71) = w2 at *
    generalize w1.heap.size = b at *
    clear HB1
    try clear hs2 hmx
    go_loopw [0] (fun i wr => ∃ (s : ByteArray) (l : List UInt8), i = .string s ∧ s.size ≤ bo.size ∧ l ++ chunksL K s.data.toList = chunksL K bo.data.toList ∧ l.length ≤ 10 * (bo.size - s.size) ∧ Lib.IsBuilder 71 5 b b (Lib.byteCells l) wr ∧ Below w.heap.size w wr ∧ b ≤ wr.heap.size) (fun i _ => strLen i)
    case atStart => exact ⟨bo, [], rfl, Nat.le_refl _, rfl, Nat.zero_le _, unhide HI, unhide HB2, hlt⟩
    case round =>
      clear HI HB2 hlt
      obtain ⟨s, l, rfl, hsb, heq, hl, hi, hbel, hbb⟩ := hrel
      have HQ := Lib.hid heq
      have HI := hide hi
      have HBe := hide hbel
      have hbo4 := unhide HBo
      clear heq hi hbel
      cases em : s.toList.isEmpty
      · have hne : s.data.toList ≠ [] := by
          intro e
          rw [Lib.toList_data, e] at em
          cases em
        have hs1' : 0 < s.size := by
          rcases Nat.eq_zero_or_pos s.size with h0 | h0
          · exact absurd (List.eq_nil_of_length_eq_zero (by simpa using h0)) hne
          · exact h0
        obtain ⟨m, hm⟩ : ∃ m, min K s.size = m := ⟨_, rfl⟩
        have hm1 : m ≤ s.size := by omega
        have hm0 : 0 < m := by omega
        have hmi : min (K : Int) (s.size : Int) = (m : Int) := by omega
        have hps : (s.extract 0 m).size = m := by rw [ByteArray.size_extract]; omega
        have hp : (s.extract 0 m).data.toList = s.data.toList.take m := by rw [Lib.extract_data]; simp
        have hr : (s.extract m s.size).data.toList = s.data.toList.drop m := Lib.extract_to_end s m
        have hrs : (s.extract m s.size).size = s.size - m := by rw [ByteArray.size_extract]; omega
        have hck : chunksL K s.data.toList = hxL m ++ [13, 10] ++ s.data.toList.take m ++ [13, 10] ++ chunksL K (s.data.toList.drop m) := by
          have e1 : s.data.toList.take K = s.data.toList.take m := by
            rw [← hm]
            rcases Nat.le_total K s.size with h | h
            · rw [Nat.min_eq_left h]
            · rw [Nat.min_eq_right h, List.take_of_length_le (by simpa using h), List.take_of_length_le (by simp)]
          have e2 : s.data.toList.drop K = s.data.toList.drop m := by
            rw [← hm]
            rcases Nat.le_total K s.size with h | h
            · rw [Nat.min_eq_left h]
            · rw [Nat.min_eq_right h, List.drop_of_length_le (by simpa using h), List.drop_of_length_le (by simp)]
          rw [chunksL_more K _ hne hK0, e1, e2]
          unfold chunkL
          rw [List.length_take, Nat.min_eq_left (by simpa using hm1)]
        rw [← hp, ← hr] at hck
        have hxs := hxB_size m
        have hx := fun w hb => fmt16_any m (by omega) w hb
        have HX := hide hx
        have HRR := hide ((unhide HR).below (unhide HBe))
        have HK := Lib.hid hck
        have hem : (⟨#[13, 10]⟩ : ByteArray).size = 2 := rfl
        obtain ⟨x, hxx⟩ : ∃ x, hxB m = x := ⟨_, rfl⟩
        rw [hxx] at hxs HX
        have HXX := Lib.hid hxx
        clear hx hck hp hr hxx hm hne
        go_wp2_with fail
        generalize s.extract 0 m = p at *
        generalize s.extract m s.size = r at *
        refine (unhide HX _ (unhide HRR)).mono ?_; rintro e w3 ⟨rfl, hb3⟩
        have HI3 := hide (isB_call (unhide HI) hb3)
        have HB3 := hide ((unhide HBe).trans (hb3.mono (unhide HBe).size))
        have hbb3 : b ≤ w3.heap.size := Nat.le_trans hbb hb3.size
        clear hb3
        go_wp2_with fail
        have hz3 : l.length + (x ++ (⟨#[13, 10]⟩ : ByteArray) ++ p ++ (⟨#[13, 10]⟩ : ByteArray)).size ≤ 140737488355328 := by simp; omega
        have hW := write_any b b l (x ++ (⟨#[13, 10]⟩ : ByteArray) ++ p ++ (⟨#[13, 10]⟩ : ByteArray)) _ (unhide HI3) hz3 hbb3
        refine hW.mono ?_
        clear hW
        rintro e w4 ⟨rfl, hi4, hb4⟩
        have HI4 := hide hi4
        have HB4 := hide ((unhide HB3).trans (hb4.mono hB1))
        have hbb4 : b ≤ w4.heap.size := Nat.le_trans hbb3 hb4.size
        clear hi4 hb4
        go_wp2_with fail
        go_roundw
        case rel =>
          refine ⟨r, l ++ (x ++ (⟨#[13, 10]⟩ : ByteArray) ++ p ++ (⟨#[13, 10]⟩ : ByteArray)).data.toList, rfl, by omega, ?_, ?_, unhide HI4, unhide HB4, hbb4⟩
          · rw [← HQ.out, HK.out, ← HXX.out, app_data, app_data, app_data]
            show _ = l ++ ((hxB m).data.toList ++ [13, 10] ++ p.data.toList ++ [13, 10] ++ _)
            simp only [List.append_assoc]
          · have h1 : (x ++ (⟨#[13, 10]⟩ : ByteArray) ++ p ++ (⟨#[13, 10]⟩ : ByteArray)).data.toList.length = x.size + 2 + p.size + 2 := by simp [ByteArray.size_append]; omega
            rw [List.length_append, h1]
            omega
        case measure => simp [strLen]; omega
      · have he : s.data.toList = [] := by
          rw [Lib.toList_data] at em
          exact List.isEmpty_iff.1 em
        have HL := Lib.hid (show l = chunksL K bo.data.toList by rw [← HQ.out, he, chunksL_nil, List.append_nil])
        clear he
        go_wp2_with fail
        have y1 : (⟨#[48, 13, 10]⟩ : ByteArray).size = 3 := rfl
        have y2 : (⟨#[13, 10]⟩ : ByteArray).size = 2 := rfl
        have hz3 : l.length + ((⟨#[48, 13, 10]⟩ : ByteArray) ++ t ++ (⟨#[13, 10]⟩ : ByteArray)).size ≤ 140737488355328 := by simp; omega
        have hW := write_any b b l ((⟨#[48, 13, 10]⟩ : ByteArray) ++ t ++ (⟨#[13, 10]⟩ : ByteArray)) _ (unhide HI) hz3 hbb
        refine hW.mono ?_
        clear hW
        rintro e w4 ⟨rfl, hi4, hb4⟩
        have HI4 := hide hi4
        have HB4 := hide ((unhide HBe).trans (hb4.mono hB1))
        have hbb4 : b ≤ w4.heap.size := Nat.le_trans hbb hb4.size
        clear hi4 hb4
        go_wp2_with fail
        refine (Tryz.Builder_String_any b b _ _ (unhide HI4) hbb4).mono ?_; rintro e w5 ⟨rfl, hb5⟩
        have HB5 := hide ((unhide HB4).trans (hb5.mono hB1))
        clear hb5
        go_wp2_with fail
        go_ret2
        refine ⟨?_, unhide HB5⟩
        have he2 : ofL (chunksL K bo.data.toList ++ [48, 13, 10] ++ y ++ [13, 10]) = ⟨(l ++ ((⟨#[48, 13, 10]⟩ : ByteArray) ++ t ++ (⟨#[13, 10]⟩ : ByteArray)).data.toList).toArray⟩ := by
          rw [← HL.out, app_data, app_data, HTY.out]
          show ofL _ = ofL _
          congr 1
          simp
        rw [he2]
        rfl
end Go.Proofs.YtkaaeajidejchaaGreatDoor.Sp
end

/- The walk of the law ChunkNames: closed examples. -/
section
namespace Go.Proofs.YtkaaeajidejchaaGreatDoor.Sp
open Go.RowKit Sl

def sz1 (s : ByteArray) : Nat := (sizeF s.data.toList).1
def sz2 (s : ByteArray) : Nat := (sizeF s.data.toList).2
theorem size_c (s : ByteArray) (hs : s.size ≤ 1000000) (w : World) : Calls Tryz.prog 18 #[.string s] w fun e w' => e = .returned (.tuple #[.int .i64 (sz1 s), .int .i64 (sz2 s)]) ∧ Below w.heap.size w w' := size_any s hs w
def f1 : Fld := (⟨#[84]⟩, ⟨#[49]⟩)
def f2 : Fld := (⟨#[]⟩, ⟨#[49]⟩)
theorem f1_chk : [f1].all chkS = true := by decide +kernel
theorem f2_chk : [f2].all chkS = false := by decide +kernel
theorem f1_few : Few [f1] := ⟨by decide, fun f hf => by
  obtain rfl := List.mem_singleton.1 hf
  exact ⟨by decide, by decide⟩⟩
theorem f2_few : Few [f2] := ⟨by decide, fun f hf => by
  obtain rfl := List.mem_singleton.1 hf
  exact ⟨by decide, by decide⟩⟩
theorem Rd.has1n {w : World} {b : Nat} {f : Fld} (h : Reg.Has w b [.string f.1, .string f.2]) : Rd w (.slice (some ⟨b, 0, none⟩) 1 1) 1 2 (fldV [f]) :=
  ⟨some ⟨b, 0, none⟩, 1, rfl, Nat.le_refl _, (fun h => by cases h), rfl, fun _ => ⟨b, 0, rfl, h.lt, fun i u hu => by rw [Nat.zero_add]; exact h.cell i u hu⟩⟩
def encT : ByteArray := ⟨#[50, 13, 10, 97, 98, 13, 10, 50, 13, 10, 99, 100, 13, 10, 49, 13, 10, 101, 13, 10, 48, 13, 10, 84, 58, 32, 49, 13, 10, 13, 10]⟩
theorem enc1 : ofL (encL [97, 98, 99, 100, 101] 2 [f1]) = encT := by
  unfold encL
  rw [show sizeU (2 : Int) ([97, 98, 99, 100, 101] : List UInt8).length = 2 by decide, chunksL_more 2 [97, 98, 99, 100, 101] (by decide) (by decide)]
  rw [show ([97, 98, 99, 100, 101] : List UInt8).drop 2 = [99, 100, 101] by rfl, chunksL_more 2 [99, 100, 101] (by decide) (by decide)]
  rw [show ([99, 100, 101] : List UInt8).drop 2 = [101] by rfl, chunksL_more 2 [101] (by decide) (by decide)]
  rw [show ([101] : List UInt8).drop 2 = [] by rfl, chunksL_nil]
  decide +kernel
theorem enc3 : ofL (encL [] 5 []) = ⟨#[48, 13, 10, 13, 10]⟩ := by
  unfold encL
  rw [chunksL_nil]
  decide +kernel
theorem nm_bad : (feedS sizeF flF (newD 200 1000 30 1000) encT.data.toList).1.bad = 0 := by decide +kernel
theorem nm_done : (feedS sizeF flF (newD 200 1000 30 1000) encT.data.toList).1.done = true := by decide +kernel
theorem nm_body : (feedS sizeF flF (newD 200 1000 30 1000) encT.data.toList).1.body = [97, 98, 99, 100, 101] := by decide +kernel
theorem nm_tr : (feedS sizeF flF (newD 200 1000 30 1000) encT.data.toList).1.tr.length = 1 := by decide +kernel
theorem st1 : statA ⟨#[52, 13, 10]⟩ = 413 := by decide +kernel
theorem st2 : statA ⟨#[51, 13, 10, 97, 98, 99, 13, 10, 49, 13, 10]⟩ = 413 := by decide +kernel
theorem st3 : statA ⟨#[51, 13, 10, 97, 98, 99, 100]⟩ = 400 := by decide +kernel
theorem st4 : statA ⟨#[51, 10]⟩ = 400 := by decide +kernel
theorem st5 : statA ⟨#[51, 13, 120]⟩ = 400 := by decide +kernel
theorem st6 : statA ⟨#[51, 59, 120, 120, 120, 120, 120, 120, 120, 120, 120, 120, 120, 120]⟩ = 400 := by decide +kernel
theorem st7 : statA ⟨#[48, 13, 10, 97, 58, 49, 13, 10, 98, 58, 50, 13, 10]⟩ = 431 := by decide +kernel
theorem st8 : statA ⟨#[48, 13, 10, 58, 13, 10]⟩ = 400 := by decide +kernel
theorem st9 : statA ⟨#[51, 13, 10, 97, 98]⟩ = 0 := by decide +kernel
theorem sA : sz1 ⟨#[49, 70, 59, 120, 61, 34, 121, 34]⟩ = 31 ∧ sz2 ⟨#[49, 70, 59, 120, 61, 34, 121, 34]⟩ = 0 := by decide +kernel
theorem sB : sz2 ⟨#[]⟩ = 400 := by decide +kernel
theorem sC : sz2 ⟨#[49, 32]⟩ = 400 := by decide +kernel
theorem sD : sz2 ⟨#[48, 48, 48, 48, 48, 48, 48, 48, 48, 48, 48, 48, 48, 48, 48, 48, 49]⟩ = 400 := by decide +kernel
theorem sE : sz2 ⟨#[102, 102, 102, 102, 102, 102, 102, 102, 102, 102, 102, 102, 102, 102, 102]⟩ = 413 := by decide +kernel

set_option maxRecDepth 100000 in
set_option maxHeartbeats 8000000 in
theorem cnames_any (w : World) (hM : MaxV w) (hR : Bru w) :
    Calls Tryz.prog 7 #[] w fun e w' => e = .returned (.bool true) ∧ Below w.heap.size w w' := by
  have HM := hide hM
  have HR := hide hR
  have c0 := hide (lives5_any _ hM)
  clear hM hR
  go_enter Tryz.func7, Tryz.ntmps7
  go_upto_region 3 with (go_at_call 9; refine (unhide c0).mono ?_; rintro e w1 ⟨rfl, hb1⟩)
  have HB := hide hb1
  clear c0 hb1
  have HBA := hide ((unhide HB).trans (((Below.refl w1.heap.size w1).alloc (Nat.le_refl _) (.cells #[.string ⟨#[84]⟩, .string ⟨#[49]⟩] 50)).mono (unhide HB).size))
  have EN := encode_any ⟨#[97, 98, 99, 100, 101]⟩ 2 _ [f1] (by decide) (by decide) (by decide) f1_few _ (Rd.has1n (f := f1) (Reg.Has.new w1 [.string ⟨#[84]⟩, .string ⟨#[49]⟩] 50)) ((unhide HR).below (unhide HBA))
  unfold EncO at EN
  rw [f1_chk, if_pos rfl, show errI true = 0 from rfl, show (⟨#[97, 98, 99, 100, 101]⟩ : ByteArray).data.toList = [97, 98, 99, 100, 101] from rfl, enc1] at EN
  replace EN := hide EN
  go_upto_region 4 with (go_at_call 22; refine (unhide EN).mono ?_; rintro e w2 ⟨rfl, hb2⟩)
  have HB2 := hide ((unhide HBA).trans (hb2.mono (unhide HBA).size))
  clear EN hb2 HBA HB
  have HBA := hide ((unhide HB2).trans (((Below.refl w2.heap.size w2).alloc (Nat.le_refl _) (.cells #[.string ⟨#[]⟩, .string ⟨#[49]⟩] 50)).mono (unhide HB2).size))
  have EN := encode_any ⟨#[]⟩ 0 _ [f2] (by decide) (by decide) (by decide) f2_few _ (Rd.has1n (f := f2) (Reg.Has.new w2 [.string ⟨#[]⟩, .string ⟨#[49]⟩] 50)) ((unhide HR).below (unhide HBA))
  unfold EncO at EN
  rw [f2_chk, if_neg (by decide), show errI false = 4 from rfl] at EN
  replace EN := hide EN
  go_upto_region 5 with (go_at_call 22; refine (unhide EN).mono ?_; rintro e w3 ⟨rfl, hb3⟩)
  have HB3 := hide ((unhide HBA).trans (hb3.mono (unhide HBA).size))
  clear EN hb3 HBA HB2
  have EN := encode_any ⟨#[]⟩ 5 _ [] (by decide) (by decide) (by decide) ⟨by decide, fun f hf => by cases hf⟩ w3 (Rd.nil w3 2) ((unhide HR).below (unhide HB3))
  unfold EncO at EN
  rw [show ([] : List Fld).all chkS = true from rfl, if_pos rfl, show errI true = 0 from rfl, show (⟨#[]⟩ : ByteArray).data.toList = [] from rfl, enc3] at EN
  replace EN := hide EN
  go_upto_region 6 with (go_at_call 22; refine (unhide EN).mono ?_; rintro e w4 ⟨rfl, hb4⟩)
  have HB4 := hide ((unhide HB3).trans (hb4.mono (unhide HB3).size))
  clear EN hb4 HB3
  go_upto_region 7 with (first | (go_at_call 25; refine (roomy_any _).mono ?_; rintro e w5 ⟨rfl, hb5⟩) | (go_at_call 11; refine (new_any _ _ _ _ _).mono ?_; rintro e w6 ⟨rfl, h6, hb6⟩))
  have HB5 := hide ((unhide HB4).trans (hb5.mono (unhide HB4).size))
  have HB6 := hide ((unhide HB5).trans (hb6.mono (unhide HB5).size))
  have hle : w.heap.size ≤ w5.heap.size := (unhide HB5).size
  have hMl : 5 < w5.heap.size := Nat.lt_of_lt_of_le (unhide HM).lt hle
  have hs6 := hb6.size
  obtain ⟨⟨d2, n⟩, hf⟩ : ∃ r, feedS sizeF flF (newD 200 1000 30 1000) encT.data.toList = r := ⟨_, rfl⟩
  have q2 := nm_done
  have q3 := nm_body
  have q4 := nm_tr
  rw [hf] at q2 q3 q4
  simp only at q2 q3 q4
  have FE := hide (feedN_any w6 (w5.heap.size + 1) (newD 200 1000 30 1000) (.slice none 0 0) (.slice none 0 0) (.slice none 0 0) encT 0 w5.heap.size h6 (newD_ok _ _ _ _) (by decide) hs6 (by show (1000 : Nat) ≤ _; decide) ((unhide HM).below (unhide HB6)) hMl d2 n hf)
  have H6 := hide h6
  have Q2 := Lib.hid q2
  have Q3 := Lib.hid q3
  have Q4 := Lib.hid q4
  clear h6 hb5 hb6 hf q2 q3 q4 HB4 HB5
  generalize w5.heap.size = b5 at *
  go_upto_region 8 with (go_at_call 13; refine (unhide FE).mono ?_; rintro e w7 ⟨rfl, ln7, bd7, tr7, h7, m7⟩)
  have HD := hide h7
  have HB7 := hide ((unhide HB6).trans (m7.below (unhide H6) hle (unhide HB6).size))
  clear FE h7 m7 H6 HB6 hs6
  go_upto_region 9 with fail
  have HH := hide (Reg.Has.new w7 [.int .i64 12, .int .i64 12, .int .i64 1, .int .i64 3] 23)
  have hal := (Below.refl w7.heap.size w7).alloc (Nat.le_refl _) (.cells #[.int .i64 12, .int .i64 12, .int .i64 1, .int .i64 3] 23)
  have HD := hide ((unhide HD).call hal)
  have BW := hide ((unhide HB7).trans (hal.mono (unhide HB7).size))
  clear hal HB7
  generalize w7.alloc (.cells #[.int .i64 12, .int .i64 12, .int .i64 1, .int .i64 3] 23) = w8 at *
  generalize w7.heap.size = b8 at *
  have xst1 : ((statA ⟨#[52, 13, 10]⟩ : Nat) : Int) = 413 := by rw [st1]; rfl
  have xst2 : ((statA ⟨#[51, 13, 10, 97, 98, 99, 13, 10, 49, 13, 10]⟩ : Nat) : Int) = 413 := by rw [st2]; rfl
  have xst3 : ((statA ⟨#[51, 13, 10, 97, 98, 99, 100]⟩ : Nat) : Int) = 400 := by rw [st3]; rfl
  have xst4 : ((statA ⟨#[51, 10]⟩ : Nat) : Int) = 400 := by rw [st4]; rfl
  have xst5 : ((statA ⟨#[51, 13, 120]⟩ : Nat) : Int) = 400 := by rw [st5]; rfl
  have xst6 : ((statA ⟨#[51, 59, 120, 120, 120, 120, 120, 120, 120, 120, 120, 120, 120, 120]⟩ : Nat) : Int) = 400 := by rw [st6]; rfl
  have xst7 : ((statA ⟨#[48, 13, 10, 97, 58, 49, 13, 10, 98, 58, 50, 13, 10]⟩ : Nat) : Int) = 431 := by rw [st7]; rfl
  have xst8 : ((statA ⟨#[48, 13, 10, 58, 13, 10]⟩ : Nat) : Int) = 400 := by rw [st8]; rfl
  have xst9 : ((statA ⟨#[51, 13, 10, 97, 98]⟩ : Nat) : Int) = 0 := by rw [st9]; rfl
  have xa : ((sz1 ⟨#[49, 70, 59, 120, 61, 34, 121, 34]⟩ : Nat) : Int) = 31 := by rw [sA.1]; rfl
  have xb : ((sz2 ⟨#[49, 70, 59, 120, 61, 34, 121, 34]⟩ : Nat) : Int) = 0 := by rw [sA.2]; rfl
  have xc : ((sz2 ⟨#[]⟩ : Nat) : Int) = 400 := by rw [sB]; rfl
  have xd : ((sz2 ⟨#[49, 32]⟩ : Nat) : Int) = 400 := by rw [sC]; rfl
  have xe : ((sz2 ⟨#[48, 48, 48, 48, 48, 48, 48, 48, 48, 48, 48, 48, 48, 48, 48, 48, 49]⟩ : Nat) : Int) = 400 := by rw [sD]; rfl
  have xf : ((sz2 ⟨#[102, 102, 102, 102, 102, 102, 102, 102, 102, 102, 102, 102, 102, 102, 102]⟩ : Nat) : Int) = 413 := by rw [sE]; rfl
  have xq : ((d2.tr.length : Nat) : Int) = 1 := by rw [Q4.out]; rfl
  go_upto_region 14 with (go_at_call 18; refine (size_c _ (by decide) _).mono ?_; rintro e w9 ⟨rfl, hb⟩; have BW := hide ((unhide BW).trans (hb.mono (unhide BW).size)); have HD := hide ((unhide HD).call hb); have HH := hide ((unhide HH).call hb); clear hb)
  unfold encT
  go_wp2_with (first
    | (go_at_call 13; refine (feed_nil _ _).mono ?_; rintro e w10 ⟨rfl, hb⟩; have BW := hide ((unhide BW).trans (hb.mono (unhide BW).size)); have HD := hide ((unhide HD).call hb); have HH := hide ((unhide HH).call hb); clear hb)
    | (go_at_call 12; first | (have q := firstDone; refine (done_nil _).mono ?_; rintro e wq ⟨rfl, rfl⟩) | (have DC := done_any _ _ _ _ _ _ _ _ (unhide HD); rw [Q2.out] at DC; refine DC.mono ?_; clear DC; rintro e wq ⟨rfl, rfl⟩; have firstDone := True.intro))
    | (go_at_call 14; first | (have q := firstBody; refine (body_nil _).mono ?_; rintro e wq ⟨rfl, rfl⟩) | (have DC := body_any _ _ _ _ _ _ _ _ (unhide HD); rw [Q3.out, show ofL [97, 98, 99, 100, 101] = ⟨#[97, 98, 99, 100, 101]⟩ from rfl] at DC; refine DC.mono ?_; clear DC; rintro e wq ⟨rfl, rfl⟩; have firstBody := True.intro))
    | (go_at_call 20; refine (trailers_any _ _ _ _ _ _ _ _ (unhide HD) (by rw [Q4.out]; decide)).mono ?_; rintro e w11 ⟨vT, rfl, hrd, hb⟩; obtain ⟨aT, cT, rfl⟩ := hrd.form; clear hrd; have BW := hide ((unhide BW).trans (hb.mono (unhide BW).size)); have HD := hide ((unhide HD).call hb); have HH := hide ((unhide HH).call hb); clear hb; have l0 := (unhide HH).cell 0 _ rfl; have l1 := (unhide HH).cell 1 _ rfl; have l2 := (unhide HH).cell 2 _ rfl; have l3 := (unhide HH).cell 3 _ rfl)
    | (go_at_call 26; refine (status_any _ (by decide) _ ((unhide HM).below (unhide BW))).mono ?_; rintro e w12 ⟨rfl, hb⟩; have BW := hide ((unhide BW).trans (hb.mono (unhide BW).size)); have HD := hide ((unhide HD).call hb); have HH := hide ((unhide HH).call hb); clear hb; have l0 := (unhide HH).cell 0 _ rfl; have l1 := (unhide HH).cell 1 _ rfl; have l2 := (unhide HH).cell 2 _ rfl; have l3 := (unhide HH).cell 3 _ rfl))
  go_ret
  exact ⟨rfl, unhide BW⟩
end Go.Proofs.YtkaaeajidejchaaGreatDoor.Sp
end

/- Plain: the digits of a number; strconv.Itoa of any number. -/
section
namespace Go.Proofs.YtkaaeajidejchaaGreatDoor.Sp
open Go.RowKit

def decB (u : Nat) : ByteArray := ⟨(Lib.decDigits u).toArray⟩
def itoaB (n : Int) : ByteArray := ⟨(Lib.itoa n).toArray⟩
def tenB : ByteArray := ⟨#[48, 49, 50, 51, 52, 53, 54, 55, 56, 57]⟩
theorem dec_small (u : Nat) (h : u < 10) : tenB.extract u (u + 1) = decB u := by
  have h1 : ∀ i, i < 10 → (tenB.extract i (i + 1)).data.toList = Lib.decDigits i := by decide +kernel
  exact ba_eq (h1 u h)
theorem dec_more (u : Nat) (h : 10 ≤ u) : decB u = decB (u / 10) ++ decB (u % 10) := by
  have e : Lib.decDigits u = Lib.decDigits (u / 10) ++ Lib.decDigits (u % 10) := by
    conv => lhs; rw [Lib.decDigits, dif_neg (by omega)]
    have e2 : Lib.decDigits (u % 10) = [UInt8.ofNat (48 + u % 10)] := by rw [Lib.decDigits, dif_pos (by omega)]
    rw [e2]
  have h2 : (decB (u / 10) ++ decB (u % 10)).data.toList = Lib.decDigits u := by rw [app_data, e]; rfl
  exact (ba_eq h2).symm
theorem decB_size (u : Nat) : (decB u).size ≤ u + 1 := by
  have h : ∀ n u, u ≤ n → (Lib.decDigits u).length ≤ u + 1 := by
    intro n
    induction n with
    | zero => intro u hu; obtain rfl : u = 0 := by omega
              decide +kernel
    | succ n ih =>
      intro u hu
      rw [Lib.decDigits]
      split
      · simp
      · have := ih (u / 10) (by omega)
        rw [List.length_append]; simp; omega
  have := h u u (Nat.le_refl _)
  rw [show (decB u).size = (Lib.decDigits u).length from size_list rfl]
  exact this
theorem decB_20 (u : Nat) (h : u < 10000000000000000000) : (decB u).size ≤ 19 := by
  have step : ∀ (k u : Nat), u < 10 ^ k → 0 < k → (Lib.decDigits u).length ≤ k := by
    intro k
    induction k with
    | zero => intro u h h0; omega
    | succ k ih =>
      intro u h _
      rw [Lib.decDigits]
      split
      · simp
      · rcases Nat.eq_zero_or_pos k with h0 | h0
        · subst h0; simp at h; omega
        · have := ih (u / 10) (by rw [Nat.pow_succ] at h; omega) h0
          rw [List.length_append]; simp; omega
  rw [show (decB u).size = (Lib.decDigits u).length from size_list rfl]
  exact step 19 u h (by omega)

theorem itoa_size (n : Int) (h0 : -9223372036854775808 ≤ n) (h1 : n ≤ 9223372036854775807) : (itoaB n).size ≤ 20 := by
  rw [show (itoaB n).size = (Lib.itoa n).length from size_list rfl]
  unfold Lib.itoa
  split
  · have := decB_20 n.natAbs (by omega)
    rw [show (decB n.natAbs).size = (Lib.decDigits n.natAbs).length from size_list rfl] at this
    simp; omega
  · have := decB_20 n.toNat (by omega)
    rw [show (decB n.toNat).size = (Lib.decDigits n.toNat).length from size_list rfl] at this
    omega
theorem itoa_neg (n : Int) (h : n < 0) : (⟨#[45]⟩ : ByteArray) ++ decB n.natAbs = itoaB n := by
  unfold itoaB Lib.itoa
  rw [if_pos h]
  have : ((⟨#[45]⟩ : ByteArray) ++ decB n.natAbs).data.toList = 45 :: Lib.decDigits n.natAbs := by rw [app_data]; rfl
  exact ba_eq this
theorem itoa_pos (n : Int) (h : 0 ≤ n) : decB n.toNat = itoaB n := by
  unfold itoaB Lib.itoa
  rw [if_neg (by omega)]; rfl

/-! ### the table of powers of ten -/
abbrev Pow10 (w : World) : Prop := Lib.TabIs Tryz.prog w "internal/strconv.uint64pow10" .u64 Lib.pow10Tab
theorem Pow10.below {w w' : World} (h : Pow10 w) (hb : Below w.heap.size w w') : Pow10 w' := by
  have hgn : Tryz.prog.globalNamed "internal/strconv.uint64pow10" = some 2 := by kernel_rfl
  unfold Pow10 Lib.TabIs World.var? at h ⊢
  rw [hgn] at h ⊢
  simp only [Option.bind_some] at h ⊢
  have hlt : 2 < w.heap.size := by
    rcases Nat.lt_or_ge 2 w.heap.size with h' | h'
    · exact h'
    · rw [Array.getElem?_eq_none h'] at h; cases h
  rw [hb.block 2 hlt]
  exact h
theorem itoa_any (n : Int) (h0 : -9223372036854775808 ≤ n) (h1 : n ≤ 9223372036854775807) (w : World) (ht : Pow10 w) : Calls Tryz.prog 86 #[.int .i64 n] w fun e w' => e = .returned (.string (itoaB n)) ∧ Below w.heap.size w w' := by
  refine (Tryz.strconv_Itoa n h0 h1 w ht).mono ?_
  rintro e w' ⟨rfl, k, os, rfl⟩
  exact ⟨rfl, Lib.below_grow _ w (Nat.le_refl _) k os⟩
end Go.Proofs.YtkaaeajidejchaaGreatDoor.Sp
end

/- What a row's listed variables give: the table of powers of ten; the table of trailing zeros. -/
section
namespace Go.Proofs.YtkaaeajidejchaaGreatDoor.Sp
open Go.ChangeShapes Go.WideShapes Go.ChangeAt Go.RowKit

def pow10Row : List (String × DataW Unit) := [("internal/strconv.uint64pow10", Lib.tabData .u64 Lib.pow10Tab)]
theorem pow10_of {W : World} {l : List (String × DataW Unit)} (hl : (l.filter fun x => x.1 == "internal/strconv.uint64pow10") = pow10Row) (h : laidMet Tryz.prog l W) : Pow10 W := by
  have h2 := laidMet.filter (fun x => x.1 == "internal/strconv.uint64pow10") h
  rw [hl] at h2
  exact Lib.tabIs_of_head (g := 2) (by kernel_rfl) (by kernel_rfl) Tryz.underlying130 Tryz.underlying62 (by kernel_rfl) (by kernel_rfl) h2
def bruTab : List Int := Lib.deBruijn64tab.map Int.ofNat
def bruRow : List (String × DataW Unit) := [("math/bits.deBruijn64tab", Lib.tabData .u8 bruTab)]
theorem bru_of {W : World} {l : List (String × DataW Unit)} (hl : (l.filter fun x => x.1 == "math/bits.deBruijn64tab") = bruRow) (h : laidMet Tryz.prog l W) : Bru W := by
  have h2 := laidMet.filter (fun x => x.1 == "math/bits.deBruijn64tab") h
  rw [hl] at h2
  have h3 : Lib.TabIs Tryz.prog W "math/bits.deBruijn64tab" .u8 bruTab := Lib.tabIs_of_head (g := 4) (by kernel_rfl) (by kernel_rfl) Tryz.underlying179 Tryz.underlying5 (by kernel_rfl) (by kernel_rfl) h2
  exact h3.cell (g := 4) (by kernel_rfl) 15 (by decide)
end Go.Proofs.YtkaaeajidejchaaGreatDoor.Sp
end
