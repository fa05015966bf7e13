/- Lemmas for the statement's proof, several texts in one: Hx, L1, Ix, Frame. -/
import Derived.Test.YtkaaeajidejchaaGreatDoorZ01
import Derived.Test.YtkaaeajidejchaaGreatDoorZ03
import Derived.Test.YtkaaeajidejchaaGreatDoorZ09
import Derived.LaidSub
import Derived.LaidLaws
import Derived.Lib.TrailingZeros
import Derived.Lib.LaidTab
import Derived.ProofKit
import Derived.OpenShut
import Derived.Deep.SlicePairs
import Derived.SizedLaws
import Derived.Lib.SmallJoins
import Derived.ChangeSlices
import Derived.Test.YtkaaeajidejchaaGreatDoorRows
import Derived.WalkKit
import Derived.Below
import Derived.Carry
/- Numbers by sixteen: strconv.FormatInt at base 16 (below 4096), the reference's digits. -/
namespace Go.Proofs.YtkaaeajidejchaaGreatDoor.Sp
open Go.RowKit

/-- a digit by sixteen -/
def hxC (d : Nat) : UInt8 := if d < 10 then UInt8.ofNat (48 + d) else UInt8.ofNat (87 + d)
/-- a number's digits by sixteen (numbers below 4096) -/
def hxL (n : Nat) : List UInt8 := if n < 16 then [hxC n] else if n < 256 then [hxC (n / 16), hxC (n % 16)] else [hxC (n / 256), hxC (n / 16 % 16), hxC (n % 16)]
theorem hxL_len (n : Nat) : (hxL n).length ≤ 3 := by
  unfold hxL
  split
  · simp
  · split <;> simp
def Bru (w : World) : Prop := w.cell? ⟨4, 15, none⟩ = some (.int .u8 4)
theorem lt_cell {w : World} {a : Addr} {v : Value} (h : w.cell? a = some v) : a.block < w.heap.size := by
  rcases Nat.lt_or_ge a.block w.heap.size with h' | h'
  · exact h'
  · unfold World.cell? at h
    rw [Array.getElem?_eq_none h'] at h; cases h
theorem Bru.below {w w' : World} (h : Bru w) (hb : Below w.heap.size w w') : Bru w' := (hb.cell (lt_cell h)).trans h

set_option maxRecDepth 100000 in
theorem pow2_16 (w : World) : Calls Tryz.prog 91 #[.int .i64 16] w fun e w' => e = .returned (.bool true) ∧ w = w' := by
  go_enter Tryz.func91, Tryz.ntmps91
  go_wp2_with fail
  go_ret
  exact ⟨rfl, rfl⟩
set_option maxRecDepth 100000 in
theorem tz_16 (w : World) (h : Bru w) : Calls Tryz.prog 92 #[.int .u64 16] w fun e w' => e = .returned (.int .i64 4) ∧ w = w' := by
  unfold Bru at h
  have e1 : bits BinOp.and IntKind.u64 16 (IntKind.u64.wrap (-16)) = 16 := by kernel_rfl
  have e2 : IntKind.u64.wrap 4573923408821661840 = 4573923408821661840 := by kernel_rfl
  go_enter Tryz.func92, Tryz.ntmps92
  go_wp2
  go_ret
  exact ⟨rfl, rfl⟩
theorem text1 (b off cap : Nat) (c : UInt8) (w : World) (h : w.cell? ⟨b, off, none⟩ = some (.int .u8 c.toNat)) : (convert 56 9 (.slice (some ⟨b, off, none⟩) 1 cap)).run Tryz.prog w = .ok (.string ⟨#[c]⟩) w := by
  refine Mem.run_text (l := [c]) 56 5 9 Tryz.underlying56 Tryz.underlying5 Tryz.underlying9 b off cap (fun i v hv => ?_)
  rcases i with _ | i
  · simp [Mem.bytesV] at hv; subst hv; exact h
  · simp [Mem.bytesV] at hv
theorem text2 (b off cap : Nat) (c d : UInt8) (w : World) (h : w.cell? ⟨b, off, none⟩ = some (.int .u8 c.toNat)) (h1 : w.cell? ⟨b, off + 1, none⟩ = some (.int .u8 d.toNat)) : (convert 56 9 (.slice (some ⟨b, off, none⟩) 2 cap)).run Tryz.prog w = .ok (.string ⟨#[c, d]⟩) w := by
  refine Mem.run_text (l := [c, d]) 56 5 9 Tryz.underlying56 Tryz.underlying5 Tryz.underlying9 b off cap (fun i v hv => ?_)
  rcases i with _ | _ | i
  · simp [Mem.bytesV] at hv; subst hv; exact h
  · simp [Mem.bytesV] at hv; subst hv; exact h1
  · simp [Mem.bytesV] at hv
theorem text3 (b off cap : Nat) (c d e : UInt8) (w : World) (h : w.cell? ⟨b, off, none⟩ = some (.int .u8 c.toNat)) (h1 : w.cell? ⟨b, off + 1, none⟩ = some (.int .u8 d.toNat)) (h2 : w.cell? ⟨b, off + 2, none⟩ = some (.int .u8 e.toNat)) : (convert 56 9 (.slice (some ⟨b, off, none⟩) 3 cap)).run Tryz.prog w = .ok (.string ⟨#[c, d, e]⟩) w := by
  refine Mem.run_text (l := [c, d, e]) 56 5 9 Tryz.underlying56 Tryz.underlying5 Tryz.underlying9 b off cap (fun i v hv => ?_)
  rcases i with _ | _ | _ | i
  · simp [Mem.bytesV] at hv; subst hv; exact h
  · simp [Mem.bytesV] at hv; subst hv; exact h1
  · simp [Mem.bytesV] at hv; subst hv; exact h2
  · simp [Mem.bytesV] at hv
def dig36 : ByteArray := ⟨#[48, 49, 50, 51, 52, 53, 54, 55, 56, 57, 97, 98, 99, 100, 101, 102, 103, 104, 105, 106, 107, 108, 109, 110, 111, 112, 113, 114, 115, 116, 117, 118, 119, 120, 121, 122]⟩
theorem dig36_at (k : Nat) (h : k < 16) (w : World) : (Instr.index 9 (.string dig36) (.int .u64 k)).run Tryz.prog w = .ok (.int .u8 (hxC k).toNat) w := by
  have h1 : (0 : Int) ≤ (k : Int) ∧ (k : Int) < 36 := by omega
  have h2 : ∀ k : Fin 16, (dig36.data[k.val]!).toNat = (hxC k.val).toNat := by decide
  have h3 := h2 ⟨k, h⟩
  have h4 : k < dig36.data.size := by show k < 36; omega
  simp only at h3
  have h5 : dig36[k]? = some (hxC k) := by
    have e : dig36.data[k]! = hxC k := UInt8.toNat_inj.1 h3
    rw [getElem!_pos dig36.data k h4] at e
    have h6 : k < dig36.size := h4
    rw [getElem?_pos dig36 k h6]
    exact congrArg some e
  have h7 : ((dig36.size : Nat) : Int) = 36 := rfl
  generalize dig36 = D at h5 h7 ⊢
  simp [Instr.index, run_underlying Tryz.underlying9, asIntOf, part, go_sem, h1, h5, h7]
theorem and15 (n : Nat) (h : n < 4096) : bits BinOp.and IntKind.u64 (n : Int) 15 = ((n % 16 : Nat) : Int) := by
  have := bits_and_u64_nat n 15 (by omega) (by omega)
  rw [show ((15 : Nat) : Int) = 15 from rfl] at this
  rw [this]
  congr 1
  exact Nat.and_two_pow_sub_one_eq_mod n 4

set_option maxRecDepth 100000 in
set_option maxHeartbeats 4000000 in
theorem fbits_any (n : Nat) (hn : n < 4096) (w : World) (hT : Bru w) :
    Calls Tryz.prog 75 #[.slice none 0 0, .int .u64 n, .int .i64 16, .bool false, .bool false] w fun e w' => e = .returned (.tuple #[.slice none 0 0, .string (⟨(hxL n).toArray⟩)]) ∧ Below w.heap.size w w' := by
  have HT := hide hT
  clear hT
  go_enter Tryz.func75, Tryz.ntmps75
  go_wp2_with (first
    | (go_at_call 91; refine (pow2_16 _).mono ?_; rintro e w2 ⟨rfl, rfl⟩)
    | (go_at_call 92; refine (tz_16 _ ((unhide HT).below ((Below.refl w.heap.size w).alloc (Nat.le_refl _) _))).mono ?_; rintro e w3 ⟨rfl, rfl⟩))
  have HH := hide (Reg.Has.new w (List.replicate 65 (Value.int IntKind.u8 0)) 131)
  go_loopw [1, 13] (fun u i wr => ∃ (k m : Nat) (xs : List Value), u = .int .u64 m ∧ i = .int .i64 ((65 - k : Nat) : Int) ∧ xs.length = 65 ∧ Reg.Has wr w.heap.size xs ∧ Below w.heap.size w wr ∧ ((k = 0 ∧ m = n) ∨ (k = 1 ∧ 16 ≤ n ∧ m = n / 16 ∧ xs[64]? = some (.int .u8 (hxC (n % 16)).toNat)) ∨ (k = 2 ∧ 256 ≤ n ∧ m = n / 256 ∧ xs[63]? = some (.int .u8 (hxC (n / 16 % 16)).toNat) ∧ xs[64]? = some (.int .u8 (hxC (n % 16)).toNat)))) (fun u i _ => (intOf i).toNat)
  case atStart => exact ⟨0, n, List.replicate 65 (Value.int IntKind.u8 0), rfl, rfl, by simp, unhide HH, (Below.refl w.heap.size w).alloc (Nat.le_refl _) _, .inl ⟨rfl, rfl⟩⟩
  case round =>
    obtain ⟨k, m, xs, rfl, rfl, hlen, hhas, hbel, hcase⟩ := hrel
    have hc := fun i (h : i < 65) => hhas.cell i xs[i] (by simp [hlen, h])
    have hf := fun i (h : i < 65) => hhas.free i (by omega)
    have HHa := hide hhas
    have HBe := hide hbel
    have hm4 : m < 4096 := by rcases hcase with ⟨-, e⟩ | ⟨-, -, e, -⟩ | ⟨-, -, e, -⟩ <;> omega
    have ha := and15 m hm4
    clear hhas hbel
    rcases Nat.lt_or_ge m 16 with hm | hm
    · have hx2 := fun w => dig36_at m hm w
      unfold dig36 at hx2
      clear ha
      obtain ⟨x, hx⟩ : ∃ x, hxC m = x := ⟨_, rfl⟩
      rw [hx] at hx2
      rcases hcase with ⟨rfl, e⟩ | ⟨rfl, hn1, e, g1⟩ | ⟨rfl, hn1, e, g1, g2⟩
      · have c64 := hc 64 (by omega)
        have f64 := hf 64 (by omega)
        have cv := fun w' => text1 w.heap.size 64 1 x w'
        have HE := Lib.hid (show hxL n = [x] by unfold hxL; rw [if_pos (by omega), ← hx, e])
        clear hf hc e hx
        go_wp2_with fail
        go_ret2
        exact ⟨by rw [HE.out]; rfl, (unhide HBe).setCell (Nat.le_refl _) _⟩
      · have c64 := (unhide HHa).cell 64 _ g1
        have c63 := hc 63 (by omega)
        have f63 := hf 63 (by omega)
        obtain ⟨y, hy⟩ : ∃ y, hxC (n % 16) = y := ⟨_, rfl⟩
        rw [hy] at c64
        have cv := fun w' => text2 w.heap.size 63 2 x y w'
        have HE := Lib.hid (show hxL n = [x, y] by unfold hxL; rw [if_neg (by omega), if_pos (by omega), ← hx, ← hy, e])
        clear hf hc g1 e hx hy
        go_wp2_with fail
        go_ret2
        exact ⟨by rw [HE.out]; rfl, (unhide HBe).setCell (Nat.le_refl _) _⟩
      · have c64 := (unhide HHa).cell 64 _ g2
        have c63 := (unhide HHa).cell 63 _ g1
        have c62 := hc 62 (by omega)
        have f62 := hf 62 (by omega)
        obtain ⟨y, hy⟩ : ∃ y, hxC (n / 16 % 16) = y := ⟨_, rfl⟩
        obtain ⟨z, hz⟩ : ∃ y, hxC (n % 16) = y := ⟨_, rfl⟩
        rw [hy] at c63
        rw [hz] at c64
        have cv := fun w' => text3 w.heap.size 62 3 x y z w'
        have HE := Lib.hid (show hxL n = [x, y, z] by unfold hxL; rw [if_neg (by omega), if_neg (by omega), ← hx, ← hy, ← hz, e])
        clear hf hc g1 g2 e hx hy hz
        go_wp2_with fail
        go_ret2
        exact ⟨by rw [HE.out]; rfl, (unhide HBe).setCell (Nat.le_refl _) _⟩
    · have hx1 := fun w => dig36_at (m % 16) (by omega) w
      unfold dig36 at hx1
      obtain ⟨x, hx⟩ : ∃ x, hxC (m % 16) = x := ⟨_, rfl⟩
      rw [hx] at hx1
      obtain ⟨q, hq⟩ : ∃ q, m % 16 = q := ⟨_, rfl⟩
      rw [hq] at hx1 ha hx
      have hq16 : q < 16 := by omega
      rcases hcase with ⟨rfl, e⟩ | ⟨rfl, hn1, e, g1⟩ | ⟨rfl, hn1, e, g1, g2⟩
      · have c64 := hc 64 (by omega)
        have f64 := hf 64 (by omega)
        have HE := Lib.hid (show m / 16 = n / 16 by rw [e])
        have HX := Lib.hid (show x = hxC (n % 16) by rw [← hx, ← hq, e])
        have hn16 : 16 ≤ n := by omega
        clear hf hc e hx hq
        go_wp2_with fail
        go_roundw
        case rel => exact ⟨1, m / 16, xs.set 64 (.int .u8 x.toNat), by go_num, by go_num, by simp [hlen], (unhide HHa).put 64 _, (unhide HBe).setCell (Nat.le_refl _) _, .inr (.inl ⟨rfl, hn16, HE.out, by rw [← HX.out]; simp [hlen]⟩)⟩
        case measure => simp [intOf]
      · have c63 := hc 63 (by omega)
        have f63 := hf 63 (by omega)
        have HE := Lib.hid (show m / 16 = n / 256 by omega)
        have HX := Lib.hid (show x = hxC (n / 16 % 16) by rw [← hx, ← hq, e])
        have hn256 : 256 ≤ n := by omega
        clear hf hc e hx hq
        go_wp2_with fail
        go_roundw
        case rel => exact ⟨2, m / 16, xs.set 63 (.int .u8 x.toNat), by go_num, by go_num, by simp [hlen], (unhide HHa).put 63 _, (unhide HBe).setCell (Nat.le_refl _) _, .inr (.inr ⟨rfl, hn256, HE.out, by rw [← HX.out]; simp [hlen], by rw [List.getElem?_set_ne (by omega)]; exact g1⟩)⟩
        case measure => simp [intOf]
      · omega
def hxB (n : Nat) : ByteArray := ⟨(hxL n).toArray⟩
theorem hxB_size (n : Nat) : (hxB n).size ≤ 3 := by
  have := hxL_len n
  show (hxL n).toArray.size ≤ 3
  simpa using this
theorem hxB_data (n : Nat) : (hxB n).data.toList = hxL n := rfl
set_option maxRecDepth 100000 in
set_option maxHeartbeats 2000000 in
theorem fmtI_any (n : Nat) (hn : n < 4096) (w : World) (hT : Bru w) :
    Calls Tryz.prog 53 #[.int .i64 n, .int .i64 16] w fun e w' => e = .returned (.string (hxB n)) ∧ Below w.heap.size w w' := by
  have c1 := hide (fbits_any n hn w hT)
  have hw : IntKind.u64.wrap (n : Int) = n := by
    rw [IntKind.wrap_u64]; omega
  clear hT
  go_enter Tryz.func53, Tryz.ntmps53
  go_wp2_with fail
  refine (unhide c1).mono ?_; rintro e w1 ⟨rfl, hb1⟩
  go_wp2_with fail
  go_ret
  exact ⟨rfl, hb1⟩
set_option maxRecDepth 100000 in
set_option maxHeartbeats 2000000 in
theorem fmt16_any (n : Nat) (hn : n < 4096) (w : World) (hT : Bru w) :
    Calls Tryz.prog 35 #[.int .i64 n, .int .i64 16] w fun e w' => e = .returned (.string (hxB n)) ∧ Below w.heap.size w w' := by
  have c1 := hide (fmtI_any n hn w hT)
  clear hT
  go_enter Tryz.func35, Tryz.ntmps35
  go_wp2_with fail
  refine (unhide c1).mono ?_; rintro e w1 ⟨rfl, hb1⟩
  go_wp2_with fail
  go_ret
  exact ⟨rfl, hb1⟩
def hex16 : ByteArray := ⟨#[48, 49, 50, 51, 52, 53, 54, 55, 56, 57, 97, 98, 99, 100, 101, 102]⟩
theorem hex16_at (k : Nat) (h : k < 16) : hex16.extract k (k + 1) = ⟨#[hxC k]⟩ := by
  have h1 : ∀ k : Fin 16, (hex16.extract k.val (k.val + 1)).data.toList = [hxC k.val] := by decide +kernel
  have := h1 ⟨k, h⟩
  exact ba_eq this
set_option maxRecDepth 100000 in
set_option maxHeartbeats 2000000 in
theorem rdigits_any (n : Nat) (hn : n < 4096) (w : World) :
    Calls Tryz.prog 38 #[.int .i64 n] w fun e w' => e = .returned (.string (hxB n)) ∧ w = w' := by
  go_enter Tryz.func38, Tryz.ntmps38
  go_wp2_with fail
  go_loop [0, 3] (fun u o => ∃ (k m : Nat) (x : ByteArray), u = .int .i64 m ∧ o = .string x ∧ x.size = k ∧ ((k = 0 ∧ m = n) ∨ (k = 1 ∧ 16 ≤ n ∧ m = n / 16 ∧ x.data.toList = [hxC (n % 16)]) ∨ (k = 2 ∧ 256 ≤ n ∧ m = n / 256 ∧ x.data.toList = [hxC (n / 16 % 16), hxC (n % 16)]))) (fun u _ => (intOf u).toNat)
  case atStart => exact ⟨0, n, ⟨#[]⟩, rfl, rfl, rfl, .inl ⟨rfl, rfl⟩⟩
  case round =>
    obtain ⟨k, m, x, rfl, rfl, hx, hcase⟩ := hrel
    have hx3 : x.size ≤ 3 := by rcases hcase with ⟨e, -⟩ | ⟨e, -⟩ | ⟨e, -⟩ <;> omega
    have HC := hide hcase
    clear hcase
    have HE := Lib.hid (hex16_at (m % 16) (by omega))
    obtain ⟨a, ha⟩ : ∃ a, m / 16 = a := ⟨_, rfl⟩
    obtain ⟨b, hb⟩ : ∃ b, m % 16 = b := ⟨_, rfl⟩
    have hd : Int.tdiv (m : Int) 16 = (a : Int) := by rw [Int.tdiv_eq_ediv_of_nonneg (by omega)]; omega
    have hr : Int.tmod (m : Int) 16 = (b : Int) := by rw [Int.tmod_eq_emod_of_nonneg (by omega)]; omega
    have hd2 : (m : Int) / 16 = (a : Int) := by omega
    have hr2 : (m : Int) % 16 = (b : Int) := by omega
    have hb16 : b < 16 := by omega
    rw [hb] at HE
    unfold hex16 at HE
    have HA := Lib.hid ha
    have HB := Lib.hid hb
    clear ha hb
    obtain ⟨c, hc⟩ : ∃ c, hxC b = c := ⟨_, rfl⟩
    rw [hc] at HE
    have HHC := Lib.hid hc
    clear hc
    have hm4 : m < 4096 := by rcases unhide HC with ⟨-, e⟩ | ⟨-, -, e, -⟩ | ⟨-, -, e, -⟩ <;> omega
    have ha4 : a < 256 := by have := HA.out; omega
    have hw : wrap64 (a : Int) = a := by unfold wrap64; omega
    rcases Nat.eq_zero_or_pos a with h0 | h0
    · subst h0
      go_wp2_with fail
      go_ret
      refine ⟨?_, rfl⟩
      rw [HE.out]
      refine congrArg (fun x => Ending.returned (.string x)) (ba_eq ?_)
      rw [app_data]
      have h1 := HA.out
      have h2 := HB.out
      have h3 := HHC.out
      unfold hxL
      rcases unhide HC with ⟨e0, e⟩ | ⟨e0, e1, e, e2⟩ | ⟨e0, e1, e, e2⟩
      · rw [if_pos (by omega)]
        have : x.data.toList = [] := List.eq_nil_of_length_eq_zero (by rw [← e0, ← hx]; simp)
        rw [this, ← h3, ← h2, ← e, Nat.mod_eq_of_lt (by omega)]; rfl
      · rw [if_neg (by omega), if_pos (by omega), e2, ← h3, ← h2, e, Nat.mod_eq_of_lt (by omega)]; rfl
      · rw [if_neg (by omega), if_neg (by omega), e2, ← h3, ← h2, e, Nat.mod_eq_of_lt (by omega)]; rfl
    · have h0b : decide ((a : Int) = 0) = false := decide_eq_false (by omega)
      go_wp2_with fail
      refine ⟨⟨k + 1, a, ⟨#[c]⟩ ++ x, by go_num, by rw [HE.out], by rw [ByteArray.size_append]; show 1 + x.size = k + 1; omega, ?_⟩, ?_⟩
      · have h1 := HA.out
        have h2 := HB.out
        have h3 := HHC.out
        rcases unhide HC with ⟨e0, e⟩ | ⟨e0, e1, e, e2⟩ | ⟨e0, e1, e, e2⟩
        · refine .inr (.inl ⟨by omega, by omega, by omega, ?_⟩)
          have : x.data.toList = [] := List.eq_nil_of_length_eq_zero (by rw [← e0, ← hx]; simp)
          rw [app_data, this, ← h3, ← h2, ← e]; rfl
        · refine .inr (.inr ⟨by omega, by omega, by omega, ?_⟩)
          rw [app_data, e2, ← h3, ← h2, e]; rfl
        · omega
      · simp [intOf, hw]; have := HA.out; omega
end Go.Proofs.YtkaaeajidejchaaGreatDoor.Sp

/- What a row's listed variables give: the table of powers of ten; the table of trailing zeros. -/
namespace Go.Proofs.YtkaaeajidejchaaGreatDoor.Sp
open Go.ChangeShapes Go.WideShapes Go.ChangeAt Go.RowKit

def pow10Row : List (String × DataW Unit) := [("internal/strconv.uint64pow10", Lib.tabData .u64 Lib.pow10Tab)]
theorem pow10_of {W : World} {l : List (String × DataW Unit)} (hl : (l.filter fun x => x.1 == "internal/strconv.uint64pow10") = pow10Row) (h : laidMet Tryz.prog l W) : Pow10 W := by
  have h2 := laidMet.filter (fun x => x.1 == "internal/strconv.uint64pow10") h
  rw [hl] at h2
  exact Lib.tabIs_of_head (g := 2) (by kernel_rfl) (by kernel_rfl) Tryz.underlying130 Tryz.underlying62 (by kernel_rfl) (by kernel_rfl) h2
def bruTab : List Int := Lib.deBruijn64tab.map Int.ofNat
def bruRow : List (String × DataW Unit) := [("math/bits.deBruijn64tab", Lib.tabData .u8 bruTab)]
theorem bru_of {W : World} {l : List (String × DataW Unit)} (hl : (l.filter fun x => x.1 == "math/bits.deBruijn64tab") = bruRow) (h : laidMet Tryz.prog l W) : Bru W := by
  have h2 := laidMet.filter (fun x => x.1 == "math/bits.deBruijn64tab") h
  rw [hl] at h2
  have h3 : Lib.TabIs Tryz.prog W "math/bits.deBruijn64tab" .u8 bruTab := Lib.tabIs_of_head (g := 4) (by kernel_rfl) (by kernel_rfl) Tryz.underlying179 Tryz.underlying5 (by kernel_rfl) (by kernel_rfl) h2
  exact h3.cell (g := 4) (by kernel_rfl) 15 (by decide)
end Go.Proofs.YtkaaeajidejchaaGreatDoor.Sp

/- A slice of numbers that came in is opened. -/
namespace Go.Proofs.YtkaaeajidejchaaGreatDoor.Sp
open Go.ChangeShapes Go.WideShapes Go.ChangeAt Go.RowKit Go.Deep Sl Go.Joins

set_option maxRecDepth 100000 in
theorem ints_of {H : Type} {enc : TypeId × Value → H} {W : World} {b0 : Nat} {v : Value} {d : DataW H} {p : List MemPlace} (hv : Value.okWide Tryz.prog W .any b0 39 v)
    (h : DataW.Trod enc Tryz.prog W 0 (fun _ => true) true 39 v d p) :
    ∃ A : List Int, A.length ≤ 9223372036854775807 ∧ Rd W v A.length 1 (intV A) := by
  obtain ⟨ao, ln, cp, rfl⟩ := okWide_slice Tryz.underlying39 hv
  obtain ⟨fuel, hf⟩ := h
  have hf' : DataW.trod enc Tryz.prog W 0 (fun _ => true) true fuel 39 [.slice ao ln cp] = some (d, p) := hf
  rcases open_ints Tryz.underlying39 Tryz.underlying3 (by kernel_rfl) hf' with ⟨hcs, _⟩ | ⟨a, len, cap, zs, hcs, _, hlc, hm, hzl, hx, hi, _⟩
  · simp at hcs
    obtain ⟨rfl, rfl, rfl⟩ := hcs
    exact ⟨[], by simp, Rd.nil W 1⟩
  · simp at hcs
    obtain ⟨rfl, rfl, rfl⟩ := hcs
    simp only [if_true] at hzl
    have htl : (zs.take ln).length = ln := by rw [List.length_take]; omega
    refine ⟨zs.take ln, by rw [htl]; unfold maxLen at hm; omega, ?_⟩
    refine ⟨some a, cp, by rw [htl], by rw [htl]; exact hlc, (fun h => by cases h), by simp [intV], fun hne => ?_⟩
    have hpos : 0 < ln := by
      rcases Nat.eq_zero_or_pos ln with h0 | h0
      · subst h0; simp [intV] at hne
      · exact h0
    have h0 := hi 0 (by omega)
    obtain ⟨b, off, spot⟩ := a
    have hspot : spot = none := by simpa [Addr.add] using World.cell?_spot h0
    subst hspot
    refine ⟨b, off, rfl, by have := World.block_lt_of_cell? W _ h0; simpa [Addr.add] using this, fun i u hu => ?_⟩
    have hil : i < (zs.take ln).length := by
      have := (List.getElem?_eq_some_iff.1 hu).1
      simpa [intV] using this
    rw [intV_get _ i hil] at hu
    cases hu
    have hh := hi i (by omega)
    rw [Addr.add_mid] at hh
    have e : (zs.take ln)[i] = zs.getD i 0 := by rw [List.getElem_take, List.getD_eq_getElem?_getD, List.getElem?_eq_getElem (by omega)]; rfl
    rw [e]
    simpa using hh
end Go.Proofs.YtkaaeajidejchaaGreatDoor.Sp

/- The frame of a law's row: what a law leaves behind (it returns true, has made memory, and changed nothing that was there) is what the row asks. -/
namespace Go.Proofs.YtkaaeajidejchaaGreatDoor.Frame
open Go.ChangeShapes Go.WideShapes Go.ChangeAt Go.RowKit
variable {H : Type} {enc : TypeId × Value → H} {P : Program}

/-- What was read of the arguments reads so still. -/
theorem args_stay (hl : laidOutB P = true) {W W' : World} (hb : Below W.heap.size W W') : ∀ (ts : List TypeId) (vs : List Value) (ds : List (DataW H)) (ps : List MemPlace),
    (∀ t ∈ ts, P.readableRec t = true ∧ t < P.types.size) → DataW.TrodAll enc P W 0 (fun _ => true) true ts vs ds ps → (∀ x ∈ ps, x.block < W.heap.size) →
    DataW.TrodAll enc P W' 0 (fun b => decide (b < W.heap.size)) true ts vs ds ps
  | [], vs, ds, ps, _, h, _ => by
    obtain ⟨rfl, rfl, rfl⟩ := trodAll_nil h
    exact trodAll_mk0
  | t :: ts, vs, ds, ps, hts, h, hlt => by
    obtain ⟨v, vs', d, ds', p, q, rfl, rfl, rfl, h0, hr⟩ := trodAll_cons h
    refine trodAll_cons_mk ?_ (args_stay hl hb ts vs' ds' q (fun t ht => hts t (List.mem_cons_of_mem _ ht)) hr (fun x hx => hlt x (List.mem_append.2 (.inr hx))))
    have ht := hts t (List.mem_cons.2 (.inl rfl))
    exact Below.trod hl ht.1 ht.2 h0 hb (fun x hx => hlt x (List.mem_append.2 (.inl hx)))

/-- THE FRAME. -/
theorem law_post {f : Func} {s : ChangeSpec} {W W' : World} {args : Array Value} {ds gs : List (DataW H)} {before : List MemPlace} {tb : TypeId}
    (hW : DataW.Whole enc P f.params.toList s.vars false W args.toList ds gs before) (hvars : s.vars = []) (hl : laidOutB P = true) (hts : ∀ t ∈ f.params.toList, P.readableRec t = true ∧ t < P.types.size)
    (hrt : f.resultTypes = #[tb]) (htb : P.underlying tb = some .bool) (hres : (s.fn H ds).results = [.lit (.bool true)]) (hargs : (s.fn H ds).args = ds) (hvs : (s.fn H ds).vars = []) (hb : Below W.heap.size W W') :
    s.post enc P f false true false false W args (.bool true) W' := by
  have hlt := hW.lt
  have hW' := hW
  obtain ⟨p, q, hA, hV, rfl, hfz, hnd⟩ := hW
  rw [hvars] at hV
  obtain ⟨rfl, rfl⟩ := trodVars_none hV
  refine ⟨ds, [], p ++ [], [], p, [], hW', ?_, ?_, ?_, hb.frame _, fun h => by cases h⟩
  · rw [List.append_nil, hres, hrt]
    exact trodAll_cons_mk (shut_bool htb _) trodAll_mk0
  · rw [List.append_nil, hargs]
    exact args_stay hl hb _ _ _ _ hts hA (fun x hx => hlt x (List.mem_append.2 (.inl hx)))
  · rw [hvars, List.append_nil, hvs]
    exact rfl
end Go.Proofs.YtkaaeajidejchaaGreatDoor.Frame
