/- Lemmas for the statement's proof, several texts in one: Hx, Ck, M4, M5, C14, C15, C16, M6, M7. -/
import Derived.Test.YtbpopmbabckojaaGreatDoorZ01
import Derived.Test.YtbpopmbabckojaaGreatDoorZ07
import Derived.Test.YtbpopmbabckojaaGreatDoorZ08
import Derived.Test.YtbpopmbabckojaaGreatDoorZ06
/- Numbers by sixteen: strconv.FormatInt at base 16 (below 4096), the reference's digits. -/
namespace Go.Proofs.YtbpopmbabckojaaGreatDoor.Sp
open Go.RowKit

/-- a digit by sixteen -/
def hxC (d : Nat) : UInt8 := if d < 10 then UInt8.ofNat (48 + d) else UInt8.ofNat (87 + d)
/-- a number's digits by sixteen (numbers below 4096) -/
def hxL (n : Nat) : List UInt8 := if n < 16 then [hxC n] else if n < 256 then [hxC (n / 16), hxC (n % 16)] else [hxC (n / 256), hxC (n / 16 % 16), hxC (n % 16)]
theorem hxL_len (n : Nat) : (hxL n).length ≤ 3 := by
  unfold hxL
  split
  · simp
  · split <;> simp
def Bru (w : World) : Prop := w.cell? ⟨3, 15, none⟩ = some (.int .u8 4)
theorem lt_cell {w : World} {a : Addr} {v : Value} (h : w.cell? a = some v) : a.block < w.heap.size := by
  rcases Nat.lt_or_ge a.block w.heap.size with h' | h'
  · exact h'
  · unfold World.cell? at h
    rw [Array.getElem?_eq_none h'] at h; cases h
theorem Bru.below {w w' : World} (h : Bru w) (hb : Below w.heap.size w w') : Bru w' := (hb.cell (lt_cell h)).trans h

set_option maxRecDepth 100000 in
theorem pow2_16 (w : World) : Calls Tryz.prog 122 #[.int .i64 16] w fun e w' => e = .returned (.bool true) ∧ w = w' := by
  go_enter Tryz.func122, Tryz.ntmps122
  go_wp2_with fail
  go_ret
  exact ⟨rfl, rfl⟩
set_option maxRecDepth 100000 in
theorem tz_16 (w : World) (h : Bru w) : Calls Tryz.prog 123 #[.int .u64 16] w fun e w' => e = .returned (.int .i64 4) ∧ w = w' := by
  unfold Bru at h
  have e1 : bits BinOp.and IntKind.u64 16 (IntKind.u64.wrap (-16)) = 16 := by kernel_rfl
  have e2 : IntKind.u64.wrap 4573923408821661840 = 4573923408821661840 := by kernel_rfl
  go_enter Tryz.func123, Tryz.ntmps123
  go_wp2
  go_ret
  exact ⟨rfl, rfl⟩
theorem text1 (b off cap : Nat) (c : UInt8) (w : World) (h : w.cell? ⟨b, off, none⟩ = some (.int .u8 c.toNat)) : (convert 66 9 (.slice (some ⟨b, off, none⟩) 1 cap)).run Tryz.prog w = .ok (.string ⟨#[c]⟩) w := by
  refine Mem.run_text (l := [c]) 66 5 9 Tryz.underlying66 Tryz.underlying5 Tryz.underlying9 b off cap (fun i v hv => ?_)
  rcases i with _ | i
  · simp [Mem.bytesV] at hv; subst hv; exact h
  · simp [Mem.bytesV] at hv
theorem text2 (b off cap : Nat) (c d : UInt8) (w : World) (h : w.cell? ⟨b, off, none⟩ = some (.int .u8 c.toNat)) (h1 : w.cell? ⟨b, off + 1, none⟩ = some (.int .u8 d.toNat)) : (convert 66 9 (.slice (some ⟨b, off, none⟩) 2 cap)).run Tryz.prog w = .ok (.string ⟨#[c, d]⟩) w := by
  refine Mem.run_text (l := [c, d]) 66 5 9 Tryz.underlying66 Tryz.underlying5 Tryz.underlying9 b off cap (fun i v hv => ?_)
  rcases i with _ | _ | i
  · simp [Mem.bytesV] at hv; subst hv; exact h
  · simp [Mem.bytesV] at hv; subst hv; exact h1
  · simp [Mem.bytesV] at hv
theorem text3 (b off cap : Nat) (c d e : UInt8) (w : World) (h : w.cell? ⟨b, off, none⟩ = some (.int .u8 c.toNat)) (h1 : w.cell? ⟨b, off + 1, none⟩ = some (.int .u8 d.toNat)) (h2 : w.cell? ⟨b, off + 2, none⟩ = some (.int .u8 e.toNat)) : (convert 66 9 (.slice (some ⟨b, off, none⟩) 3 cap)).run Tryz.prog w = .ok (.string ⟨#[c, d, e]⟩) w := by
  refine Mem.run_text (l := [c, d, e]) 66 5 9 Tryz.underlying66 Tryz.underlying5 Tryz.underlying9 b off cap (fun i v hv => ?_)
  rcases i with _ | _ | _ | i
  · simp [Mem.bytesV] at hv; subst hv; exact h
  · simp [Mem.bytesV] at hv; subst hv; exact h1
  · simp [Mem.bytesV] at hv; subst hv; exact h2
  · simp [Mem.bytesV] at hv
def dig36 : ByteArray := ⟨#[48, 49, 50, 51, 52, 53, 54, 55, 56, 57, 97, 98, 99, 100, 101, 102, 103, 104, 105, 106, 107, 108, 109, 110, 111, 112, 113, 114, 115, 116, 117, 118, 119, 120, 121, 122]⟩
theorem dig36_at (k : Nat) (h : k < 16) (w : World) : (Instr.index 9 (.string dig36) (.int .u64 k)).run Tryz.prog w = .ok (.int .u8 (hxC k).toNat) w := by
  have h1 : (0 : Int) ≤ (k : Int) ∧ (k : Int) < 36 := by omega
  have h2 : ∀ k : Fin 16, (dig36.data[k.val]!).toNat = (hxC k.val).toNat := by decide
  have h3 := h2 ⟨k, h⟩
  have h4 : k < dig36.data.size := by show k < 36; omega
  simp only at h3
  have h5 : dig36[k]? = some (hxC k) := by
    have e : dig36.data[k]! = hxC k := UInt8.toNat_inj.1 h3
    rw [getElem!_pos dig36.data k h4] at e
    have h6 : k < dig36.size := h4
    rw [getElem?_pos dig36 k h6]
    exact congrArg some e
  have h7 : ((dig36.size : Nat) : Int) = 36 := rfl
  generalize dig36 = D at h5 h7 ⊢
  simp [Instr.index, run_underlying Tryz.underlying9, asIntOf, part, go_sem, h1, h5, h7]
theorem and15 (n : Nat) (h : n < 4096) : bits BinOp.and IntKind.u64 (n : Int) 15 = ((n % 16 : Nat) : Int) := by
  have := bits_and_u64_nat n 15 (by omega) (by omega)
  rw [show ((15 : Nat) : Int) = 15 from rfl] at this
  rw [this]
  congr 1
  exact Nat.and_two_pow_sub_one_eq_mod n 4

set_option maxRecDepth 100000 in
set_option maxHeartbeats 4000000 in
theorem fbits_any (n : Nat) (hn : n < 4096) (w : World) (hT : Bru w) :
    Calls Tryz.prog 103 #[.slice none 0 0, .int .u64 n, .int .i64 16, .bool false, .bool false] w fun e w' => e = .returned (.tuple #[.slice none 0 0, .string (⟨(hxL n).toArray⟩)]) ∧ Below w.heap.size w w' := by
  have HT := hide hT
  clear hT
  go_enter Tryz.func103, Tryz.ntmps103
  go_wp2_with (first
    | (go_at_call 122; refine (pow2_16 _).mono ?_; rintro e w2 ⟨rfl, rfl⟩)
    | (go_at_call 123; refine (tz_16 _ ((unhide HT).below ((Below.refl w.heap.size w).alloc (Nat.le_refl _) _))).mono ?_; rintro e w3 ⟨rfl, rfl⟩))
  have HH := hide (Reg.Has.new w (List.replicate 65 (Value.int IntKind.u8 0)) 141)
  go_loopw [1, 13] (fun u i wr => ∃ (k m : Nat) (xs : List Value), u = .int .u64 m ∧ i = .int .i64 ((65 - k : Nat) : Int) ∧ xs.length = 65 ∧ Reg.Has wr w.heap.size xs ∧ Below w.heap.size w wr ∧ ((k = 0 ∧ m = n) ∨ (k = 1 ∧ 16 ≤ n ∧ m = n / 16 ∧ xs[64]? = some (.int .u8 (hxC (n % 16)).toNat)) ∨ (k = 2 ∧ 256 ≤ n ∧ m = n / 256 ∧ xs[63]? = some (.int .u8 (hxC (n / 16 % 16)).toNat) ∧ xs[64]? = some (.int .u8 (hxC (n % 16)).toNat)))) (fun u i _ => (intOf i).toNat)
  case atStart => exact ⟨0, n, List.replicate 65 (Value.int IntKind.u8 0), rfl, rfl, by simp, unhide HH, (Below.refl w.heap.size w).alloc (Nat.le_refl _) _, .inl ⟨rfl, rfl⟩⟩
  case round =>
    obtain ⟨k, m, xs, rfl, rfl, hlen, hhas, hbel, hcase⟩ := hrel
    have hc := fun i (h : i < 65) => hhas.cell i xs[i] (by simp [hlen, h])
    have hf := fun i (h : i < 65) => hhas.free i (by omega)
    have HHa := hide hhas
    have HBe := hide hbel
    have hm4 : m < 4096 := by rcases hcase with ⟨-, e⟩ | ⟨-, -, e, -⟩ | ⟨-, -, e, -⟩ <;> omega
    have ha := and15 m hm4
    clear hhas hbel
    rcases Nat.lt_or_ge m 16 with hm | hm
    · have hx2 := fun w => dig36_at m hm w
      unfold dig36 at hx2
      clear ha
      obtain ⟨x, hx⟩ : ∃ x, hxC m = x := ⟨_, rfl⟩
      rw [hx] at hx2
      rcases hcase with ⟨rfl, e⟩ | ⟨rfl, hn1, e, g1⟩ | ⟨rfl, hn1, e, g1, g2⟩
      · have c64 := hc 64 (by omega)
        have f64 := hf 64 (by omega)
        have cv := fun w' => text1 w.heap.size 64 1 x w'
        have HE := Lib.hid (show hxL n = [x] by unfold hxL; rw [if_pos (by omega), ← hx, e])
        clear hf hc e hx
        go_wp2_with fail
        go_ret2
        exact ⟨by rw [HE.out]; rfl, (unhide HBe).setCell (Nat.le_refl _) _⟩
      · have c64 := (unhide HHa).cell 64 _ g1
        have c63 := hc 63 (by omega)
        have f63 := hf 63 (by omega)
        obtain ⟨y, hy⟩ : ∃ y, hxC (n % 16) = y := ⟨_, rfl⟩
        rw [hy] at c64
        have cv := fun w' => text2 w.heap.size 63 2 x y w'
        have HE := Lib.hid (show hxL n = [x, y] by unfold hxL; rw [if_neg (by omega), if_pos (by omega), ← hx, ← hy, e])
        clear hf hc g1 e hx hy
        go_wp2_with fail
        go_ret2
        exact ⟨by rw [HE.out]; rfl, (unhide HBe).setCell (Nat.le_refl _) _⟩
      · have c64 := (unhide HHa).cell 64 _ g2
        have c63 := (unhide HHa).cell 63 _ g1
        have c62 := hc 62 (by omega)
        have f62 := hf 62 (by omega)
        obtain ⟨y, hy⟩ : ∃ y, hxC (n / 16 % 16) = y := ⟨_, rfl⟩
        obtain ⟨z, hz⟩ : ∃ y, hxC (n % 16) = y := ⟨_, rfl⟩
        rw [hy] at c63
        rw [hz] at c64
        have cv := fun w' => text3 w.heap.size 62 3 x y z w'
        have HE := Lib.hid (show hxL n = [x, y, z] by unfold hxL; rw [if_neg (by omega), if_neg (by omega), ← hx, ← hy, ← hz, e])
        clear hf hc g1 g2 e hx hy hz
        go_wp2_with fail
        go_ret2
        exact ⟨by rw [HE.out]; rfl, (unhide HBe).setCell (Nat.le_refl _) _⟩
    · have hx1 := fun w => dig36_at (m % 16) (by omega) w
      unfold dig36 at hx1
      obtain ⟨x, hx⟩ : ∃ x, hxC (m % 16) = x := ⟨_, rfl⟩
      rw [hx] at hx1
      obtain ⟨q, hq⟩ : ∃ q, m % 16 = q := ⟨_, rfl⟩
      rw [hq] at hx1 ha hx
      have hq16 : q < 16 := by omega
      rcases hcase with ⟨rfl, e⟩ | ⟨rfl, hn1, e, g1⟩ | ⟨rfl, hn1, e, g1, g2⟩
      · have c64 := hc 64 (by omega)
        have f64 := hf 64 (by omega)
        have HE := Lib.hid (show m / 16 = n / 16 by rw [e])
        have HX := Lib.hid (show x = hxC (n % 16) by rw [← hx, ← hq, e])
        have hn16 : 16 ≤ n := by omega
        clear hf hc e hx hq
        go_wp2_with fail
        go_roundw
        case rel => exact ⟨1, m / 16, xs.set 64 (.int .u8 x.toNat), by go_num, by go_num, by simp [hlen], (unhide HHa).put 64 _, (unhide HBe).setCell (Nat.le_refl _) _, .inr (.inl ⟨rfl, hn16, HE.out, by rw [← HX.out]; simp [hlen]⟩)⟩
        case measure => simp [intOf]
      · have c63 := hc 63 (by omega)
        have f63 := hf 63 (by omega)
        have HE := Lib.hid (show m / 16 = n / 256 by omega)
        have HX := Lib.hid (show x = hxC (n / 16 % 16) by rw [← hx, ← hq, e])
        have hn256 : 256 ≤ n := by omega
        clear hf hc e hx hq
        go_wp2_with fail
        go_roundw
        case rel => exact ⟨2, m / 16, xs.set 63 (.int .u8 x.toNat), by go_num, by go_num, by simp [hlen], (unhide HHa).put 63 _, (unhide HBe).setCell (Nat.le_refl _) _, .inr (.inr ⟨rfl, hn256, HE.out, by rw [← HX.out]; simp [hlen], by rw [List.getElem?_set_ne (by omega)]; exact g1⟩)⟩
        case measure => simp [intOf]
      · omega
def hxB (n : Nat) : ByteArray := ⟨(hxL n).toArray⟩
theorem hxB_size (n : Nat) : (hxB n).size ≤ 3 := by
  have := hxL_len n
  show (hxL n).toArray.size ≤ 3
  simpa using this
theorem hxB_data (n : Nat) : (hxB n).data.toList = hxL n := rfl
set_option maxRecDepth 100000 in
set_option maxHeartbeats 2000000 in
theorem fmtI_any (n : Nat) (hn : n < 4096) (w : World) (hT : Bru w) :
    Calls Tryz.prog 80 #[.int .i64 n, .int .i64 16] w fun e w' => e = .returned (.string (hxB n)) ∧ Below w.heap.size w w' := by
  have c1 := hide (fbits_any n hn w hT)
  have hw : IntKind.u64.wrap (n : Int) = n := by
    rw [IntKind.wrap_u64]; omega
  clear hT
  go_enter Tryz.func80, Tryz.ntmps80
  go_wp2_with fail
  refine (unhide c1).mono ?_; rintro e w1 ⟨rfl, hb1⟩
  go_wp2_with fail
  go_ret
  exact ⟨rfl, hb1⟩
set_option maxRecDepth 100000 in
set_option maxHeartbeats 2000000 in
theorem fmt16_any (n : Nat) (hn : n < 4096) (w : World) (hT : Bru w) :
    Calls Tryz.prog 74 #[.int .i64 n, .int .i64 16] w fun e w' => e = .returned (.string (hxB n)) ∧ Below w.heap.size w w' := by
  have c1 := hide (fmtI_any n hn w hT)
  clear hT
  go_enter Tryz.func74, Tryz.ntmps74
  go_wp2_with fail
  refine (unhide c1).mono ?_; rintro e w1 ⟨rfl, hb1⟩
  go_wp2_with fail
  go_ret
  exact ⟨rfl, hb1⟩
def hex16 : ByteArray := ⟨#[48, 49, 50, 51, 52, 53, 54, 55, 56, 57, 97, 98, 99, 100, 101, 102]⟩
theorem hex16_at (k : Nat) (h : k < 16) : hex16.extract k (k + 1) = ⟨#[hxC k]⟩ := by
  have h1 : ∀ k : Fin 16, (hex16.extract k.val (k.val + 1)).data.toList = [hxC k.val] := by decide +kernel
  have := h1 ⟨k, h⟩
  exact ba_eq this
set_option maxRecDepth 100000 in
set_option maxHeartbeats 2000000 in
theorem rdigits_any (n : Nat) (hn : n < 4096) (w : World) :
    Calls Tryz.prog 75 #[.int .i64 n] w fun e w' => e = .returned (.string (hxB n)) ∧ w = w' := by
  go_enter Tryz.func75, Tryz.ntmps75
  go_wp2_with fail
  go_loop [0, 3] (fun u o => ∃ (k m : Nat) (x : ByteArray), u = .int .i64 m ∧ o = .string x ∧ x.size = k ∧ ((k = 0 ∧ m = n) ∨ (k = 1 ∧ 16 ≤ n ∧ m = n / 16 ∧ x.data.toList = [hxC (n % 16)]) ∨ (k = 2 ∧ 256 ≤ n ∧ m = n / 256 ∧ x.data.toList = [hxC (n / 16 % 16), hxC (n % 16)]))) (fun u _ => (intOf u).toNat)
  case atStart => exact ⟨0, n, ⟨#[]⟩, rfl, rfl, rfl, .inl ⟨rfl, rfl⟩⟩
  case round =>
    obtain ⟨k, m, x, rfl, rfl, hx, hcase⟩ := hrel
    have hx3 : x.size ≤ 3 := by rcases hcase with ⟨e, -⟩ | ⟨e, -⟩ | ⟨e, -⟩ <;> omega
    have HC := hide hcase
    clear hcase
    have HE := Lib.hid (hex16_at (m % 16) (by omega))
    obtain ⟨a, ha⟩ : ∃ a, m / 16 = a := ⟨_, rfl⟩
    obtain ⟨b, hb⟩ : ∃ b, m % 16 = b := ⟨_, rfl⟩
    have hd : Int.tdiv (m : Int) 16 = (a : Int) := by rw [Int.tdiv_eq_ediv_of_nonneg (by omega)]; omega
    have hr : Int.tmod (m : Int) 16 = (b : Int) := by rw [Int.tmod_eq_emod_of_nonneg (by omega)]; omega
    have hd2 : (m : Int) / 16 = (a : Int) := by omega
    have hr2 : (m : Int) % 16 = (b : Int) := by omega
    have hb16 : b < 16 := by omega
    rw [hb] at HE
    unfold hex16 at HE
    have HA := Lib.hid ha
    have HB := Lib.hid hb
    clear ha hb
    obtain ⟨c, hc⟩ : ∃ c, hxC b = c := ⟨_, rfl⟩
    rw [hc] at HE
    have HHC := Lib.hid hc
    clear hc
    have hm4 : m < 4096 := by rcases unhide HC with ⟨-, e⟩ | ⟨-, -, e, -⟩ | ⟨-, -, e, -⟩ <;> omega
    have ha4 : a < 256 := by have := HA.out; omega
    have hw : wrap64 (a : Int) = a := by unfold wrap64; omega
    rcases Nat.eq_zero_or_pos a with h0 | h0
    · subst h0
      go_wp2_with fail
      go_ret
      refine ⟨?_, rfl⟩
      rw [HE.out]
      refine congrArg (fun x => Ending.returned (.string x)) (ba_eq ?_)
      rw [app_data]
      have h1 := HA.out
      have h2 := HB.out
      have h3 := HHC.out
      unfold hxL
      rcases unhide HC with ⟨e0, e⟩ | ⟨e0, e1, e, e2⟩ | ⟨e0, e1, e, e2⟩
      · rw [if_pos (by omega)]
        have : x.data.toList = [] := List.eq_nil_of_length_eq_zero (by rw [← e0, ← hx]; simp)
        rw [this, ← h3, ← h2, ← e, Nat.mod_eq_of_lt (by omega)]; rfl
      · rw [if_neg (by omega), if_pos (by omega), e2, ← h3, ← h2, e, Nat.mod_eq_of_lt (by omega)]; rfl
      · rw [if_neg (by omega), if_neg (by omega), e2, ← h3, ← h2, e, Nat.mod_eq_of_lt (by omega)]; rfl
    · have h0b : decide ((a : Int) = 0) = false := decide_eq_false (by omega)
      go_wp2_with fail
      refine ⟨⟨k + 1, a, ⟨#[c]⟩ ++ x, by go_num, by rw [HE.out], by rw [ByteArray.size_append]; show 1 + x.size = k + 1; omega, ?_⟩, ?_⟩
      · have h1 := HA.out
        have h2 := HB.out
        have h3 := HHC.out
        rcases unhide HC with ⟨e0, e⟩ | ⟨e0, e1, e, e2⟩ | ⟨e0, e1, e, e2⟩
        · refine .inr (.inl ⟨by omega, by omega, by omega, ?_⟩)
          have : x.data.toList = [] := List.eq_nil_of_length_eq_zero (by rw [← e0, ← hx]; simp)
          rw [app_data, this, ← h3, ← h2, ← e]; rfl
        · refine .inr (.inr ⟨by omega, by omega, by omega, ?_⟩)
          rw [app_data, e2, ← h3, ← h2, e]; rfl
        · omega
      · simp [intOf, hw]; have := HA.out; omega
end Go.Proofs.YtbpopmbabckojaaGreatDoor.Sp

/- Plain: content in chunks. -/
namespace Go.Proofs.YtbpopmbabckojaaGreatDoor.Sp
open Go.RowKit Sl

/-- a chunk -/
def chunkL (s : List UInt8) : List UInt8 := hxL s.length ++ [13, 10] ++ s ++ [13, 10]
/-- chunks of k bytes -/
def chunksL (k : Nat) (s : List UInt8) : List UInt8 :=
  if h : s = [] ∨ k = 0 then [] else chunkL (s.take k) ++ chunksL k (s.drop k)
termination_by s.length
decreasing_by
  rw [not_or] at h
  have := List.length_pos_iff.2 h.1
  rw [List.length_drop]
  omega
/-- the size that is used -/
def sizeU (size : Int) (n : Nat) : Nat := if size < 1 then (if n = 0 then 1 else n) else size.toNat
/-- content in chunks, with trailers -/
def encL (bo : List UInt8) (size : Int) (T : List Fld) : List UInt8 := chunksL (sizeU size bo.length) bo ++ [48, 13, 10] ++ linesL T ++ [13, 10]

end Go.Proofs.YtbpopmbabckojaaGreatDoor.Sp

/- Plain: what emit.Check, Request, Response, Chunked answer; content in chunks. -/
namespace Go.Proofs.YtbpopmbabckojaaGreatDoor.Sp
open Go.RowKit Sl

def clB : ByteArray := ⟨#[67, 111, 110, 116, 101, 110, 116, 45, 76, 101, 110, 103, 116, 104]⟩
def teB : ByteArray := ⟨#[84, 114, 97, 110, 115, 102, 101, 114, 45, 69, 110, 99, 111, 100, 105, 110, 103]⟩
/-- emit.Check -/
def emC (me ta re : ByteArray) (st mi : Int) (F T : List Fld) : Int :=
  if (lineS me ta re st mi).2 = 0 ∧ F.all chkS = true ∧ T.all chkS = true then (if (allB F clB).isEmpty = true ∧ (allB F teB).isEmpty = true then 0 else 6) else 4
def postM (me : ByteArray) : Bool := me.toList == [80, 79, 83, 84] || me.toList == [80, 85, 84] || me.toList == [80, 65, 84, 67, 72]
def clN (bo : ByteArray) : ByteArray := clB ++ ⟨#[58, 32]⟩ ++ itoaB bo.size
def headM (me ta re : ByteArray) (st mi : Int) (F : List Fld) (more body : ByteArray) : ByteArray := putS (ofL (lineS me ta re st mi).1) (ofL (linesL F)) more body
/-- emit.Request -/
def reqS (me ta re bo : ByteArray) (st mi : Int) (F T : List Fld) : ByteArray × Int :=
  if emC me ta re st mi F T = 0 then
    (if me.toList.isEmpty = true then (⟨#[]⟩, 4) else (headM me ta re st mi F (if postM me = true ∨ bo.toList.isEmpty = false then clN bo else ⟨#[]⟩) bo, 0))
  else (⟨#[]⟩, emC me ta re st mi F T)
/-- is a method HEAD? -/
def headB (me : ByteArray) : Bool := me.toList == [72, 69, 65, 68]
/-- emit.Response -/
def resS (me ta re bo : ByteArray) (st mi : Int) (F T : List Fld) (m : ByteArray) : ByteArray × Int :=
  if emC me ta re st mi F T = 0 then
    (if me.toList.isEmpty = true then (headM me ta re st mi F (if noneI st = true ∨ (headB m = true ∧ bo.toList.isEmpty = true) then ⟨#[]⟩ else clN bo) (if noneI st = true ∨ headB m = true then ⟨#[]⟩ else bo), 0) else (⟨#[]⟩, 4))
  else (⟨#[]⟩, emC me ta re st mi F T)
def teN : ByteArray := teB ++ ⟨#[58, 32, 99, 104, 117, 110, 107, 101, 100]⟩
/-- emit.Chunked -/
def chuS (me ta re bo : ByteArray) (st mi : Int) (F T : List Fld) (size : Int) : ByteArray × Int :=
  if emC me ta re st mi F T = 0 then
    (if mi = 0 ∨ (me.toList.isEmpty = true ∧ noneI st = true) then (⟨#[]⟩, 4) else (headM me ta re st mi F teN (ofL (encL bo.data.toList size T)), 0))
  else (⟨#[]⟩, emC me ta re st mi F T)

theorem emC_line {me ta re : ByteArray} {st mi : Int} {F T : List Fld} (h : emC me ta re st mi F T = 0) : (lineS me ta re st mi).2 = 0 ∧ F.all chkS = true ∧ T.all chkS = true := by
  unfold emC at h
  by_cases hh : (lineS me ta re st mi).2 = 0 ∧ F.all chkS = true ∧ T.all chkS = true
  · exact hh
  · rw [if_neg hh] at h; exact absurd h (by decide)
theorem lineS_cases (me ta re : ByteArray) (st mi : Int) : (lineS me ta re st mi).2 = 0 ∨ (lineS me ta re st mi).2 = 4 := by
  unfold lineS rlS slS
  split
  · split
    · split <;> simp
    · simp
  · split
    · split <;> simp
    · simp
theorem lineS_status {me ta re : ByteArray} {st mi : Int} (hm : me.toList.isEmpty = true) (h : (lineS me ta re st mi).2 = 0) : 100 ≤ st ∧ st ≤ 599 := by
  unfold lineS at h
  rw [if_pos hm] at h
  unfold slS at h
  split at h
  · split at h
    · rename_i h2; exact ⟨h2.2.2.1, h2.2.2.2.1⟩
    · exact absurd h (by decide)
  · exact absurd h (by decide)
end Go.Proofs.YtbpopmbabckojaaGreatDoor.Sp

/- emit.put: a message's head, a field more, bytes, into a builder. -/
namespace Go.Proofs.YtbpopmbabckojaaGreatDoor.Sp
open Go.RowKit Sl

def moreB (name value : ByteArray) : ByteArray := if name.toList.isEmpty = true then ⟨#[]⟩ else name ++ ⟨#[58, 32]⟩ ++ value
/-- what a call lays: bytes in a builder of block bb, all of the rest untouched -/
def Puts (B bb : Nat) (l : List UInt8) (w : World) (e : Ending) (w' : World) : Prop :=
  e = .returned (.tuple #[]) ∧ Lib.IsBuilder 68 5 B bb (Lib.byteCells l) w' ∧ Below B w w'

set_option maxRecDepth 100000 in
set_option maxHeartbeats 400000 in
theorem eput_any (me ta re bo name value body x y : ByteArray) (st mi n1 n2 : Int) (ao bo' : Option Addr) (k1 c1 k2 c2 : Nat) (B bb : Nat) (w : World) (hB : B ≤ w.heap.size)
    (hI : Lib.IsBuilder 68 5 B bb (Lib.byteCells []) w)
    (hx : ∀ w1, Below w.heap.size w w1 → Calls Tryz.prog 46 #[.agg (msgV me ta st re mi (.slice ao k1 c1) bo (.slice bo' k2 c2))] w1 fun e w' => e = .returned (.tuple #[.string x, .int .i64 n1]) ∧ Below w1.heap.size w1 w')
    (hy : ∀ w1, Below w.heap.size w w1 → Calls Tryz.prog 47 #[.slice ao k1 c1] w1 fun e w' => e = .returned (.tuple #[.string y, .int .i64 n2]) ∧ Below w1.heap.size w1 w')
    (zx : x.size ≤ 100000000) (zy : y.size ≤ 100000000) (zn : name.size ≤ 1000000) (zv : value.size ≤ 1000000) (zb : body.size ≤ 1000000) :
    Calls Tryz.prog 39 #[.pointer (some ⟨bb, 0, none⟩), .agg (msgV me ta st re mi (.slice ao k1 c1) bo (.slice bo' k2 c2)), .string name, .string value, .string body] w (Puts B bb (putS x y (moreB name value) body).data.toList w) := by
  have HX := hide hx
  have HY := hide hy
  have HI := hide (isB_call hI ((Below.refl w.heap.size w).alloc (Nat.le_refl _) (.cells #[.string me, .string ta, .int .i64 st, .string re, .int .i64 mi, .slice ao k1 c1, .string bo, .slice bo' k2 c2] 24)))
  clear hx hy hI
  unfold msgV at HX ⊢
  have HB := hide ((Below.refl w.heap.size w).alloc (Nat.le_refl _) (.cells #[.string me, .string ta, .int .i64 st, .string re, .int .i64 mi, .slice ao k1 c1, .string bo, .slice bo' k2 c2] 24))
  have H := hide (Reg.Has.at w w.heap.size [.string me, .string ta, .int .i64 st, .string re, .int .i64 mi, .slice ao k1 c1, .string bo, .slice bo' k2 c2] 24 rfl)
  have hcr : (⟨#[13, 10]⟩ : ByteArray).size = 2 := rfl
  have hco : (⟨#[58, 32]⟩ : ByteArray).size = 2 := rfl
  cases em : name.toList.isEmpty
  · go_enter Tryz.func39, Tryz.ntmps39
    go_wp2_with fail
    refine (unhide HX _ (unhide HB)).mono ?_; rintro e w1 ⟨rfl, hb1⟩
    have H1 := (unhide H).call hb1
    have p5 := H1.cell 5 _ rfl
    have HI1 := hide (isB_call (unhide HI) hb1)
    have HB1 := hide ((unhide HB).trans (hb1.mono (unhide HB).size))
    clear hb1 H1
    go_wp2_with fail
    refine (unhide HY _ (unhide HB1)).mono ?_; rintro e w2 ⟨rfl, hb2⟩
    have HI2 := hide (isB_call (unhide HI1) hb2)
    have HB2 := hide ((unhide HB1).trans (hb2.mono (unhide HB1).size))
    clear hb2 p5
    go_wp2_with fail
    have hs2 : B ≤ w2.heap.size := Nat.le_trans hB (unhide HB2).size
    have hz : ([] : List UInt8).length + (x ++ (⟨#[13, 10]⟩ : ByteArray) ++ y).size ≤ 140737488355328 := by simp; omega
    have hW := write_any B bb [] (x ++ (⟨#[13, 10]⟩ : ByteArray) ++ y) _ (unhide HI2) hz hs2
    refine hW.mono ?_
    clear hW
    rintro e w3 ⟨rfl, hi3, hb3⟩
    have HI3 := hide hi3
    have HB3 := hide (((unhide HB2).mono hB).trans hb3)
    clear hi3 hb3
    go_wp2_with fail
    have hs3 : B ≤ w3.heap.size := Nat.le_trans hB (unhide HB3).size
    have hz3 : (([] : List UInt8) ++ (x ++ (⟨#[13, 10]⟩ : ByteArray) ++ y).data.toList).length + (name ++ (⟨#[58, 32]⟩ : ByteArray) ++ value ++ (⟨#[13, 10]⟩ : ByteArray)).size ≤ 140737488355328 := by simp; omega
    have hW := write_any B bb (([] : List UInt8) ++ (x ++ (⟨#[13, 10]⟩ : ByteArray) ++ y).data.toList) (name ++ (⟨#[58, 32]⟩ : ByteArray) ++ value ++ (⟨#[13, 10]⟩ : ByteArray)) _ (unhide HI3) hz3 hs3
    refine hW.mono ?_
    clear hW
    rintro e w4 ⟨rfl, hi4, hb4⟩
    have HI4 := hide hi4
    have HB4 := hide ((unhide HB3).trans hb4)
    clear hi4 hb4
    go_wp2_with fail
    have hs4 : B ≤ w4.heap.size := Nat.le_trans hB (unhide HB4).size
    have hz4 : (([] : List UInt8) ++ (x ++ (⟨#[13, 10]⟩ : ByteArray) ++ y).data.toList ++ (name ++ (⟨#[58, 32]⟩ : ByteArray) ++ value ++ (⟨#[13, 10]⟩ : ByteArray)).data.toList).length + ((⟨#[13, 10]⟩ : ByteArray) ++ body).size ≤ 140737488355328 := by simp; omega
    have hW := write_any B bb (([] : List UInt8) ++ (x ++ (⟨#[13, 10]⟩ : ByteArray) ++ y).data.toList ++ (name ++ (⟨#[58, 32]⟩ : ByteArray) ++ value ++ (⟨#[13, 10]⟩ : ByteArray)).data.toList) ((⟨#[13, 10]⟩ : ByteArray) ++ body) _ (unhide HI4) hz4 hs4
    refine hW.mono ?_
    clear hW
    rintro e w5 ⟨rfl, hi5, hb5⟩
    have HI5 := hide hi5
    have HB5 := hide ((unhide HB4).trans hb5)
    clear hi5 hb5
    go_wp2_with fail
    first | go_end0 | refine bodyPost_ret (results_none rfl _ _ _) rfl ?_
    refine ⟨rfl, ?_, unhide HB5⟩
    have he : (putS x y (moreB name value) body).data.toList = ([] : List UInt8) ++ (x ++ (⟨#[13, 10]⟩ : ByteArray) ++ y).data.toList ++ (name ++ (⟨#[58, 32]⟩ : ByteArray) ++ value ++ (⟨#[13, 10]⟩ : ByteArray)).data.toList ++ ((⟨#[13, 10]⟩ : ByteArray) ++ body).data.toList := by
      have hne : (name ++ (⟨#[58, 32]⟩ : ByteArray) ++ value).toList.isEmpty = false := by rw [Lib.toList_data, app_data, app_data]; simp
      unfold putS moreB
      simp only [em, Bool.false_eq_true, if_false, hne]
      simp [app_data, crlfB]
    rw [he]
    exact unhide HI5
  · go_enter Tryz.func39, Tryz.ntmps39
    go_wp2_with fail
    refine (unhide HX _ (unhide HB)).mono ?_; rintro e w1 ⟨rfl, hb1⟩
    have H1 := (unhide H).call hb1
    have p5 := H1.cell 5 _ rfl
    have HI1 := hide (isB_call (unhide HI) hb1)
    have HB1 := hide ((unhide HB).trans (hb1.mono (unhide HB).size))
    clear hb1 H1
    go_wp2_with fail
    refine (unhide HY _ (unhide HB1)).mono ?_; rintro e w2 ⟨rfl, hb2⟩
    have HI2 := hide (isB_call (unhide HI1) hb2)
    have HB2 := hide ((unhide HB1).trans (hb2.mono (unhide HB1).size))
    clear hb2 p5
    go_wp2_with fail
    have hs2 : B ≤ w2.heap.size := Nat.le_trans hB (unhide HB2).size
    have hz : ([] : List UInt8).length + (x ++ (⟨#[13, 10]⟩ : ByteArray) ++ y).size ≤ 140737488355328 := by simp; omega
    have hW := write_any B bb [] (x ++ (⟨#[13, 10]⟩ : ByteArray) ++ y) _ (unhide HI2) hz hs2
    refine hW.mono ?_
    clear hW
    rintro e w3 ⟨rfl, hi3, hb3⟩
    have HI3 := hide hi3
    have HB3 := hide (((unhide HB2).mono hB).trans hb3)
    clear hi3 hb3
    go_wp2_with fail
    have hs3 : B ≤ w3.heap.size := Nat.le_trans hB (unhide HB3).size
    have hz3 : (([] : List UInt8) ++ (x ++ (⟨#[13, 10]⟩ : ByteArray) ++ y).data.toList).length + ((⟨#[13, 10]⟩ : ByteArray) ++ body).size ≤ 140737488355328 := by simp; omega
    have hW := write_any B bb (([] : List UInt8) ++ (x ++ (⟨#[13, 10]⟩ : ByteArray) ++ y).data.toList) ((⟨#[13, 10]⟩ : ByteArray) ++ body) _ (unhide HI3) hz3 hs3
    refine hW.mono ?_
    clear hW
    rintro e w4 ⟨rfl, hi4, hb4⟩
    have HI4 := hide hi4
    have HB4 := hide ((unhide HB3).trans hb4)
    clear hi4 hb4
    go_wp2_with fail
    first | go_end0 | refine bodyPost_ret (results_none rfl _ _ _) rfl ?_
    refine ⟨rfl, ?_, unhide HB4⟩
    have he : (putS x y (moreB name value) body).data.toList = ([] : List UInt8) ++ (x ++ (⟨#[13, 10]⟩ : ByteArray) ++ y).data.toList ++ ((⟨#[13, 10]⟩ : ByteArray) ++ body).data.toList := by
      simp [putS, moreB, em, app_data, crlfB]
    rw [he]
    exact unhide HI4
end Go.Proofs.YtbpopmbabckojaaGreatDoor.Sp

/- The closures of Del and Set; Del. -/
namespace Go.Proofs.YtbpopmbabckojaaGreatDoor.Sp
open Go.RowKit Sl
theorem cell_call {W w' : World} {a : Addr} {v : Value} (hb : Below W.heap.size W w') (h : W.cell? a = some v) : w'.cell? a = some v :=
  (hb.cell (World.block_lt_of_cell? W a h)).trans h
theorem keepF_unit (p : Fld → Bool) (L : List Fld) : keepF (fun (_ : Unit) f => (p f, ())) () L = L.filter fun f => !p f := by
  induction L with
  | nil => rfl
  | cons f t ih =>
    rw [keepF]
    cases hp : p f
    · rw [if_neg (by simp), List.filter_cons_of_pos (by simp [hp])]
      exact congrArg (f :: ·) ih
    · rw [if_pos rfl, List.filter_cons_of_neg (by simp [hp])]
      exact ih


def stepN (name : ByteArray) (_ : Unit) (f : Fld) : Bool × Unit := (isN name f, ())
def stepS (name : ByteArray) (there : Bool) (f : Fld) : Bool × Bool := (there && isN name f, there || isN name f)




def delF (L : List Fld) (name : ByteArray) : List Fld := L.filter fun f => !isN name f

end Go.Proofs.YtbpopmbabckojaaGreatDoor.Sp

/- Set. -/
namespace Go.Proofs.YtbpopmbabckojaaGreatDoor.Sp
open Go.RowKit Sl

def setR (name value : ByteArray) : Bool → List Fld → List Fld
  | true, [] => []
  | false, [] => [(name, value)]
  | there, f :: t => if isN name f = true then (if there = true then setR name value true t else (f.1, value) :: setR name value true t) else f :: setR name value there t
def setB (L : List Fld) (name value : ByteArray) : List Fld := setR name value false L

theorem setR_true (name value : ByteArray) : ∀ L : List Fld, setR name value true L = keepF (stepS name) true L
  | [] => rfl
  | f :: t => by
    rw [setR, keepF, setR_true name value t]
    unfold stepS
    cases h : isN name f <;> simp
theorem setR_false (name value : ByteArray) : ∀ L : List Fld,
    ((∀ k (h : k < (keepF (stepS name) false L).length), isN name (keepF (stepS name) false L)[k] = false) → setR name value false L = keepF (stepS name) false L ++ [(name, value)]) ∧
    (∀ k (h : k < (keepF (stepS name) false L).length), (∀ j (h1 : j < k) (h2 : j < (keepF (stepS name) false L).length), isN name (keepF (stepS name) false L)[j] = false) → isN name (keepF (stepS name) false L)[k] = true →
      setR name value false L = (keepF (stepS name) false L).set k ((keepF (stepS name) false L)[k].1, value))
  | [] => ⟨fun _ => rfl, fun k h => absurd h (Nat.not_lt_zero _)⟩
  | f :: t => by
    have ih := setR_false name value t
    cases hf : isN name f
    · have e1 : keepF (stepS name) false (f :: t) = f :: keepF (stepS name) false t := by
        rw [keepF]; unfold stepS; simp [hf]
      have e2 : setR name value false (f :: t) = f :: setR name value false t := by rw [setR, if_neg (by rw [hf]; decide)]
      simp only [e1, e2]
      refine ⟨fun h => ?_, fun k h ha hk => ?_⟩
      · rw [ih.1 (fun k hk => by have := h (k + 1) (by simp; omega); simpa using this)]; rfl
      · cases k with
        | zero => simp [hf] at hk
        | succ k =>
          rw [ih.2 k (by simpa using h) (fun j h1 h2 => by have := ha (j + 1) (by omega) (by simp; omega); simpa using this) (by simpa using hk)]
          simp
    · have e1 : keepF (stepS name) false (f :: t) = f :: keepF (stepS name) true t := by
        rw [keepF]; unfold stepS; simp [hf]
      have e2 : setR name value false (f :: t) = (f.1, value) :: keepF (stepS name) true t := by rw [setR, if_pos hf, if_neg (by decide), setR_true]
      simp only [e1, e2]
      refine ⟨fun h => ?_, fun k h ha hk => ?_⟩
      · have := h 0 (by simp); simp [hf] at this
      · cases k with
        | zero => simp
        | succ k => have := ha 0 (by omega) (by simp); simp [hf] at this

theorem set_same {α : Type} (l : List α) (i : Nat) (a : α) (h : l[i]? = some a) : l.set i a = l := by
  obtain ⟨hi, e⟩ := List.getElem?_eq_some_iff.1 h
  rw [← e]
  exact List.set_getElem_self hi

end Go.Proofs.YtbpopmbabckojaaGreatDoor.Sp

/- Get, Via. -/
namespace Go.Proofs.YtbpopmbabckojaaGreatDoor.Sp
open Go.RowKit Sl

def joinB (A : List ByteArray) : ByteArray := ofL (Lib.join (A.map (·.data.toList)) [44, 32])
def getB (L : List Fld) (name : ByteArray) : ByteArray := joinB (allB L name)
theorem lens_le : ∀ (A : List ByteArray) (c : Nat), (∀ x ∈ A, x.size ≤ c) → Lib.lens (A.map (·.data.toList)) ≤ A.length * c
  | [], _, _ => by simp [Lib.lens]
  | x :: t, c, h => by
    have h1 := lens_le t c (fun y hy => h y (List.mem_cons_of_mem _ hy))
    have h2 := h x List.mem_cons_self
    have h3 : x.data.toList.length = x.size := by simp
    simp only [Lib.lens, List.map_cons, List.foldr_cons, List.length_cons, Nat.succ_mul, List.sum_cons] at h1 ⊢
    omega
theorem join_size (A : List ByteArray) (hl : A.length ≤ 100) (h : ∀ x ∈ A, x.size ≤ 2000) : (Lib.join (A.map (·.data.toList)) [44, 32]).length ≤ 300000 := by
  cases A with
  | nil => simp [Lib.join_nil]
  | cons x t =>
    rw [List.map_cons, Lib.join_length]
    have h1 := lens_le (x :: t) 2000 h
    rw [List.map_cons] at h1
    have h2 : (x :: t).length * 2000 ≤ 100 * 2000 := Nat.mul_le_mul_right _ hl
    simp at hl ⊢
    omega

theorem join_any (v : Value) (A : List ByteArray) (hl : A.length ≤ 100) (h : ∀ x ∈ A, x.size ≤ 2000) (w : World) (hv : Rd w v A.length 1 (strV A)) :
    Calls Tryz.prog 72 #[v, .string ⟨#[44, 32]⟩] w fun e w' => e = .returned (.string (joinB A)) ∧ Below w.heap.size w w' := by
  cases A with
  | nil =>
    obtain ⟨ao, cap, rfl⟩ := hv.form
    refine (Tryz.strings_Join_none ao cap ⟨#[44, 32]⟩ w).mono ?_
    rintro e w' ⟨rfl, rfl⟩
    exact ⟨rfl, Below.refl _ _⟩
  | cons x t =>
    obtain ⟨ao, cap, rfl, hc, _, _, hcc⟩ := hv
    obtain ⟨b, off, rfl, hb, hcl⟩ := hcc (by simp [strV])
    exact Tryz.strings_Join b off cap (x :: t) ⟨#[44, 32]⟩ w (fun j y hy => hcl j _ (by
      have : (strV (x :: t))[j]? = ((x :: t)[j]?).map .string := by unfold strV; rw [List.getElem?_map]
      rw [this, hy]; rfl)) hb (by omega) hc (by have := join_size (x :: t) hl h; exact Nat.le_trans this (by omega))

theorem fget_any (v : Value) (L : List Fld) (name : ByteArray) (hL : Few L) (hn : name.size ≤ 2000) (w : World) (hv : Rd w v L.length 2 (fldV L)) :
    Calls Tryz.prog 48 #[v, .string name] w fun e w' => e = .returned (.tuple #[.string (getB L name), .bool (!(allB L name).isEmpty)]) ∧ Below w.heap.size w w' := by
  obtain ⟨ao, cap, rfl⟩ := hv.form
  have hc := hide (fall_any _ L name hL hn w hv)
  obtain ⟨hs1, hs2⟩ := allB_small hL name
  have hgt : decide (0 < (allB L name).length) = !(allB L name).isEmpty := by cases allB L name <;> simp
  have hget : getB L name = joinB (allB L name) := rfl
  rw [hget]
  obtain ⟨A, hA⟩ : ∃ A, allB L name = A := ⟨_, rfl⟩
  rw [hA] at hc hs1 hs2 hgt ⊢
  obtain ⟨yes, hy⟩ : ∃ yes, (!A.isEmpty) = yes := ⟨_, rfl⟩
  rw [hy] at hgt ⊢
  have HS2 := hide hs2
  have HV := hide hv
  have HGT := Lib.hid hgt
  clear hv hs2 hA hget hy hL hgt
  go_enter Tryz.func48, Tryz.ntmps48
  go_wp2_with (first
    | (go_at_call 71; refine (unhide hc).mono ?_; rintro e w1 ⟨v1, rfl, ho1, hb1⟩; obtain ⟨bo, cp, rfl⟩ := (Rd.own ho1).form; have hj := hide (join_any _ A hs1 (unhide HS2) w1 (Rd.own ho1)); have B1 := hide hb1; clear ho1 hb1)
    | (go_at_call 72; refine (unhide hj).mono ?_; rintro e w2 ⟨rfl, hb2⟩; have B2 := hide hb2; clear hb2))
  go_ret2
  exact ⟨by rw [← HGT.out] <;> rfl, (unhide B1).trans ((unhide B2).mono (unhide B1).size)⟩

def viaN : ByteArray := ⟨#[86, 105, 97]⟩
def viaV (L : List Fld) (digits name : ByteArray) : ByteArray :=
  (((((if (allB L viaN).isEmpty = true then getB L viaN else getB L viaN ++ ⟨#[44, 32]⟩) ++ ⟨#[49, 46]⟩) ++ digits) ++ ⟨#[32]⟩) ++ name)
def viaF (L : List Fld) (digits name : ByteArray) : List Fld := setB L viaN (viaV L digits name)

end Go.Proofs.YtbpopmbabckojaaGreatDoor.Sp

/- emit.Check, both sides. -/
namespace Go.Proofs.YtbpopmbabckojaaGreatDoor.Sp
open Go.RowKit Sl

theorem emC_bad {me ta re : ByteArray} {st mi : Int} {F T : List Fld} (h : ¬ ((lineS me ta re st mi).2 = 0 ∧ F.all chkS = true ∧ T.all chkS = true)) : emC me ta re st mi F T = 4 := by unfold emC; rw [if_neg h]
theorem emC_ok {me ta re : ByteArray} {st mi : Int} {F T : List Fld} (h : (lineS me ta re st mi).2 = 0 ∧ F.all chkS = true ∧ T.all chkS = true) : emC me ta re st mi F T = if (allB F clB).isEmpty = true ∧ (allB F teB).isEmpty = true then 0 else 6 := by unfold emC; rw [if_pos h]
def Few3 (L : List Fld) : Prop := L.length ≤ 100 ∧ ∀ f ∈ L, f.1.size ≤ 2000 ∧ f.2.size ≤ 2000

set_option maxRecDepth 100000 in
set_option maxHeartbeats 4000000 in
theorem echeck_any (me ta re bo : ByteArray) (st mi : Int) (fs tr : Value) (F T : List Fld) (h1 : me.size ≤ 1000000) (h2 : ta.size ≤ 1000000) (h3 : re.size ≤ 1000000) (hF : Few F) (hTr : Few T) (w : World) (hT : Pow10 w)
    (hv : Rd w fs F.length 2 (fldV F)) (hu : Rd w tr T.length 2 (fldV T)) :
    Calls Tryz.prog 24 #[.agg (msgV me ta st re mi fs bo tr)] w fun e w' => e = .returned (.int .i64 (emC me ta re st mi F T)) ∧ Below w.heap.size w w' := by
  obtain ⟨ao, c1, rfl⟩ := hv.form
  obtain ⟨bo', c2, rfl⟩ := hu.form
  have q0 := hide (fun w1 (hb : Below w.heap.size w w1) => eline_any me ta re bo st mi ao bo' F.length c1 T.length c2 h1 h2 h3 w1 (hT.below hb))
  have q1 := hide (fun w1 (hb : Below w.heap.size w w1) => bytes_any _ F (by have := hF.1; omega) (fun f hf => by have := hF.2 f hf; omega) w1 (hv.below hb))
  have q2 := hide (fun w1 (hb : Below w.heap.size w w1) => bytes_any _ T (by have := hTr.1; omega) (fun f hf => by have := hTr.2 f hf; omega) w1 (hu.below hb))
  have q3 := hide (fun w1 (hb : Below w.heap.size w w1) => fget_any _ F clB hF (by decide) w1 (hv.below hb))
  have q4 := hide (fun w1 (hb : Below w.heap.size w w1) => fget_any _ F teB hF (by decide) w1 (hv.below hb))
  clear hv hu hT
  have HB := hide ((Below.refl w.heap.size w).alloc (Nat.le_refl _) (.cells #[.string me, .string ta, .int .i64 st, .string re, .int .i64 mi, .slice ao F.length c1, .string bo, .slice bo' T.length c2] 24))
  have H := hide (Reg.Has.at w w.heap.size [.string me, .string ta, .int .i64 st, .string re, .int .i64 mi, .slice ao F.length c1, .string bo, .slice bo' T.length c2] 24 rfl)
  unfold LineOut at q0
  unfold msgV at q0 ⊢
  rcases lineS_cases me ta re st mi with hl | hl
  rotate_left
  · have hc := Lib.hid (emC_bad (F := F) (T := T) (fun h => by rw [hl] at h; exact absurd h.1 (by decide)))
    rw [hl] at q0
    clear hl
    go_enter Tryz.func24, Tryz.ntmps24
    go_wp2_with fail
    refine (unhide q0 _ (unhide HB)).mono ?_; rintro e w1 ⟨rfl, hb1⟩
    have HB1 := hide ((unhide HB).trans (hb1.mono (unhide HB).size))
    clear hb1
    go_wp2_with fail
    go_ret
    exact ⟨by rw [hc.out]; rfl, unhide HB1⟩
  have HC := hide (fun (hf : F.all chkS = true) (ht : T.all chkS = true) => emC_ok (me := me) (ta := ta) (re := re) (st := st) (mi := mi) (F := F) (T := T) ⟨hl, hf, ht⟩)
  have HD := hide (fun (hf : F.all chkS = false ∨ T.all chkS = false) => emC_bad (me := me) (ta := ta) (re := re) (st := st) (mi := mi) (F := F) (T := T) (fun hh => by rcases hf with hf | hf <;> simp [hf] at hh))
  rw [hl] at q0
  clear hl
  generalize ofL (lineS me ta re st mi).1 = x at q0
  generalize hem : emC me ta re st mi F T = em at HC HD
  go_enter Tryz.func24, Tryz.ntmps24
  go_wp2_with fail
  refine (unhide q0 _ (unhide HB)).mono ?_; rintro e w1 ⟨rfl, hb1⟩
  have HB1 := hide ((unhide HB).trans (hb1.mono (unhide HB).size))
  have H1 := hide ((unhide H).call hb1)
  have p5 := (unhide H1).cell 5 _ rfl
  have p7 := (unhide H1).cell 7 _ rfl
  clear hb1
  go_wp2_with fail
  have H2 := hide (Reg.Has.at w1 w1.heap.size [.slice ao F.length c1, .slice bo' T.length c2] 22 rfl)
  have H3 := hide ((unhide H1).alloc (.cells #[.slice ao F.length c1, .slice bo' T.length c2] 22))
  have HB2 := hide ((unhide HB1).alloc (unhide HB1).size (.cells #[.slice ao F.length c1, .slice bo' T.length c2] 22))
  generalize hw2 : w1.alloc (.cells #[.slice ao F.length c1, .slice bo' T.length c2] 22) = w2 at *
  clear hw2 p5 p7
  generalize hb2 : w1.heap.size = b2 at *
  clear hb2 H1 HB1
  go_loopw [27] (fun i wr => ∃ k : Nat, i = .int .i64 k ∧ k ≤ 2 ∧ (1 ≤ k → F.all chkS = true) ∧ (2 ≤ k → T.all chkS = true) ∧ Reg.Has wr b2 [.slice ao F.length c1, .slice bo' T.length c2] ∧ Reg.Has wr w.heap.size [.string me, .string ta, .int .i64 st, .string re, .int .i64 mi, .slice ao F.length c1, .string bo, .slice bo' T.length c2] ∧ Below w.heap.size w wr) (fun i _ => 2 - (intOf i).toNat)
  case atStart => exact ⟨0, rfl, by omega, by omega, by omega, unhide H2, unhide H3, unhide HB2⟩
  case round =>
    clear H2 H3 HB2 H HB
    obtain ⟨k, rfl, hk, r1, r2, g1, g2, g3⟩ := hrel
    have R1 := hide r1
    have R2 := hide r2
    have G1 := hide g1
    have G2 := hide g2
    have G3 := hide g3
    clear r1 r2 g1 g2
    rcases (by omega : k = 0 ∨ k = 1 ∨ k = 2) with rfl | rfl | hk2
    · have p0 := (unhide G1).cell 0 _ rfl
      unfold BytesO at q1
      obtain ⟨b, hfa⟩ : ∃ b, F.all chkS = b := ⟨_, rfl⟩
      cases b
      · have HE := Lib.hid (unhide HD (.inl hfa))
        rw [hfa] at q1
        simp only [Bool.false_eq_true, if_false, errI] at q1
        go_wp2_with fail
        refine (unhide q1 _ (unhide G3)).mono ?_; rintro e w3 ⟨rfl, hb3⟩
        have HB3 := hide ((unhide G3).trans (hb3.mono (unhide G3).size))
        clear hb3
        go_wp2_with fail
        go_ret
        exact ⟨by rw [HE.out]; rfl, unhide HB3⟩
      · rw [hfa] at q1
        simp only [if_true, errI] at q1
        generalize ofL (linesL F) = y at q1
        have HFA := Lib.hid hfa
        clear hfa
        go_wp2_with fail
        refine (unhide q1 _ (unhide G3)).mono ?_; rintro e w3 ⟨rfl, hb3⟩
        have G1b := hide ((unhide G1).call hb3)
        have G2b := hide ((unhide G2).call hb3)
        have HB3 := hide ((unhide G3).trans (hb3.mono (unhide G3).size))
        clear hb3
        go_wp2_with fail
        go_roundw
        case rel => exact ⟨1, by go_num, by omega, fun _ => (by first | trivial | exact HFA.out), by omega, unhide G1b, unhide G2b, unhide HB3⟩
        case measure => simp [intOf]
    · have p0 := (unhide G1).cell 1 _ rfl
      unfold BytesO at q2
      obtain ⟨b, hfa⟩ : ∃ b, T.all chkS = b := ⟨_, rfl⟩
      cases b
      · have HE := Lib.hid (unhide HD (.inr hfa))
        rw [hfa] at q2
        simp only [Bool.false_eq_true, if_false, errI] at q2
        go_wp2_with fail
        refine (unhide q2 _ (unhide G3)).mono ?_; rintro e w3 ⟨rfl, hb3⟩
        have HB3 := hide ((unhide G3).trans (hb3.mono (unhide G3).size))
        clear hb3
        go_wp2_with fail
        go_ret
        exact ⟨by rw [HE.out]; rfl, unhide HB3⟩
      · rw [hfa] at q2
        simp only [if_true, errI] at q2
        generalize ofL (linesL T) = y at q2
        have HFA := Lib.hid hfa
        clear hfa
        go_wp2_with fail
        refine (unhide q2 _ (unhide G3)).mono ?_; rintro e w3 ⟨rfl, hb3⟩
        have G1b := hide ((unhide G1).call hb3)
        have G2b := hide ((unhide G2).call hb3)
        have HB3 := hide ((unhide G3).trans (hb3.mono (unhide G3).size))
        clear hb3
        go_wp2_with fail
        go_roundw
        case rel => exact ⟨2, by go_num, by omega, fun _ => unhide R1 (by omega), fun _ => (by first | trivial | exact HFA.out), unhide G1b, unhide G2b, unhide HB3⟩
        case measure => simp [intOf]
    · have HE := Lib.hid (unhide HC (unhide R1 (by omega)) (unhide R2 (by omega)))
      have hkb : decide ((k : Int) < 2) = false := decide_eq_false (by omega)
      clear hk2 hk
      clear HC HD R1 R2 q0 q1 q2 G1
      go_wp2_with fail
      have H2 := hide (Reg.Has.at wr wr.heap.size [.string ⟨#[67, 111, 110, 116, 101, 110, 116, 45, 76, 101, 110, 103, 116, 104]⟩, .string ⟨#[84, 114, 97, 110, 115, 102, 101, 114, 45, 69, 110, 99, 111, 100, 105, 110, 103]⟩] 9 rfl)
      have H3 := hide ((unhide G2).alloc (.cells #[.string ⟨#[67, 111, 110, 116, 101, 110, 116, 45, 76, 101, 110, 103, 116, 104]⟩, .string ⟨#[84, 114, 97, 110, 115, 102, 101, 114, 45, 69, 110, 99, 111, 100, 105, 110, 103]⟩] 9))
      have HB2 := hide ((unhide G3).alloc (unhide G3).size (.cells #[.string ⟨#[67, 111, 110, 116, 101, 110, 116, 45, 76, 101, 110, 103, 116, 104]⟩, .string ⟨#[84, 114, 97, 110, 115, 102, 101, 114, 45, 69, 110, 99, 111, 100, 105, 110, 103]⟩] 9))
      generalize hw2 : wr.alloc (.cells #[.string ⟨#[67, 111, 110, 116, 101, 110, 116, 45, 76, 101, 110, 103, 116, 104]⟩, .string ⟨#[84, 114, 97, 110, 115, 102, 101, 114, 45, 69, 110, 99, 111, 100, 105, 110, 103]⟩] 9) = w2 at *
      clear hw2
      generalize hb3 : wr.heap.size = b3 at *
      clear hb3 G2 G3 g3
      go_loopw [42] (fun i wr => ∃ k : Nat, i = .int .i64 k ∧ k ≤ 2 ∧ ((1 ≤ k → (allB F clB).isEmpty = true) ∧ (2 ≤ k → (allB F teB).isEmpty = true)) ∧ Reg.Has wr b3 [.string ⟨#[67, 111, 110, 116, 101, 110, 116, 45, 76, 101, 110, 103, 116, 104]⟩, .string ⟨#[84, 114, 97, 110, 115, 102, 101, 114, 45, 69, 110, 99, 111, 100, 105, 110, 103]⟩] ∧ Reg.Has wr w.heap.size [.string me, .string ta, .int .i64 st, .string re, .int .i64 mi, .slice ao F.length c1, .string bo, .slice bo' T.length c2] ∧ Below w.heap.size w wr) (fun i _ => 2 - (intOf i).toNat)
      case atStart => exact ⟨0, rfl, by omega, ⟨by omega, by omega⟩, unhide H2, unhide H3, unhide HB2⟩
      case round =>
        clear H2 H3 HB2
        obtain ⟨k, rfl, hk, r12, g1, g2, g3⟩ := hrel
        have R12 := hide r12
        have G1 := hide g1
        have G2 := hide g2
        have G3 := hide g3
        clear r12 g1 g2
        rcases (by omega : k = 0 ∨ k = 1 ∨ k = 2) with rfl | rfl | rfl
        · have p0 := (unhide G1).cell 0 _ rfl
          have p5 := (unhide G2).cell 5 _ rfl
          obtain ⟨b, hq⟩ : ∃ b, (allB F clB).isEmpty = b := ⟨_, rfl⟩
          cases b
          · rw [hq] at q3
            have HE2 := Lib.hid (show em = 6 by rw [HE.out, if_neg (by rw [hq]; simp)])
            clear hq
            go_wp2_with fail
            refine (unhide q3 _ (unhide G3)).mono ?_; rintro e w3 ⟨rfl, hb3⟩
            have HB3 := hide ((unhide G3).trans (hb3.mono (unhide G3).size))
            clear hb3
            go_wp2_with fail
            go_ret
            exact ⟨by rw [HE2.out]; rfl, unhide HB3⟩
          · rw [hq] at q3
            have HQ := Lib.hid hq
            clear hq
            go_wp2_with fail
            refine (unhide q3 _ (unhide G3)).mono ?_; rintro e w3 ⟨rfl, hb3⟩
            have G1b := hide ((unhide G1).call hb3)
            have G2b := hide ((unhide G2).call hb3)
            have HB3 := hide ((unhide G3).trans (hb3.mono (unhide G3).size))
            clear hb3
            go_wp2_with fail
            go_roundw
            case rel => exact ⟨1, by go_num, by omega, ⟨fun _ => (by first | trivial | exact HQ.out), by omega⟩, unhide G1b, unhide G2b, unhide HB3⟩
            case measure => simp [intOf]
        · have p0 := (unhide G1).cell 1 _ rfl
          have p5 := (unhide G2).cell 5 _ rfl
          obtain ⟨b, hq⟩ : ∃ b, (allB F teB).isEmpty = b := ⟨_, rfl⟩
          cases b
          · rw [hq] at q4
            have HE2 := Lib.hid (show em = 6 by rw [HE.out, if_neg (by rw [hq]; simp)])
            clear hq
            go_wp2_with fail
            refine (unhide q4 _ (unhide G3)).mono ?_; rintro e w3 ⟨rfl, hb3⟩
            have HB3 := hide ((unhide G3).trans (hb3.mono (unhide G3).size))
            clear hb3
            go_wp2_with fail
            go_ret
            exact ⟨by rw [HE2.out]; rfl, unhide HB3⟩
          · rw [hq] at q4
            have HQ := Lib.hid hq
            clear hq
            go_wp2_with fail
            refine (unhide q4 _ (unhide G3)).mono ?_; rintro e w3 ⟨rfl, hb3⟩
            have G1b := hide ((unhide G1).call hb3)
            have G2b := hide ((unhide G2).call hb3)
            have HB3 := hide ((unhide G3).trans (hb3.mono (unhide G3).size))
            clear hb3
            go_wp2_with fail
            go_roundw
            case rel => exact ⟨2, by go_num, by omega, ⟨fun _ => (unhide R12).1 (by omega), fun _ => (by first | trivial | exact HQ.out)⟩, unhide G1b, unhide G2b, unhide HB3⟩
            case measure => simp [intOf]
        · have HE2 := Lib.hid (show em = 0 by rw [HE.out, if_pos ⟨(unhide R12).1 (by omega), (unhide R12).2 (by omega)⟩])
          go_wp2_with fail
          go_ret
          exact ⟨by rw [HE2.out]; rfl, unhide G3⟩
end Go.Proofs.YtbpopmbabckojaaGreatDoor.Sp

/- ref08.Check. -/
namespace Go.Proofs.YtbpopmbabckojaaGreatDoor.Sp
open Go.RowKit Sl

set_option maxRecDepth 100000 in
set_option maxHeartbeats 4000000 in
theorem rcheck8_any (me ta re bo : ByteArray) (st mi : Int) (fs tr : Value) (F T : List Fld) (h1 : me.size ≤ 1000000) (h2 : ta.size ≤ 1000000) (h3 : re.size ≤ 1000000) (hF : Few F) (hTr : Few T) (w : World)
    (hv : Rd w fs F.length 2 (fldV F)) (hu : Rd w tr T.length 2 (fldV T)) :
    Calls Tryz.prog 33 #[.agg (msgV me ta st re mi fs bo tr)] w fun e w' => e = .returned (.int .i64 (emC me ta re st mi F T)) ∧ Below w.heap.size w w' := by
  obtain ⟨ao, c1, rfl⟩ := hv.form
  obtain ⟨bo', c2, rfl⟩ := hu.form
  have q0 := hide (fun w1 => r8line_any me ta re bo st mi ao bo' F.length c1 T.length c2 h1 h2 h3 w1)
  have q1 := hide (fun w1 (hb : Below w.heap.size w w1) => rbytes_any _ F (by have := hF.1; omega) (fun f hf => by have := hF.2 f hf; omega) w1 (hv.below hb))
  have q2 := hide (fun w1 (hb : Below w.heap.size w w1) => rbytes_any _ T (by have := hTr.1; omega) (fun f hf => by have := hTr.2 f hf; omega) w1 (hu.below hb))
  have q3 := hide (fun w1 (hb : Below w.heap.size w w1) => rall_any _ F clB hF (by decide) w1 (hv.below hb))
  have q4 := hide (fun w1 (hb : Below w.heap.size w w1) => rall_any _ F teB hF (by decide) w1 (hv.below hb))
  have hn1 := allB_len F clB
  have hn2 := allB_len F teB
  have hF1 := hF.1
  clear hv hu
  have HB := hide ((Below.refl w.heap.size w).alloc (Nat.le_refl _) (.cells #[.string me, .string ta, .int .i64 st, .string re, .int .i64 mi, .slice ao F.length c1, .string bo, .slice bo' T.length c2] 24))
  have H := hide (Reg.Has.at w w.heap.size [.string me, .string ta, .int .i64 st, .string re, .int .i64 mi, .slice ao F.length c1, .string bo, .slice bo' T.length c2] 24 rfl)
  unfold LineOut at q0
  unfold msgV at q0 ⊢
  unfold BytesO errI at q1 q2
  unfold RetS at q3 q4
  obtain ⟨ln, hln⟩ : ∃ n, (lineS me ta re st mi).2 = n := ⟨_, rfl⟩
  obtain ⟨fa, hfa⟩ : ∃ b, F.all chkS = b := ⟨_, rfl⟩
  obtain ⟨tb, htb⟩ : ∃ b, T.all chkS = b := ⟨_, rfl⟩
  obtain ⟨em, hem⟩ : ∃ n, emC me ta re st mi F T = n := ⟨_, rfl⟩
  have hl : ln = 0 ∨ ln = 4 := by rw [← hln]; exact lineS_cases me ta re st mi
  have HC : Hid (ln = 0 → fa = true → tb = true → em = if (allB F clB).isEmpty = true ∧ (allB F teB).isEmpty = true then 0 else 6) := hide (by
    intro a b c; rw [← hem]; exact emC_ok ⟨by rw [hln, a], by rw [hfa, b], by rw [htb, c]⟩)
  have HD : Hid (¬ (ln = 0 ∧ fa = true ∧ tb = true) → em = 4) := hide (by
    intro a; rw [← hem]; exact emC_bad (by rw [hln, hfa, htb]; exact a))
  rw [hln] at q0
  rw [hfa] at q1
  rw [htb] at q2
  rw [hem]
  generalize ofL (lineS me ta re st mi).1 = x at q0
  generalize (if fa = true then ofL (linesL F) else (⟨#[]⟩ : ByteArray)) = y at q1
  generalize (if tb = true then ofL (linesL T) else (⟨#[]⟩ : ByteArray)) = z at q2
  obtain ⟨f1, hf1⟩ : ∃ n, (if fa = true then (0 : Int) else 4) = n := ⟨_, rfl⟩
  obtain ⟨f2, hf2⟩ : ∃ n, (if tb = true then (0 : Int) else 4) = n := ⟨_, rfl⟩
  rw [hf1] at q1
  rw [hf2] at q2
  have HF1 := Lib.hid hf1
  have HF2 := Lib.hid hf2
  clear hf1 hf2
  generalize hA : allB F clB = A at *
  generalize hB' : allB F teB = B at *
  clear hln hfa htb hem hF hTr h1 h2 h3 hA hB'
  have HL : Hid (ln = 0 ∨ ln = 4) := hide hl
  clear hl
  go_enter Tryz.func33, Tryz.ntmps33
  go_wp2_with fail
  refine (unhide q0 _).mono ?_; rintro e w1 ⟨rfl, hb1⟩
  have HB1 := hide ((unhide HB).trans (hb1.mono (unhide HB).size))
  have H1 := hide ((unhide H).call hb1)
  have p5 := (unhide H1).cell 5 _ rfl
  clear hb1
  go_wp2_with fail
  refine (unhide q1 _ (unhide HB1)).mono ?_; rintro e w2 ⟨rfl, hb2⟩
  have HB2 := hide ((unhide HB1).trans (hb2.mono (unhide HB1).size))
  have H2 := hide ((unhide H1).call hb2)
  have p7 := (unhide H2).cell 7 _ rfl
  clear hb2 p5
  go_wp2_with fail
  refine (unhide q2 _ (unhide HB2)).mono ?_; rintro e w3 ⟨rfl, hb3⟩
  have HB3 := hide ((unhide HB2).trans (hb3.mono (unhide HB2).size))
  have H3 := hide ((unhide H2).call hb3)
  have p5 := (unhide H3).cell 5 _ rfl
  have z5 := (unhide H3).lt
  clear hb3 p7 q0 q1 q2 HB HB1 HB2 H H1 H2
  by_cases hok : ln = 0 ∧ fa = true ∧ tb = true
  rotate_left
  · have HE := Lib.hid (unhide HD hok)
    have hb : (ln = 4) ∨ (ln = 0 ∧ f1 = 4) ∨ (ln = 0 ∧ f1 = 0 ∧ f2 = 4) := by
      rw [← HF1.out, ← HF2.out]
      rcases unhide HL with rfl | rfl
      · cases fa
        · exact .inr (.inl ⟨rfl, rfl⟩)
        · cases tb
          · exact .inr (.inr ⟨rfl, rfl, rfl⟩)
          · exact absurd ⟨rfl, rfl, rfl⟩ hok
      · exact .inl rfl
    clear hok HC HD HF1 HF2 HL
    rcases hb with rfl | ⟨rfl, rfl⟩ | ⟨rfl, rfl, rfl⟩
    all_goals
      go_wp2_with fail
      go_ret
      exact ⟨by rw [HE.out] <;> rfl, unhide HB3⟩
  obtain ⟨rfl, rfl, rfl⟩ := hok
  obtain rfl : f1 = 0 := HF1.out.symm.trans (if_pos rfl)
  obtain rfl : f2 = 0 := HF2.out.symm.trans (if_pos rfl)
  have HE := hide (unhide HC rfl rfl rfl)
  clear HC HD HL HF1 HF2
  go_upto_region 6 with fail
  have BW := hide (Below.drew (Below.refl w3.heap.size w3))
  refine Reg.region_mix [0, 1, 4, 5, 2, 3, 6, 7, 8, 9] (by kernel_rfl) (by kernel_rfl) (by kernel_rfl) (by decide) (by intro c a d v w h; cases d <;> exact h) ?_
  simp only [Reg.pickL, List.getElem?_cons_zero, List.getElem?_cons_succ]
  refine Reg.mix_take 4 (by kernel_rfl) ?_
  simp only [List.take_succ_cons, List.take_zero, List.drop_succ_cons, List.drop_zero]
  repeat (go_big_quiet_step (fail))
  refine wpQuiet_nil ?_
  refine Reg.mix_one (by kernel_rfl) ?_
  go_wp2_with ((go_at_call 25; refine (unhide q3 _ ((unhide HB3).trans ((unhide BW).mono (unhide HB3).size))).mono ?_; rintro e w4 ⟨v4, rfl, ho4, hb4⟩; obtain ⟨ao4, cp4, rfl⟩ := (Rd.own ho4).form; have BW := hide ((unhide BW).trans (hb4.mono (unhide BW).size)); clear hb4 ho4))
  refine ⟨rfl, ⟨⟨_, unhide BW⟩, rfl⟩, ?_⟩
  refine Reg.mix_take 1 (by kernel_rfl) ?_
  simp only [List.take_succ_cons, List.take_zero, List.drop_succ_cons, List.drop_zero]
  repeat (go_big_quiet_step (fail))
  refine wpQuiet_nil ?_
  refine Reg.mix_one (by kernel_rfl) ?_
  go_wp2_with ((go_at_call 25; refine (unhide q4 _ ((unhide HB3).trans ((unhide BW).mono (unhide HB3).size))).mono ?_; rintro e w5 ⟨v5, rfl, ho5, hb5⟩; obtain ⟨ao5, cp5, rfl⟩ := (Rd.own ho5).form; have BW := hide ((unhide BW).trans (hb5.mono (unhide BW).size)); clear hb5 ho5))
  refine ⟨rfl, ⟨⟨_, unhide BW⟩, rfl⟩, ?_⟩
  have hw : wrap64 ((A.length : Int) + (B.length : Int)) = (A.length : Int) + (B.length : Int) := by unfold wrap64; omega
  have HBx := hide ((unhide HB3).trans ((unhide BW).mono (unhide HB3).size))
  by_cases hz : A.isEmpty = true ∧ B.isEmpty = true
  · have HE2 := Lib.hid (show em = 0 by rw [unhide HE, if_pos hz])
    have hd : decide ((0 : Int) < (A.length : Int) + (B.length : Int)) = false := by
      rw [List.isEmpty_iff, List.isEmpty_iff] at hz
      rw [hz.1, hz.2]; rfl
    clear hz HE
    refine Reg.mix_take 3 (by kernel_rfl) ?_
    simp only [List.take_succ_cons, List.take_zero, List.drop_succ_cons, List.drop_zero]
    repeat (go_big_quiet_step (fail))
    refine wpQuiet_nil ?_
    refine Reg.mix_nil ?_
    go_wp2_with fail
    go_ret
    exact ⟨by rw [HE2.out] <;> rfl, unhide HBx⟩
  · have HE2 := Lib.hid (show em = 6 by rw [unhide HE, if_neg hz])
    have hd : decide ((0 : Int) < (A.length : Int) + (B.length : Int)) = true := by
      refine decide_eq_true ?_
      rcases A with _ | ⟨a, A⟩
      · rcases B with _ | ⟨b, B⟩
        · exact absurd ⟨rfl, rfl⟩ hz
        · first | (simp; done) | (simp; omega)
      · first | (simp; done) | (simp; omega)
    clear hz HE
    refine Reg.mix_take 3 (by kernel_rfl) ?_
    simp only [List.take_succ_cons, List.take_zero, List.drop_succ_cons, List.drop_zero]
    repeat (go_big_quiet_step (fail))
    refine wpQuiet_nil ?_
    refine Reg.mix_nil ?_
    go_wp2_with fail
    go_ret
    exact ⟨by rw [HE2.out] <;> rfl, unhide HBx⟩
end Go.Proofs.YtbpopmbabckojaaGreatDoor.Sp
