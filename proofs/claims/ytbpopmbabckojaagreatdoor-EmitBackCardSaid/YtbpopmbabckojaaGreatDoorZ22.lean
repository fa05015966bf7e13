/- Lemmas for the statement's proof, several texts in one: M2, Hx, Ck. -/
import Derived.Test.YtbpopmbabckojaaGreatDoorZ17
import Derived.Test.YtbpopmbabckojaaGreatDoorZ02
import Derived.Test.YtbpopmbabckojaaGreatDoorZ15
set_option linter.unusedVariables false
set_option linter.unusedSimpArgs false
/- A status's words; whether it has no content: both sides. (Its first half was printed.) -/
section
namespace Go.Proofs.YtbpopmbabckojaaGreatDoor.Sp
open Go.RowKit

def reasonB (st : Int) : ByteArray :=
  if st = 200 then ⟨#[79, 75]⟩ else
  if st = 304 then ⟨#[78, 111, 116, 32, 77, 111, 100, 105, 102, 105, 101, 100]⟩ else
  if st = 400 then ⟨#[66, 97, 100, 32, 82, 101, 113, 117, 101, 115, 116]⟩ else
  if st = 413 then ⟨#[67, 111, 110, 116, 101, 110, 116, 32, 84, 111, 111, 32, 76, 97, 114, 103, 101]⟩ else
  if st = 431 then ⟨#[82, 101, 113, 117, 101, 115, 116, 32, 72, 101, 97, 100, 101, 114, 32, 70, 105, 101, 108, 100, 115, 32, 84, 111, 111, 32, 76, 97, 114, 103, 101]⟩ else
  if st = 500 then ⟨#[73, 110, 116, 101, 114, 110, 97, 108, 32, 83, 101, 114, 118, 101, 114, 32, 69, 114, 114, 111, 114]⟩ else
  if st = 501 then ⟨#[78, 111, 116, 32, 73, 109, 112, 108, 101, 109, 101, 110, 116, 101, 100]⟩ else
  if st = 502 then ⟨#[66, 97, 100, 32, 71, 97, 116, 101, 119, 97, 121]⟩ else
  if st = 503 then ⟨#[83, 101, 114, 118, 105, 99, 101, 32, 85, 110, 97, 118, 97, 105, 108, 97, 98, 108, 101]⟩ else
  if st = 504 then ⟨#[71, 97, 116, 101, 119, 97, 121, 32, 84, 105, 109, 101, 111, 117, 116]⟩ else
  if st = 505 then ⟨#[72, 84, 84, 80, 32, 86, 101, 114, 115, 105, 111, 110, 32, 78, 111, 116, 32, 83, 117, 112, 112, 111, 114, 116, 101, 100]⟩ else
  ⟨#[79, 116, 104, 101, 114]⟩
set_option maxRecDepth 100000 in
set_option maxHeartbeats 2000000 in
theorem reason_any (st : Int) (w : World) : Calls Tryz.prog 23 #[.int .i64 st] w fun e w' => e = .returned (.string (reasonB st)) ∧ w = w' := by
  by_cases a0 : st = 200
  · subst a0
    go_enter Tryz.func23, Tryz.ntmps23
    go_wp2_with fail
    go_ret
    exact ⟨rfl, rfl⟩
  have b0 : (st == 200) = false := by simpa using a0
  by_cases a1 : st = 304
  · subst a1
    clear b0
    go_enter Tryz.func23, Tryz.ntmps23
    go_wp2_with fail
    go_ret
    exact ⟨rfl, rfl⟩
  have b1 : (st == 304) = false := by simpa using a1
  by_cases a2 : st = 400
  · subst a2
    clear b0 b1
    go_enter Tryz.func23, Tryz.ntmps23
    go_wp2_with fail
    go_ret
    exact ⟨rfl, rfl⟩
  have b2 : (st == 400) = false := by simpa using a2
  by_cases a3 : st = 413
  · subst a3
    clear b0 b1 b2
    go_enter Tryz.func23, Tryz.ntmps23
    go_wp2_with fail
    go_ret
    exact ⟨rfl, rfl⟩
  have b3 : (st == 413) = false := by simpa using a3
  by_cases a4 : st = 431
  · subst a4
    clear b0 b1 b2 b3
    go_enter Tryz.func23, Tryz.ntmps23
    go_wp2_with fail
    go_ret
    exact ⟨rfl, rfl⟩
  have b4 : (st == 431) = false := by simpa using a4
  by_cases a5 : st = 500
  · subst a5
    clear b0 b1 b2 b3 b4
    go_enter Tryz.func23, Tryz.ntmps23
    go_wp2_with fail
    go_ret
    exact ⟨rfl, rfl⟩
  have b5 : (st == 500) = false := by simpa using a5
  by_cases a6 : st = 501
  · subst a6
    clear b0 b1 b2 b3 b4 b5
    go_enter Tryz.func23, Tryz.ntmps23
    go_wp2_with fail
    go_ret
    exact ⟨rfl, rfl⟩
  have b6 : (st == 501) = false := by simpa using a6
  by_cases a7 : st = 502
  · subst a7
    clear b0 b1 b2 b3 b4 b5 b6
    go_enter Tryz.func23, Tryz.ntmps23
    go_wp2_with fail
    go_ret
    exact ⟨rfl, rfl⟩
  have b7 : (st == 502) = false := by simpa using a7
  by_cases a8 : st = 503
  · subst a8
    clear b0 b1 b2 b3 b4 b5 b6 b7
    go_enter Tryz.func23, Tryz.ntmps23
    go_wp2_with fail
    go_ret
    exact ⟨rfl, rfl⟩
  have b8 : (st == 503) = false := by simpa using a8
  by_cases a9 : st = 504
  · subst a9
    clear b0 b1 b2 b3 b4 b5 b6 b7 b8
    go_enter Tryz.func23, Tryz.ntmps23
    go_wp2_with fail
    go_ret
    exact ⟨rfl, rfl⟩
  have b9 : (st == 504) = false := by simpa using a9
  by_cases a10 : st = 505
  · subst a10
    clear b0 b1 b2 b3 b4 b5 b6 b7 b8 b9
    go_enter Tryz.func23, Tryz.ntmps23
    go_wp2_with fail
    go_ret
    exact ⟨rfl, rfl⟩
  have b10 : (st == 505) = false := by simpa using a10
  have hr := Lib.hid (show reasonB st = ⟨#[79, 116, 104, 101, 114]⟩ by unfold reasonB; rw [if_neg a0, if_neg a1, if_neg a2, if_neg a3, if_neg a4, if_neg a5, if_neg a6, if_neg a7, if_neg a8, if_neg a9, if_neg a10])
  clear a0 a1 a2 a3 a4 a5 a6 a7 a8 a9 a10
  go_enter Tryz.func23, Tryz.ntmps23
  go_wp2_with fail
  go_ret
  exact ⟨by rw [hr.out]; rfl, rfl⟩
set_option maxRecDepth 100000 in
set_option maxHeartbeats 2000000 in
theorem rreason_any (st : Int) (w : World) : Calls Tryz.prog 34 #[.int .i64 st] w fun e w' => e = .returned (.string (reasonB st)) ∧ w = w' := by
  by_cases a0 : st = 200
  · subst a0
    go_enter Tryz.func34, Tryz.ntmps34
    go_wp2_with fail
    go_ret
    exact ⟨rfl, rfl⟩
  have b0 : (st == 200) = false := by simpa using a0
  by_cases a1 : st = 304
  · subst a1
    clear b0
    go_enter Tryz.func34, Tryz.ntmps34
    go_wp2_with fail
    go_ret
    exact ⟨rfl, rfl⟩
  have b1 : (st == 304) = false := by simpa using a1
  by_cases a2 : st = 400
  · subst a2
    clear b0 b1
    go_enter Tryz.func34, Tryz.ntmps34
    go_wp2_with fail
    go_ret
    exact ⟨rfl, rfl⟩
  have b2 : (st == 400) = false := by simpa using a2
  by_cases a3 : st = 413
  · subst a3
    clear b0 b1 b2
    go_enter Tryz.func34, Tryz.ntmps34
    go_wp2_with fail
    go_ret
    exact ⟨rfl, rfl⟩
  have b3 : (st == 413) = false := by simpa using a3
  by_cases a4 : st = 431
  · subst a4
    clear b0 b1 b2 b3
    go_enter Tryz.func34, Tryz.ntmps34
    go_wp2_with fail
    go_ret
    exact ⟨rfl, rfl⟩
  have b4 : (st == 431) = false := by simpa using a4
  by_cases a5 : st = 500
  · subst a5
    clear b0 b1 b2 b3 b4
    go_enter Tryz.func34, Tryz.ntmps34
    go_wp2_with fail
    go_ret
    exact ⟨rfl, rfl⟩
  have b5 : (st == 500) = false := by simpa using a5
  by_cases a6 : st = 501
  · subst a6
    clear b0 b1 b2 b3 b4 b5
    go_enter Tryz.func34, Tryz.ntmps34
    go_wp2_with fail
    go_ret
    exact ⟨rfl, rfl⟩
  have b6 : (st == 501) = false := by simpa using a6
  by_cases a7 : st = 502
  · subst a7
    clear b0 b1 b2 b3 b4 b5 b6
    go_enter Tryz.func34, Tryz.ntmps34
    go_wp2_with fail
    go_ret
    exact ⟨rfl, rfl⟩
  have b7 : (st == 502) = false := by simpa using a7
  by_cases a8 : st = 503
  · subst a8
    clear b0 b1 b2 b3 b4 b5 b6 b7
    go_enter Tryz.func34, Tryz.ntmps34
    go_wp2_with fail
    go_ret
    exact ⟨rfl, rfl⟩
  have b8 : (st == 503) = false := by simpa using a8
  by_cases a9 : st = 504
  · subst a9
    clear b0 b1 b2 b3 b4 b5 b6 b7 b8
    go_enter Tryz.func34, Tryz.ntmps34
    go_wp2_with fail
    go_ret
    exact ⟨rfl, rfl⟩
  have b9 : (st == 504) = false := by simpa using a9
  by_cases a10 : st = 505
  · subst a10
    clear b0 b1 b2 b3 b4 b5 b6 b7 b8 b9
    go_enter Tryz.func34, Tryz.ntmps34
    go_wp2_with fail
    go_ret
    exact ⟨rfl, rfl⟩
  have b10 : (st == 505) = false := by simpa using a10
  have hr := Lib.hid (show reasonB st = ⟨#[79, 116, 104, 101, 114]⟩ by unfold reasonB; rw [if_neg a0, if_neg a1, if_neg a2, if_neg a3, if_neg a4, if_neg a5, if_neg a6, if_neg a7, if_neg a8, if_neg a9, if_neg a10])
  clear a0 a1 a2 a3 a4 a5 a6 a7 a8 a9 a10
  go_enter Tryz.func34, Tryz.ntmps34
  go_wp2_with fail
  go_ret
  exact ⟨by rw [hr.out]; rfl, rfl⟩

def noneI (st : Int) : Bool := decide (st < 200) || st == 204 || st == 304
set_option maxRecDepth 100000 in
theorem none_any (st : Int) (h0 : 100 ≤ st) (h1 : st ≤ 599) (w : World) : Calls Tryz.prog 38 #[.int .i64 st] w fun e w' => e = .returned (.bool (noneI st)) ∧ w = w' := by
  have hq : ((st.tdiv 100) == 1) = decide (st < 200) := by
    rw [Int.tdiv_eq_ediv_of_nonneg (by omega)]
    by_cases h : st < 200
    · rw [decide_eq_true h]
      have : st / 100 = 1 := by omega
      rw [this]; rfl
    · rw [decide_eq_false h, Bool.eq_false_iff]
      intro h2
      have : st / 100 = 1 := by simpa using h2
      omega
  by_cases h2 : st < 200
  · rw [decide_eq_true h2] at hq
    have hn := Lib.hid (show noneI st = true by unfold noneI; rw [decide_eq_true h2]; rfl)
    have hd : st / 100 = 1 := by omega
    clear h2
    go_enter Tryz.func38, Tryz.ntmps38
    go_wp2_with fail
    go_ret
    exact ⟨by rw [hn.out]; rfl, rfl⟩
  · rw [decide_eq_false h2] at hq
    have hn := Lib.hid (show noneI st = (st == 204 || st == 304) by unfold noneI; rw [decide_eq_false h2]; rfl)
    have hd : ¬ st / 100 = 1 := by omega
    clear h2
    by_cases h3 : st = 204
    · subst h3
      clear hq hn h0 h1 hd
      go_enter Tryz.func38, Tryz.ntmps38
      go_wp2_with fail
      go_ret
      exact ⟨rfl, rfl⟩
    by_cases h4 : st = 304
    · subst h4
      clear hq hn h0 h1 h3 hd
      go_enter Tryz.func38, Tryz.ntmps38
      go_wp2_with fail
      go_ret
      exact ⟨rfl, rfl⟩
    have b3 : (st == 204) = false := by simpa using h3
    have b4 : (st == 304) = false := by simpa using h4
    have hz := Lib.hid (show noneI st = false by rw [hn.out, b3, b4]; rfl)
    clear hn
    go_enter Tryz.func38, Tryz.ntmps38
    go_wp2_with fail
    go_ret
    exact ⟨by rw [hz.out]; rfl, rfl⟩
set_option maxRecDepth 100000 in
theorem rnone_any (st : Int) (w : World) : Calls Tryz.prog 54 #[.int .i64 st] w fun e w' => e = .returned (.bool (noneI st)) ∧ w = w' := by
  by_cases h2 : st < 200
  · have hn := Lib.hid (show noneI st = true by unfold noneI; rw [decide_eq_true h2]; rfl)
    have hb : decide (st < 200) = true := decide_eq_true h2
    clear h2
    go_enter Tryz.func54, Tryz.ntmps54
    go_wp2_with fail
    go_ret
    exact ⟨by rw [hn.out]; rfl, rfl⟩
  · have hb : decide (st < 200) = false := decide_eq_false h2
    have hn := Lib.hid (show noneI st = (st == 204 || st == 304) by unfold noneI; rw [hb]; rfl)
    by_cases h3 : st = 204
    · subst h3
      clear hn h2 hb
      go_enter Tryz.func54, Tryz.ntmps54
      go_wp2_with fail
      go_ret
      exact ⟨rfl, rfl⟩
    by_cases h4 : st = 304
    · subst h4
      clear hn h3 h2 hb
      go_enter Tryz.func54, Tryz.ntmps54
      go_wp2_with fail
      go_ret
      exact ⟨rfl, rfl⟩
    have b3 : (st == 204) = false := by simpa using h3
    have b4 : (st == 304) = false := by simpa using h4
    have hz := Lib.hid (show noneI st = false by rw [hn.out, b3, b4]; rfl)
    clear hn
    go_enter Tryz.func54, Tryz.ntmps54
    go_wp2_with fail
    go_ret
    exact ⟨by rw [hz.out]; rfl, rfl⟩
end Go.Proofs.YtbpopmbabckojaaGreatDoor.Sp
end

/- Numbers by sixteen: strconv.FormatInt at base 16 (below 4096), the reference's digits. -/
section
namespace Go.Proofs.YtbpopmbabckojaaGreatDoor.Sp
open Go.RowKit

/-- a digit by sixteen -/
def hxC (d : Nat) : UInt8 := if d < 10 then UInt8.ofNat (48 + d) else UInt8.ofNat (87 + d)
/-- a number's digits by sixteen (numbers below 4096) -/
def hxL (n : Nat) : List UInt8 := if n < 16 then [hxC n] else if n < 256 then [hxC (n / 16), hxC (n % 16)] else [hxC (n / 256), hxC (n / 16 % 16), hxC (n % 16)]
theorem hxL_len (n : Nat) : (hxL n).length ≤ 3 := by
  unfold hxL
  split
  · simp
  · split <;> simp
def Bru (w : World) : Prop := w.cell? ⟨3, 15, none⟩ = some (.int .u8 4)
theorem lt_cell {w : World} {a : Addr} {v : Value} (h : w.cell? a = some v) : a.block < w.heap.size := by
  rcases Nat.lt_or_ge a.block w.heap.size with h' | h'
  · exact h'
  · unfold World.cell? at h
    rw [Array.getElem?_eq_none h'] at h; cases h
theorem Bru.below {w w' : World} (h : Bru w) (hb : Below w.heap.size w w') : Bru w' := (hb.cell (lt_cell h)).trans h

set_option maxRecDepth 100000 in
theorem pow2_16 (w : World) : Calls Tryz.prog 122 #[.int .i64 16] w fun e w' => e = .returned (.bool true) ∧ w = w' := by
  go_enter Tryz.func122, Tryz.ntmps122
  go_wp2_with fail
  go_ret
  exact ⟨rfl, rfl⟩
set_option maxRecDepth 100000 in
theorem tz_16 (w : World) (h : Bru w) : Calls Tryz.prog 123 #[.int .u64 16] w fun e w' => e = .returned (.int .i64 4) ∧ w = w' := by
  unfold Bru at h
  have e1 : bits BinOp.and IntKind.u64 16 (IntKind.u64.wrap (-16)) = 16 := by kernel_rfl
  have e2 : IntKind.u64.wrap 4573923408821661840 = 4573923408821661840 := by kernel_rfl
  go_enter Tryz.func123, Tryz.ntmps123
  go_wp2
  go_ret
  exact ⟨rfl, rfl⟩
theorem text1 (b off cap : Nat) (c : UInt8) (w : World) (h : w.cell? ⟨b, off, none⟩ = some (.int .u8 c.toNat)) : (convert 66 9 (.slice (some ⟨b, off, none⟩) 1 cap)).run Tryz.prog w = .ok (.string ⟨#[c]⟩) w := by
  refine Mem.run_text (l := [c]) 66 5 9 Tryz.underlying66 Tryz.underlying5 Tryz.underlying9 b off cap (fun i v hv => ?_)
  rcases i with _ | i
  · simp [Mem.bytesV] at hv; subst hv; exact h
  · simp [Mem.bytesV] at hv
theorem text2 (b off cap : Nat) (c d : UInt8) (w : World) (h : w.cell? ⟨b, off, none⟩ = some (.int .u8 c.toNat)) (h1 : w.cell? ⟨b, off + 1, none⟩ = some (.int .u8 d.toNat)) : (convert 66 9 (.slice (some ⟨b, off, none⟩) 2 cap)).run Tryz.prog w = .ok (.string ⟨#[c, d]⟩) w := by
  refine Mem.run_text (l := [c, d]) 66 5 9 Tryz.underlying66 Tryz.underlying5 Tryz.underlying9 b off cap (fun i v hv => ?_)
  rcases i with _ | _ | i
  · simp [Mem.bytesV] at hv; subst hv; exact h
  · simp [Mem.bytesV] at hv; subst hv; exact h1
  · simp [Mem.bytesV] at hv
theorem text3 (b off cap : Nat) (c d e : UInt8) (w : World) (h : w.cell? ⟨b, off, none⟩ = some (.int .u8 c.toNat)) (h1 : w.cell? ⟨b, off + 1, none⟩ = some (.int .u8 d.toNat)) (h2 : w.cell? ⟨b, off + 2, none⟩ = some (.int .u8 e.toNat)) : (convert 66 9 (.slice (some ⟨b, off, none⟩) 3 cap)).run Tryz.prog w = .ok (.string ⟨#[c, d, e]⟩) w := by
  refine Mem.run_text (l := [c, d, e]) 66 5 9 Tryz.underlying66 Tryz.underlying5 Tryz.underlying9 b off cap (fun i v hv => ?_)
  rcases i with _ | _ | _ | i
  · simp [Mem.bytesV] at hv; subst hv; exact h
  · simp [Mem.bytesV] at hv; subst hv; exact h1
  · simp [Mem.bytesV] at hv; subst hv; exact h2
  · simp [Mem.bytesV] at hv
def dig36 : ByteArray := ⟨#[48, 49, 50, 51, 52, 53, 54, 55, 56, 57, 97, 98, 99, 100, 101, 102, 103, 104, 105, 106, 107, 108, 109, 110, 111, 112, 113, 114, 115, 116, 117, 118, 119, 120, 121, 122]⟩
theorem dig36_at (k : Nat) (h : k < 16) (w : World) : (Instr.index 9 (.string dig36) (.int .u64 k)).run Tryz.prog w = .ok (.int .u8 (hxC k).toNat) w := by
  have h1 : (0 : Int) ≤ (k : Int) ∧ (k : Int) < 36 := by omega
  have h2 : ∀ k : Fin 16, (dig36.data[k.val]!).toNat = (hxC k.val).toNat := by decide
  have h3 := h2 ⟨k, h⟩
  have h4 : k < dig36.data.size := by show k < 36; omega
  simp only at h3
  have h5 : dig36[k]? = some (hxC k) := by
    have e : dig36.data[k]! = hxC k := UInt8.toNat_inj.1 h3
    rw [getElem!_pos dig36.data k h4] at e
    have h6 : k < dig36.size := h4
    rw [getElem?_pos dig36 k h6]
    exact congrArg some e
  have h7 : ((dig36.size : Nat) : Int) = 36 := rfl
  generalize dig36 = D at h5 h7 ⊢
  simp [Instr.index, run_underlying Tryz.underlying9, asIntOf, part, go_sem, h1, h5, h7]
theorem and15 (n : Nat) (h : n < 4096) : bits BinOp.and IntKind.u64 (n : Int) 15 = ((n % 16 : Nat) : Int) := by
  have := bits_and_u64_nat n 15 (by omega) (by omega)
  rw [show ((15 : Nat) : Int) = 15 from rfl] at this
  rw [this]
  congr 1
  exact Nat.and_two_pow_sub_one_eq_mod n 4

set_option maxRecDepth 100000 in
set_option maxHeartbeats 4000000 in
theorem fbits_any (n : Nat) (hn : n < 4096) (w : World) (hT : Bru w) :
    Calls Tryz.prog 103 #[.slice none 0 0, .int .u64 n, .int .i64 16, .bool false, .bool false] w fun e w' => e = .returned (.tuple #[.slice none 0 0, .string (⟨(hxL n).toArray⟩)]) ∧ Below w.heap.size w w' := by
  have HT := hide hT
  clear hT
  go_enter Tryz.func103, Tryz.ntmps103
  go_wp2_with (first
    | (go_at_call 122; refine (pow2_16 _).mono ?_; rintro e w2 ⟨rfl, rfl⟩)
    | (go_at_call 123; refine (tz_16 _ ((unhide HT).below ((Below.refl w.heap.size w).alloc (Nat.le_refl _) _))).mono ?_; rintro e w3 ⟨rfl, rfl⟩))
  have HH := hide (Reg.Has.new w (List.replicate 65 (Value.int IntKind.u8 0)) 141)
  go_loopw [1, 13] (fun u i wr => ∃ (k m : Nat) (xs : List Value), u = .int .u64 m ∧ i = .int .i64 ((65 - k : Nat) : Int) ∧ xs.length = 65 ∧ Reg.Has wr w.heap.size xs ∧ Below w.heap.size w wr ∧ ((k = 0 ∧ m = n) ∨ (k = 1 ∧ 16 ≤ n ∧ m = n / 16 ∧ xs[64]? = some (.int .u8 (hxC (n % 16)).toNat)) ∨ (k = 2 ∧ 256 ≤ n ∧ m = n / 256 ∧ xs[63]? = some (.int .u8 (hxC (n / 16 % 16)).toNat) ∧ xs[64]? = some (.int .u8 (hxC (n % 16)).toNat)))) (fun u i _ => (intOf i).toNat)
  case atStart => exact ⟨0, n, List.replicate 65 (Value.int IntKind.u8 0), rfl, rfl, by simp, unhide HH, (Below.refl w.heap.size w).alloc (Nat.le_refl _) _, .inl ⟨rfl, rfl⟩⟩
  case round =>
    obtain ⟨k, m, xs, rfl, rfl, hlen, hhas, hbel, hcase⟩ := hrel
    have hc := fun i (h : i < 65) => hhas.cell i xs[i] (by simp [hlen, h])
    have hf := fun i (h : i < 65) => hhas.free i (by omega)
    have HHa := hide hhas
    have HBe := hide hbel
    have hm4 : m < 4096 := by rcases hcase with ⟨-, e⟩ | ⟨-, -, e, -⟩ | ⟨-, -, e, -⟩ <;> omega
    have ha := and15 m hm4
    clear hhas hbel
    rcases Nat.lt_or_ge m 16 with hm | hm
    · have hx2 := fun w => dig36_at m hm w
      unfold dig36 at hx2
      clear ha
      obtain ⟨x, hx⟩ : ∃ x, hxC m = x := ⟨_, rfl⟩
      rw [hx] at hx2
      rcases hcase with ⟨rfl, e⟩ | ⟨rfl, hn1, e, g1⟩ | ⟨rfl, hn1, e, g1, g2⟩
      · have c64 := hc 64 (by omega)
        have f64 := hf 64 (by omega)
        have cv := fun w' => text1 w.heap.size 64 1 x w'
        have HE := Lib.hid (show hxL n = [x] by unfold hxL; rw [if_pos (by omega), ← hx, e])
        clear hf hc e hx
        go_wp2_with fail
        go_ret2
        exact ⟨by rw [HE.out]; rfl, (unhide HBe).setCell (Nat.le_refl _) _⟩
      · have c64 := (unhide HHa).cell 64 _ g1
        have c63 := hc 63 (by omega)
        have f63 := hf 63 (by omega)
        obtain ⟨y, hy⟩ : ∃ y, hxC (n % 16) = y := ⟨_, rfl⟩
        rw [hy] at c64
        have cv := fun w' => text2 w.heap.size 63 2 x y w'
        have HE := Lib.hid (show hxL n = [x, y] by unfold hxL; rw [if_neg (by omega), if_pos (by omega), ← hx, ← hy, e])
        clear hf hc g1 e hx hy
        go_wp2_with fail
        go_ret2
        exact ⟨by rw [HE.out]; rfl, (unhide HBe).setCell (Nat.le_refl _) _⟩
      · have c64 := (unhide HHa).cell 64 _ g2
        have c63 := (unhide HHa).cell 63 _ g1
        have c62 := hc 62 (by omega)
        have f62 := hf 62 (by omega)
        obtain ⟨y, hy⟩ : ∃ y, hxC (n / 16 % 16) = y := ⟨_, rfl⟩
        obtain ⟨z, hz⟩ : ∃ y, hxC (n % 16) = y := ⟨_, rfl⟩
        rw [hy] at c63
        rw [hz] at c64
        have cv := fun w' => text3 w.heap.size 62 3 x y z w'
        have HE := Lib.hid (show hxL n = [x, y, z] by unfold hxL; rw [if_neg (by omega), if_neg (by omega), ← hx, ← hy, ← hz, e])
        clear hf hc g1 g2 e hx hy hz
        go_wp2_with fail
        go_ret2
        exact ⟨by rw [HE.out]; rfl, (unhide HBe).setCell (Nat.le_refl _) _⟩
    · have hx1 := fun w => dig36_at (m % 16) (by omega) w
      unfold dig36 at hx1
      obtain ⟨x, hx⟩ : ∃ x, hxC (m % 16) = x := ⟨_, rfl⟩
      rw [hx] at hx1
      obtain ⟨q, hq⟩ : ∃ q, m % 16 = q := ⟨_, rfl⟩
      rw [hq] at hx1 ha hx
      have hq16 : q < 16 := by omega
      rcases hcase with ⟨rfl, e⟩ | ⟨rfl, hn1, e, g1⟩ | ⟨rfl, hn1, e, g1, g2⟩
      · have c64 := hc 64 (by omega)
        have f64 := hf 64 (by omega)
        have HE := Lib.hid (show m / 16 = n / 16 by rw [e])
        have HX := Lib.hid (show x = hxC (n % 16) by rw [← hx, ← hq, e])
        have hn16 : 16 ≤ n := by omega
        clear hf hc e hx hq
        go_wp2_with fail
        go_roundw
        case rel => exact ⟨1, m / 16, xs.set 64 (.int .u8 x.toNat), by go_num, by go_num, by simp [hlen], (unhide HHa).put 64 _, (unhide HBe).setCell (Nat.le_refl _) _, .inr (.inl ⟨rfl, hn16, HE.out, by rw [← HX.out]; simp [hlen]⟩)⟩
        case measure => simp [intOf]
      · have c63 := hc 63 (by omega)
        have f63 := hf 63 (by omega)
        have HE := Lib.hid (show m / 16 = n / 256 by omega)
        have HX := Lib.hid (show x = hxC (n / 16 % 16) by rw [← hx, ← hq, e])
        have hn256 : 256 ≤ n := by omega
        clear hf hc e hx hq
        go_wp2_with fail
        go_roundw
        case rel => exact ⟨2, m / 16, xs.set 63 (.int .u8 x.toNat), by go_num, by go_num, by simp [hlen], (unhide HHa).put 63 _, (unhide HBe).setCell (Nat.le_refl _) _, .inr (.inr ⟨rfl, hn256, HE.out, by rw [← HX.out]; simp [hlen], by rw [List.getElem?_set_ne (by omega)]; exact g1⟩)⟩
        case measure => simp [intOf]
      · omega
def hxB (n : Nat) : ByteArray := ⟨(hxL n).toArray⟩
theorem hxB_size (n : Nat) : (hxB n).size ≤ 3 := by
  have := hxL_len n
  show (hxL n).toArray.size ≤ 3
  simpa using this
theorem hxB_data (n : Nat) : (hxB n).data.toList = hxL n := rfl
set_option maxRecDepth 100000 in
set_option maxHeartbeats 2000000 in
theorem fmtI_any (n : Nat) (hn : n < 4096) (w : World) (hT : Bru w) :
    Calls Tryz.prog 80 #[.int .i64 n, .int .i64 16] w fun e w' => e = .returned (.string (hxB n)) ∧ Below w.heap.size w w' := by
  have c1 := hide (fbits_any n hn w hT)
  have hw : IntKind.u64.wrap (n : Int) = n := by
    rw [IntKind.wrap_u64]; omega
  clear hT
  go_enter Tryz.func80, Tryz.ntmps80
  go_wp2_with fail
  refine (unhide c1).mono ?_; rintro e w1 ⟨rfl, hb1⟩
  go_wp2_with fail
  go_ret
  exact ⟨rfl, hb1⟩
set_option maxRecDepth 100000 in
set_option maxHeartbeats 2000000 in
theorem fmt16_any (n : Nat) (hn : n < 4096) (w : World) (hT : Bru w) :
    Calls Tryz.prog 74 #[.int .i64 n, .int .i64 16] w fun e w' => e = .returned (.string (hxB n)) ∧ Below w.heap.size w w' := by
  have c1 := hide (fmtI_any n hn w hT)
  clear hT
  go_enter Tryz.func74, Tryz.ntmps74
  go_wp2_with fail
  refine (unhide c1).mono ?_; rintro e w1 ⟨rfl, hb1⟩
  go_wp2_with fail
  go_ret
  exact ⟨rfl, hb1⟩
def hex16 : ByteArray := ⟨#[48, 49, 50, 51, 52, 53, 54, 55, 56, 57, 97, 98, 99, 100, 101, 102]⟩
theorem hex16_at (k : Nat) (h : k < 16) : hex16.extract k (k + 1) = ⟨#[hxC k]⟩ := by
  have h1 : ∀ k : Fin 16, (hex16.extract k.val (k.val + 1)).data.toList = [hxC k.val] := by decide +kernel
  have := h1 ⟨k, h⟩
  exact ba_eq this
set_option maxRecDepth 100000 in
set_option maxHeartbeats 2000000 in
theorem rdigits_any (n : Nat) (hn : n < 4096) (w : World) :
    Calls Tryz.prog 75 #[.int .i64 n] w fun e w' => e = .returned (.string (hxB n)) ∧ w = w' := by
  go_enter Tryz.func75, Tryz.ntmps75
  go_wp2_with fail
  go_loop [0, 3] (fun u o => ∃ (k m : Nat) (x : ByteArray), u = .int .i64 m ∧ o = .string x ∧ x.size = k ∧ ((k = 0 ∧ m = n) ∨ (k = 1 ∧ 16 ≤ n ∧ m = n / 16 ∧ x.data.toList = [hxC (n % 16)]) ∨ (k = 2 ∧ 256 ≤ n ∧ m = n / 256 ∧ x.data.toList = [hxC (n / 16 % 16), hxC (n % 16)]))) (fun u _ => (intOf u).toNat)
  case atStart => exact ⟨0, n, ⟨#[]⟩, rfl, rfl, rfl, .inl ⟨rfl, rfl⟩⟩
  case round =>
    obtain ⟨k, m, x, rfl, rfl, hx, hcase⟩ := hrel
    have hx3 : x.size ≤ 3 := by rcases hcase with ⟨e, -⟩ | ⟨e, -⟩ | ⟨e, -⟩ <;> omega
    have HC := hide hcase
    clear hcase
    have HE := Lib.hid (hex16_at (m % 16) (by omega))
    obtain ⟨a, ha⟩ : ∃ a, m / 16 = a := ⟨_, rfl⟩
    obtain ⟨b, hb⟩ : ∃ b, m % 16 = b := ⟨_, rfl⟩
    have hd : Int.tdiv (m : Int) 16 = (a : Int) := by rw [Int.tdiv_eq_ediv_of_nonneg (by omega)]; omega
    have hr : Int.tmod (m : Int) 16 = (b : Int) := by rw [Int.tmod_eq_emod_of_nonneg (by omega)]; omega
    have hd2 : (m : Int) / 16 = (a : Int) := by omega
    have hr2 : (m : Int) % 16 = (b : Int) := by omega
    have hb16 : b < 16 := by omega
    rw [hb] at HE
    unfold hex16 at HE
    have HA := Lib.hid ha
    have HB := Lib.hid hb
    clear ha hb
    obtain ⟨c, hc⟩ : ∃ c, hxC b = c := ⟨_, rfl⟩
    rw [hc] at HE
    have HHC := Lib.hid hc
    clear hc
    have hm4 : m < 4096 := by rcases unhide HC with ⟨-, e⟩ | ⟨-, -, e, -⟩ | ⟨-, -, e, -⟩ <;> omega
    have ha4 : a < 256 := by have := HA.out; omega
    have hw : wrap64 (a : Int) = a := by unfold wrap64; omega
    rcases Nat.eq_zero_or_pos a with h0 | h0
    · subst h0
      go_wp2_with fail
      go_ret
      refine ⟨?_, rfl⟩
      rw [HE.out]
      refine congrArg (fun x => Ending.returned (.string x)) (ba_eq ?_)
      rw [app_data]
      have h1 := HA.out
      have h2 := HB.out
      have h3 := HHC.out
      unfold hxL
      rcases unhide HC with ⟨e0, e⟩ | ⟨e0, e1, e, e2⟩ | ⟨e0, e1, e, e2⟩
      · rw [if_pos (by omega)]
        have : x.data.toList = [] := List.eq_nil_of_length_eq_zero (by rw [← e0, ← hx]; simp)
        rw [this, ← h3, ← h2, ← e, Nat.mod_eq_of_lt (by omega)]; rfl
      · rw [if_neg (by omega), if_pos (by omega), e2, ← h3, ← h2, e, Nat.mod_eq_of_lt (by omega)]; rfl
      · rw [if_neg (by omega), if_neg (by omega), e2, ← h3, ← h2, e, Nat.mod_eq_of_lt (by omega)]; rfl
    · have h0b : decide ((a : Int) = 0) = false := decide_eq_false (by omega)
      go_wp2_with fail
      refine ⟨⟨k + 1, a, ⟨#[c]⟩ ++ x, by go_num, by rw [HE.out], by rw [ByteArray.size_append]; show 1 + x.size = k + 1; omega, ?_⟩, ?_⟩
      · have h1 := HA.out
        have h2 := HB.out
        have h3 := HHC.out
        rcases unhide HC with ⟨e0, e⟩ | ⟨e0, e1, e, e2⟩ | ⟨e0, e1, e, e2⟩
        · refine .inr (.inl ⟨by omega, by omega, by omega, ?_⟩)
          have : x.data.toList = [] := List.eq_nil_of_length_eq_zero (by rw [← e0, ← hx]; simp)
          rw [app_data, this, ← h3, ← h2, ← e]; rfl
        · refine .inr (.inr ⟨by omega, by omega, by omega, ?_⟩)
          rw [app_data, e2, ← h3, ← h2, e]; rfl
        · omega
      · simp [intOf, hw]; have := HA.out; omega
end Go.Proofs.YtbpopmbabckojaaGreatDoor.Sp
end

/- Plain: content in chunks. -/
section
namespace Go.Proofs.YtbpopmbabckojaaGreatDoor.Sp
open Go.RowKit Sl

/-- a chunk -/
def chunkL (s : List UInt8) : List UInt8 := hxL s.length ++ [13, 10] ++ s ++ [13, 10]
/-- chunks of k bytes -/
def chunksL (k : Nat) (s : List UInt8) : List UInt8 :=
  if h : s = [] ∨ k = 0 then [] else chunkL (s.take k) ++ chunksL k (s.drop k)
termination_by s.length
decreasing_by
  rw [not_or] at h
  have := List.length_pos_iff.2 h.1
  rw [List.length_drop]
  omega
/-- the size that is used -/
def sizeU (size : Int) (n : Nat) : Nat := if size < 1 then (if n = 0 then 1 else n) else size.toNat
/-- content in chunks, with trailers -/
def encL (bo : List UInt8) (size : Int) (T : List Fld) : List UInt8 := chunksL (sizeU size bo.length) bo ++ [48, 13, 10] ++ linesL T ++ [13, 10]

end Go.Proofs.YtbpopmbabckojaaGreatDoor.Sp
end
