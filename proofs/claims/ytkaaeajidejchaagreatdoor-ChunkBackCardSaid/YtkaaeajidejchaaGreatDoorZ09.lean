/- Lemmas for the statement's proof, several texts in one: P22, Hx, F8, Ck, M8, K3, P25. -/
import Derived.Test.YtkaaeajidejchaaGreatDoorZ08
import Derived.Test.YtkaaeajidejchaaGreatDoorZ01
import Derived.Test.YtkaaeajidejchaaGreatDoorZ03
import Derived.Test.YtkaaeajidejchaaGreatDoorZ04
import Derived.Lib.AppendIntMem
import Derived.Test.YtkaaeajidejchaaGreatDoorZ05
/- Plain: what is fed in pieces is as what is fed at once; the trailers are small. -/
namespace Go.Proofs.YtkaaeajidejchaaGreatDoor.Sp
open Go.RowKit Sl

section
variable {sz : List UInt8 → Nat × Nat} {fl : List UInt8 → Option Fld}
theorem cut_step {o o' d2 : Dec} {l : List UInt8} {a m r k : Nat} (hak : a ≤ k) (hI : feedS sz fl o (l.drop a) = (d2, r)) (hx : feedS sz fl o ((l.drop a).take (k - a)) = (o', m)) (hk : k ≤ l.length) :
    m ≤ k - a ∧ (stopS o' = false → a + m = k) ∧ ∃ r', feedS sz fl o' (l.drop (a + m)) = (d2, r') ∧ m + r' = r := by
  have hm := feedS_le sz fl ((l.drop a).take (k - a)) o
  have hlen : ((l.drop a).take (k - a)).length = k - a := by rw [List.length_take, List.length_drop]; omega
  rw [hx, hlen] at hm
  have hg : stopS o' = false → m = k - a := fun hs => by
    have := feedS_go sz fl ((l.drop a).take (k - a)) o (by rw [hx]; exact hs)
    rw [hx, hlen] at this
    exact this
  refine ⟨hm, fun hs => by have := hg hs; omega, ?_⟩
  have happ := feedS_app (sz := sz) (fl := fl) ((l.drop a).take (k - a)) ((l.drop a).drop (k - a)) o
  rw [List.take_append_drop, hI, hx] at happ
  simp only [Prod.mk.injEq] at happ
  obtain ⟨h1, h2⟩ := happ
  cases hs : stopS o'
  · have := hg hs
    have he : (l.drop a).drop (k - a) = l.drop (a + m) := by rw [List.drop_drop]; congr 1; omega
    rw [he] at h1 h2
    exact ⟨_, Prod.ext h1.symm rfl, h2.symm⟩
  · rw [feedS_stop sz fl hs] at h1 h2
    exact ⟨0, by rw [feedS_stop sz fl hs, h1], by simp only at h2; omega⟩
theorem cut_end {o d2 : Dec} {l : List UInt8} {a r : Nat} (hI : feedS sz fl o (l.drop a) = (d2, r)) (h : stopS o = true ∨ a = l.length) : o = d2 ∧ r = 0 := by
  rcases h with h | h
  · rw [feedS_stop sz fl h] at hI
    injection hI with h1 h2
    exact ⟨h1, h2.symm⟩
  · rw [h, List.drop_length] at hI
    injection hI with h1 h2
    exact ⟨h1, h2.symm⟩

/-- the trailers' names are small -/
def TrS (N : Nat) (d : Dec) : Prop := ∀ f ∈ d.tr, f.1.size ≤ N
theorem oneS_tr (hfl : ∀ l f, fl l = some f → f.1.size ≤ l.length) {N : Nat} {d : Dec} (h : TrS N d) (hl : d.line.length ≤ N) (c : UInt8) : TrS N (oneS sz fl d c) := by
  obtain ⟨L, H, C, B, st, line, body, left, behind, tr, bad, done⟩ := d
  unfold TrS at h ⊢
  simp only at h hl
  cases st <;> simp only [oneS, stepS]
  · repeat' split
    all_goals exact h
  · repeat' split
    all_goals exact h
  · repeat' split
    all_goals exact h
  · repeat' split
    all_goals exact h
  · repeat' split
    all_goals first
      | exact h
      | (rename_i f hf _
         intro g hg
         rcases List.mem_append.1 hg with hg | hg
         · exact h g hg
         · obtain rfl := List.mem_singleton.1 hg
           have := hfl _ _ hf
           simp at this
           omega)
theorem feedS_tr (hsz : ∀ s, statB (sz s).2 = true) (hfl : ∀ l f, fl l = some f → f.1.size ≤ l.length) (N : Nat) : ∀ (l : List UInt8) (k : Nat) (d : Dec), Okd k d → TrS N d → k + l.length ≤ N → TrS N (feedS sz fl d l).1
  | [], _, _, _, h, _ => h
  | c :: t, k, d, hk, h, hN => by
    unfold feedS
    split
    · exact h
    · have hl := hk.l1
      simp only [List.length_cons] at hN
      exact feedS_tr hsz hfl N t (k + 1) _ (oneS_ok (fl := fl) hsz hk c) (oneS_tr hfl h (by omega) c) (by omega)
end
theorem flF_small (l : List UInt8) (f : Fld) (h : flF l = some f) : f.1.size ≤ l.length := by
  unfold flF at h
  split at h
  · injection h with h
    have := (lineF_size (ofL l)).1
    rw [h] at this
    have h2 : (ofL l).size = l.length := size_list rfl
    omega
  · cases h
theorem newD_tr (L H C B : Int) (N : Nat) : TrS N (newD L H C B) := fun _ h => by cases h

theorem samePF_refl (f : Fld) : samePF (f, f) = true := by unfold samePF same; simp
theorem sameFs_refl (A : List Fld) : sameFs A A = true := by
  unfold sameFs
  rw [decide_eq_true rfl, Bool.true_and, List.all_eq_true]
  intro p hp
  obtain ⟨i, hi⟩ := List.getElem?_of_mem hp
  have hlt : i < (A.zip A).length := (List.getElem?_eq_some_iff.1 hi).1
  have := List.getElem_zip (h := hlt)
  rw [(List.getElem?_eq_some_iff.1 hi).2] at this
  rw [this]
  exact samePF_refl _

theorem rsame_refl (u v : Value) (A : List Fld) (hA : A.length ≤ 1000000) (hs : ∀ f ∈ A, f.1.size ≤ 200) (w : World) (hu : Rd w u A.length 2 (fldV A)) (hv : Rd w v A.length 2 (fldV A)) :
    Calls Tryz.prog 19 #[u, v] w fun e w' => e = .returned (.bool true) ∧ Below w.heap.size w w' := by
  have h := rsameF_any u v A A (by omega) (by omega) (fun f hf => by have := hs f hf; omega) (fun f hf => by have := hs f hf; omega) w hu hv
  rw [sameFs_refl] at h
  exact h
theorem okd_le {k k' : Nat} {d : Dec} (h : Okd k d) (hk : k ≤ k') : Okd k' d := ⟨h.bo, h.da, h.ba, Nat.le_trans h.l1 hk, Nat.le_trans h.l2 hk, Nat.le_trans h.l3 hk, Nat.le_trans h.l4 hk⟩

/-- a slice of numbers that came in -/
def intV (L : List Int) : List Value := L.map fun n => .int .i64 n
theorem intV_get (L : List Int) (i : Nat) (h : i < L.length) : (intV L)[i]? = some (.int .i64 L[i]) := by simp [intV, h]
theorem int_cell {w : World} {ao : Option Addr} {n cap : Nat} {L : List Int} (h : Rd w (.slice ao n cap) n 1 (intV L)) (k : Nat) (hk : k < L.length) :
    ∃ b off, ao = some ⟨b, off, none⟩ ∧ b < w.heap.size ∧ w.cell? ⟨b, off + k, none⟩ = some (.int .i64 L[k]) := by
  obtain ⟨ao', cap', e, _, _, _, hc⟩ := h
  cases e
  have hg := intV_get L k hk
  obtain ⟨b, off, rfl, hlt, hcc⟩ := hc (by intro e; rw [e] at hg; simp at hg)
  exact ⟨b, off, rfl, hlt, hcc _ _ hg⟩
end Go.Proofs.YtkaaeajidejchaaGreatDoor.Sp

/- Numbers by sixteen: strconv.FormatInt at base 16 (below 4096), the reference's digits. -/
namespace Go.Proofs.YtkaaeajidejchaaGreatDoor.Sp
open Go.RowKit

/-- a digit by sixteen -/
def hxC (d : Nat) : UInt8 := if d < 10 then UInt8.ofNat (48 + d) else UInt8.ofNat (87 + d)
/-- a number's digits by sixteen (numbers below 4096) -/
def hxL (n : Nat) : List UInt8 := if n < 16 then [hxC n] else if n < 256 then [hxC (n / 16), hxC (n % 16)] else [hxC (n / 256), hxC (n / 16 % 16), hxC (n % 16)]
theorem hxL_len (n : Nat) : (hxL n).length ≤ 3 := by
  unfold hxL
  split
  · simp
  · split <;> simp
def Bru (w : World) : Prop := w.cell? ⟨4, 15, none⟩ = some (.int .u8 4)
theorem lt_cell {w : World} {a : Addr} {v : Value} (h : w.cell? a = some v) : a.block < w.heap.size := by
  rcases Nat.lt_or_ge a.block w.heap.size with h' | h'
  · exact h'
  · unfold World.cell? at h
    rw [Array.getElem?_eq_none h'] at h; cases h
theorem Bru.below {w w' : World} (h : Bru w) (hb : Below w.heap.size w w') : Bru w' := (hb.cell (lt_cell h)).trans h

set_option maxRecDepth 100000 in
theorem pow2_16 (w : World) : Calls Tryz.prog 91 #[.int .i64 16] w fun e w' => e = .returned (.bool true) ∧ w = w' := by
  go_enter Tryz.func91, Tryz.ntmps91
  go_wp2_with fail
  go_ret
  exact ⟨rfl, rfl⟩
set_option maxRecDepth 100000 in
theorem tz_16 (w : World) (h : Bru w) : Calls Tryz.prog 92 #[.int .u64 16] w fun e w' => e = .returned (.int .i64 4) ∧ w = w' := by
  unfold Bru at h
  have e1 : bits BinOp.and IntKind.u64 16 (IntKind.u64.wrap (-16)) = 16 := by kernel_rfl
  have e2 : IntKind.u64.wrap 4573923408821661840 = 4573923408821661840 := by kernel_rfl
  go_enter Tryz.func92, Tryz.ntmps92
  go_wp2
  go_ret
  exact ⟨rfl, rfl⟩
theorem text1 (b off cap : Nat) (c : UInt8) (w : World) (h : w.cell? ⟨b, off, none⟩ = some (.int .u8 c.toNat)) : (convert 56 9 (.slice (some ⟨b, off, none⟩) 1 cap)).run Tryz.prog w = .ok (.string ⟨#[c]⟩) w := by
  refine Mem.run_text (l := [c]) 56 5 9 Tryz.underlying56 Tryz.underlying5 Tryz.underlying9 b off cap (fun i v hv => ?_)
  rcases i with _ | i
  · simp [Mem.bytesV] at hv; subst hv; exact h
  · simp [Mem.bytesV] at hv
theorem text2 (b off cap : Nat) (c d : UInt8) (w : World) (h : w.cell? ⟨b, off, none⟩ = some (.int .u8 c.toNat)) (h1 : w.cell? ⟨b, off + 1, none⟩ = some (.int .u8 d.toNat)) : (convert 56 9 (.slice (some ⟨b, off, none⟩) 2 cap)).run Tryz.prog w = .ok (.string ⟨#[c, d]⟩) w := by
  refine Mem.run_text (l := [c, d]) 56 5 9 Tryz.underlying56 Tryz.underlying5 Tryz.underlying9 b off cap (fun i v hv => ?_)
  rcases i with _ | _ | i
  · simp [Mem.bytesV] at hv; subst hv; exact h
  · simp [Mem.bytesV] at hv; subst hv; exact h1
  · simp [Mem.bytesV] at hv
theorem text3 (b off cap : Nat) (c d e : UInt8) (w : World) (h : w.cell? ⟨b, off, none⟩ = some (.int .u8 c.toNat)) (h1 : w.cell? ⟨b, off + 1, none⟩ = some (.int .u8 d.toNat)) (h2 : w.cell? ⟨b, off + 2, none⟩ = some (.int .u8 e.toNat)) : (convert 56 9 (.slice (some ⟨b, off, none⟩) 3 cap)).run Tryz.prog w = .ok (.string ⟨#[c, d, e]⟩) w := by
  refine Mem.run_text (l := [c, d, e]) 56 5 9 Tryz.underlying56 Tryz.underlying5 Tryz.underlying9 b off cap (fun i v hv => ?_)
  rcases i with _ | _ | _ | i
  · simp [Mem.bytesV] at hv; subst hv; exact h
  · simp [Mem.bytesV] at hv; subst hv; exact h1
  · simp [Mem.bytesV] at hv; subst hv; exact h2
  · simp [Mem.bytesV] at hv
def dig36 : ByteArray := ⟨#[48, 49, 50, 51, 52, 53, 54, 55, 56, 57, 97, 98, 99, 100, 101, 102, 103, 104, 105, 106, 107, 108, 109, 110, 111, 112, 113, 114, 115, 116, 117, 118, 119, 120, 121, 122]⟩
theorem dig36_at (k : Nat) (h : k < 16) (w : World) : (Instr.index 9 (.string dig36) (.int .u64 k)).run Tryz.prog w = .ok (.int .u8 (hxC k).toNat) w := by
  have h1 : (0 : Int) ≤ (k : Int) ∧ (k : Int) < 36 := by omega
  have h2 : ∀ k : Fin 16, (dig36.data[k.val]!).toNat = (hxC k.val).toNat := by decide
  have h3 := h2 ⟨k, h⟩
  have h4 : k < dig36.data.size := by show k < 36; omega
  simp only at h3
  have h5 : dig36[k]? = some (hxC k) := by
    have e : dig36.data[k]! = hxC k := UInt8.toNat_inj.1 h3
    rw [getElem!_pos dig36.data k h4] at e
    have h6 : k < dig36.size := h4
    rw [getElem?_pos dig36 k h6]
    exact congrArg some e
  have h7 : ((dig36.size : Nat) : Int) = 36 := rfl
  generalize dig36 = D at h5 h7 ⊢
  simp [Instr.index, run_underlying Tryz.underlying9, asIntOf, part, go_sem, h1, h5, h7]
theorem and15 (n : Nat) (h : n < 4096) : bits BinOp.and IntKind.u64 (n : Int) 15 = ((n % 16 : Nat) : Int) := by
  have := bits_and_u64_nat n 15 (by omega) (by omega)
  rw [show ((15 : Nat) : Int) = 15 from rfl] at this
  rw [this]
  congr 1
  exact Nat.and_two_pow_sub_one_eq_mod n 4

set_option maxRecDepth 100000 in
set_option maxHeartbeats 4000000 in
theorem fbits_any (n : Nat) (hn : n < 4096) (w : World) (hT : Bru w) :
    Calls Tryz.prog 75 #[.slice none 0 0, .int .u64 n, .int .i64 16, .bool false, .bool false] w fun e w' => e = .returned (.tuple #[.slice none 0 0, .string (⟨(hxL n).toArray⟩)]) ∧ Below w.heap.size w w' := by
  have HT := hide hT
  clear hT
  go_enter Tryz.func75, Tryz.ntmps75
  go_wp2_with (first
    | (go_at_call 91; refine (pow2_16 _).mono ?_; rintro e w2 ⟨rfl, rfl⟩)
    | (go_at_call 92; refine (tz_16 _ ((unhide HT).below ((Below.refl w.heap.size w).alloc (Nat.le_refl _) _))).mono ?_; rintro e w3 ⟨rfl, rfl⟩))
  have HH := hide (Reg.Has.new w (List.replicate 65 (Value.int IntKind.u8 0)) 131)
  go_loopw [1, 13] (fun u i wr => ∃ (k m : Nat) (xs : List Value), u = .int .u64 m ∧ i = .int .i64 ((65 - k : Nat) : Int) ∧ xs.length = 65 ∧ Reg.Has wr w.heap.size xs ∧ Below w.heap.size w wr ∧ ((k = 0 ∧ m = n) ∨ (k = 1 ∧ 16 ≤ n ∧ m = n / 16 ∧ xs[64]? = some (.int .u8 (hxC (n % 16)).toNat)) ∨ (k = 2 ∧ 256 ≤ n ∧ m = n / 256 ∧ xs[63]? = some (.int .u8 (hxC (n / 16 % 16)).toNat) ∧ xs[64]? = some (.int .u8 (hxC (n % 16)).toNat)))) (fun u i _ => (intOf i).toNat)
  case atStart => exact ⟨0, n, List.replicate 65 (Value.int IntKind.u8 0), rfl, rfl, by simp, unhide HH, (Below.refl w.heap.size w).alloc (Nat.le_refl _) _, .inl ⟨rfl, rfl⟩⟩
  case round =>
    obtain ⟨k, m, xs, rfl, rfl, hlen, hhas, hbel, hcase⟩ := hrel
    have hc := fun i (h : i < 65) => hhas.cell i xs[i] (by simp [hlen, h])
    have hf := fun i (h : i < 65) => hhas.free i (by omega)
    have HHa := hide hhas
    have HBe := hide hbel
    have hm4 : m < 4096 := by rcases hcase with ⟨-, e⟩ | ⟨-, -, e, -⟩ | ⟨-, -, e, -⟩ <;> omega
    have ha := and15 m hm4
    clear hhas hbel
    rcases Nat.lt_or_ge m 16 with hm | hm
    · have hx2 := fun w => dig36_at m hm w
      unfold dig36 at hx2
      clear ha
      obtain ⟨x, hx⟩ : ∃ x, hxC m = x := ⟨_, rfl⟩
      rw [hx] at hx2
      rcases hcase with ⟨rfl, e⟩ | ⟨rfl, hn1, e, g1⟩ | ⟨rfl, hn1, e, g1, g2⟩
      · have c64 := hc 64 (by omega)
        have f64 := hf 64 (by omega)
        have cv := fun w' => text1 w.heap.size 64 1 x w'
        have HE := Lib.hid (show hxL n = [x] by unfold hxL; rw [if_pos (by omega), ← hx, e])
        clear hf hc e hx
        go_wp2_with fail
        go_ret2
        exact ⟨by rw [HE.out]; rfl, (unhide HBe).setCell (Nat.le_refl _) _⟩
      · have c64 := (unhide HHa).cell 64 _ g1
        have c63 := hc 63 (by omega)
        have f63 := hf 63 (by omega)
        obtain ⟨y, hy⟩ : ∃ y, hxC (n % 16) = y := ⟨_, rfl⟩
        rw [hy] at c64
        have cv := fun w' => text2 w.heap.size 63 2 x y w'
        have HE := Lib.hid (show hxL n = [x, y] by unfold hxL; rw [if_neg (by omega), if_pos (by omega), ← hx, ← hy, e])
        clear hf hc g1 e hx hy
        go_wp2_with fail
        go_ret2
        exact ⟨by rw [HE.out]; rfl, (unhide HBe).setCell (Nat.le_refl _) _⟩
      · have c64 := (unhide HHa).cell 64 _ g2
        have c63 := (unhide HHa).cell 63 _ g1
        have c62 := hc 62 (by omega)
        have f62 := hf 62 (by omega)
        obtain ⟨y, hy⟩ : ∃ y, hxC (n / 16 % 16) = y := ⟨_, rfl⟩
        obtain ⟨z, hz⟩ : ∃ y, hxC (n % 16) = y := ⟨_, rfl⟩
        rw [hy] at c63
        rw [hz] at c64
        have cv := fun w' => text3 w.heap.size 62 3 x y z w'
        have HE := Lib.hid (show hxL n = [x, y, z] by unfold hxL; rw [if_neg (by omega), if_neg (by omega), ← hx, ← hy, ← hz, e])
        clear hf hc g1 g2 e hx hy hz
        go_wp2_with fail
        go_ret2
        exact ⟨by rw [HE.out]; rfl, (unhide HBe).setCell (Nat.le_refl _) _⟩
    · have hx1 := fun w => dig36_at (m % 16) (by omega) w
      unfold dig36 at hx1
      obtain ⟨x, hx⟩ : ∃ x, hxC (m % 16) = x := ⟨_, rfl⟩
      rw [hx] at hx1
      obtain ⟨q, hq⟩ : ∃ q, m % 16 = q := ⟨_, rfl⟩
      rw [hq] at hx1 ha hx
      have hq16 : q < 16 := by omega
      rcases hcase with ⟨rfl, e⟩ | ⟨rfl, hn1, e, g1⟩ | ⟨rfl, hn1, e, g1, g2⟩
      · have c64 := hc 64 (by omega)
        have f64 := hf 64 (by omega)
        have HE := Lib.hid (show m / 16 = n / 16 by rw [e])
        have HX := Lib.hid (show x = hxC (n % 16) by rw [← hx, ← hq, e])
        have hn16 : 16 ≤ n := by omega
        clear hf hc e hx hq
        go_wp2_with fail
        go_roundw
        case rel => exact ⟨1, m / 16, xs.set 64 (.int .u8 x.toNat), by go_num, by go_num, by simp [hlen], (unhide HHa).put 64 _, (unhide HBe).setCell (Nat.le_refl _) _, .inr (.inl ⟨rfl, hn16, HE.out, by rw [← HX.out]; simp [hlen]⟩)⟩
        case measure => simp [intOf]
      · have c63 := hc 63 (by omega)
        have f63 := hf 63 (by omega)
        have HE := Lib.hid (show m / 16 = n / 256 by omega)
        have HX := Lib.hid (show x = hxC (n / 16 % 16) by rw [← hx, ← hq, e])
        have hn256 : 256 ≤ n := by omega
        clear hf hc e hx hq
        go_wp2_with fail
        go_roundw
        case rel => exact ⟨2, m / 16, xs.set 63 (.int .u8 x.toNat), by go_num, by go_num, by simp [hlen], (unhide HHa).put 63 _, (unhide HBe).setCell (Nat.le_refl _) _, .inr (.inr ⟨rfl, hn256, HE.out, by rw [← HX.out]; simp [hlen], by rw [List.getElem?_set_ne (by omega)]; exact g1⟩)⟩
        case measure => simp [intOf]
      · omega
def hxB (n : Nat) : ByteArray := ⟨(hxL n).toArray⟩
theorem hxB_size (n : Nat) : (hxB n).size ≤ 3 := by
  have := hxL_len n
  show (hxL n).toArray.size ≤ 3
  simpa using this
theorem hxB_data (n : Nat) : (hxB n).data.toList = hxL n := rfl
set_option maxRecDepth 100000 in
set_option maxHeartbeats 2000000 in
theorem fmtI_any (n : Nat) (hn : n < 4096) (w : World) (hT : Bru w) :
    Calls Tryz.prog 53 #[.int .i64 n, .int .i64 16] w fun e w' => e = .returned (.string (hxB n)) ∧ Below w.heap.size w w' := by
  have c1 := hide (fbits_any n hn w hT)
  have hw : IntKind.u64.wrap (n : Int) = n := by
    rw [IntKind.wrap_u64]; omega
  clear hT
  go_enter Tryz.func53, Tryz.ntmps53
  go_wp2_with fail
  refine (unhide c1).mono ?_; rintro e w1 ⟨rfl, hb1⟩
  go_wp2_with fail
  go_ret
  exact ⟨rfl, hb1⟩
set_option maxRecDepth 100000 in
set_option maxHeartbeats 2000000 in
theorem fmt16_any (n : Nat) (hn : n < 4096) (w : World) (hT : Bru w) :
    Calls Tryz.prog 35 #[.int .i64 n, .int .i64 16] w fun e w' => e = .returned (.string (hxB n)) ∧ Below w.heap.size w w' := by
  have c1 := hide (fmtI_any n hn w hT)
  clear hT
  go_enter Tryz.func35, Tryz.ntmps35
  go_wp2_with fail
  refine (unhide c1).mono ?_; rintro e w1 ⟨rfl, hb1⟩
  go_wp2_with fail
  go_ret
  exact ⟨rfl, hb1⟩
def hex16 : ByteArray := ⟨#[48, 49, 50, 51, 52, 53, 54, 55, 56, 57, 97, 98, 99, 100, 101, 102]⟩
theorem hex16_at (k : Nat) (h : k < 16) : hex16.extract k (k + 1) = ⟨#[hxC k]⟩ := by
  have h1 : ∀ k : Fin 16, (hex16.extract k.val (k.val + 1)).data.toList = [hxC k.val] := by decide +kernel
  have := h1 ⟨k, h⟩
  exact ba_eq this
set_option maxRecDepth 100000 in
set_option maxHeartbeats 2000000 in
theorem rdigits_any (n : Nat) (hn : n < 4096) (w : World) :
    Calls Tryz.prog 38 #[.int .i64 n] w fun e w' => e = .returned (.string (hxB n)) ∧ w = w' := by
  go_enter Tryz.func38, Tryz.ntmps38
  go_wp2_with fail
  go_loop [0, 3] (fun u o => ∃ (k m : Nat) (x : ByteArray), u = .int .i64 m ∧ o = .string x ∧ x.size = k ∧ ((k = 0 ∧ m = n) ∨ (k = 1 ∧ 16 ≤ n ∧ m = n / 16 ∧ x.data.toList = [hxC (n % 16)]) ∨ (k = 2 ∧ 256 ≤ n ∧ m = n / 256 ∧ x.data.toList = [hxC (n / 16 % 16), hxC (n % 16)]))) (fun u _ => (intOf u).toNat)
  case atStart => exact ⟨0, n, ⟨#[]⟩, rfl, rfl, rfl, .inl ⟨rfl, rfl⟩⟩
  case round =>
    obtain ⟨k, m, x, rfl, rfl, hx, hcase⟩ := hrel
    have hx3 : x.size ≤ 3 := by rcases hcase with ⟨e, -⟩ | ⟨e, -⟩ | ⟨e, -⟩ <;> omega
    have HC := hide hcase
    clear hcase
    have HE := Lib.hid (hex16_at (m % 16) (by omega))
    obtain ⟨a, ha⟩ : ∃ a, m / 16 = a := ⟨_, rfl⟩
    obtain ⟨b, hb⟩ : ∃ b, m % 16 = b := ⟨_, rfl⟩
    have hd : Int.tdiv (m : Int) 16 = (a : Int) := by rw [Int.tdiv_eq_ediv_of_nonneg (by omega)]; omega
    have hr : Int.tmod (m : Int) 16 = (b : Int) := by rw [Int.tmod_eq_emod_of_nonneg (by omega)]; omega
    have hd2 : (m : Int) / 16 = (a : Int) := by omega
    have hr2 : (m : Int) % 16 = (b : Int) := by omega
    have hb16 : b < 16 := by omega
    rw [hb] at HE
    unfold hex16 at HE
    have HA := Lib.hid ha
    have HB := Lib.hid hb
    clear ha hb
    obtain ⟨c, hc⟩ : ∃ c, hxC b = c := ⟨_, rfl⟩
    rw [hc] at HE
    have HHC := Lib.hid hc
    clear hc
    have hm4 : m < 4096 := by rcases unhide HC with ⟨-, e⟩ | ⟨-, -, e, -⟩ | ⟨-, -, e, -⟩ <;> omega
    have ha4 : a < 256 := by have := HA.out; omega
    have hw : wrap64 (a : Int) = a := by unfold wrap64; omega
    rcases Nat.eq_zero_or_pos a with h0 | h0
    · subst h0
      go_wp2_with fail
      go_ret
      refine ⟨?_, rfl⟩
      rw [HE.out]
      refine congrArg (fun x => Ending.returned (.string x)) (ba_eq ?_)
      rw [app_data]
      have h1 := HA.out
      have h2 := HB.out
      have h3 := HHC.out
      unfold hxL
      rcases unhide HC with ⟨e0, e⟩ | ⟨e0, e1, e, e2⟩ | ⟨e0, e1, e, e2⟩
      · rw [if_pos (by omega)]
        have : x.data.toList = [] := List.eq_nil_of_length_eq_zero (by rw [← e0, ← hx]; simp)
        rw [this, ← h3, ← h2, ← e, Nat.mod_eq_of_lt (by omega)]; rfl
      · rw [if_neg (by omega), if_pos (by omega), e2, ← h3, ← h2, e, Nat.mod_eq_of_lt (by omega)]; rfl
      · rw [if_neg (by omega), if_neg (by omega), e2, ← h3, ← h2, e, Nat.mod_eq_of_lt (by omega)]; rfl
    · have h0b : decide ((a : Int) = 0) = false := decide_eq_false (by omega)
      go_wp2_with fail
      refine ⟨⟨k + 1, a, ⟨#[c]⟩ ++ x, by go_num, by rw [HE.out], by rw [ByteArray.size_append]; show 1 + x.size = k + 1; omega, ?_⟩, ?_⟩
      · have h1 := HA.out
        have h2 := HB.out
        have h3 := HHC.out
        rcases unhide HC with ⟨e0, e⟩ | ⟨e0, e1, e, e2⟩ | ⟨e0, e1, e, e2⟩
        · refine .inr (.inl ⟨by omega, by omega, by omega, ?_⟩)
          have : x.data.toList = [] := List.eq_nil_of_length_eq_zero (by rw [← e0, ← hx]; simp)
          rw [app_data, this, ← h3, ← h2, ← e]; rfl
        · refine .inr (.inr ⟨by omega, by omega, by omega, ?_⟩)
          rw [app_data, e2, ← h3, ← h2, e]; rfl
        · omega
      · simp [intOf, hw]; have := HA.out; omega
end Go.Proofs.YtkaaeajidejchaaGreatDoor.Sp

/- field.Bytes. -/
namespace Go.Proofs.YtkaaeajidejchaaGreatDoor.Sp
open Go.RowKit Sl

theorem cell_call8 {W w' : World} {a : Addr} {v : Value} (hb : Below W.heap.size W w') (h : W.cell? a = some v) : w'.cell? a = some v :=
  (hb.cell (World.block_lt_of_cell? W a h)).trans h
def line1 (f : Fld) : ByteArray := f.1 ++ ⟨#[58, 32]⟩ ++ f.2 ++ ⟨#[13, 10]⟩
def linesL (L : List Fld) : List UInt8 := L.flatMap fun f => (line1 f).data.toList
theorem line1_data (f : Fld) : (line1 f).data.toList = f.1.data.toList ++ [58, 32] ++ f.2.data.toList ++ [13, 10] := by
  unfold line1
  rw [app_data, app_data, app_data]
theorem line1_size (f : Fld) : (line1 f).size = f.1.size + f.2.size + 4 := by
  rw [size_list (line1_data f)]
  simp; omega
theorem linesL_len (c : Nat) : ∀ L : List Fld, (∀ f ∈ L, f.1.size + f.2.size + 4 ≤ c) → (linesL L).length ≤ L.length * c
  | [], _ => by simp [linesL]
  | f :: t, h => by
    have ih := linesL_len c t (fun g hg => h g (List.mem_cons_of_mem _ hg))
    have h0 := h f List.mem_cons_self
    have h1 := line1_size f
    unfold linesL at ih ⊢
    rw [List.flatMap_cons, List.length_append, List.length_cons, Nat.add_mul]
    have h2 : (line1 f).data.toList.length = (line1 f).size := by simp
    omega
theorem linesL_app (A B : List Fld) : linesL (A ++ B) = linesL A ++ linesL B := by simp [linesL]
theorem linesL_take (L : List Fld) (k : Nat) (h : k < L.length) : linesL (L.take (k + 1)) = linesL (L.take k) ++ (line1 L[k]).data.toList := by
  rw [List.take_succ_eq_append_getElem h, linesL_app]
  show _ ++ List.flatMap _ [L[k]] = _
  rw [List.flatMap_cons, List.flatMap_nil, List.append_nil]

theorem isB_call {T e : TypeId} {B b : Nat} {xs : List Value} {w w' : World} (h : Lib.IsBuilder T e B b xs w) (hb : Below w.heap.size w w') : Lib.IsBuilder T e B b xs w' := by
  have one : ∀ p, Lib.BuilderAt T e B b p xs w → Lib.BuilderAt T e B b p xs w' := by
    rintro p ⟨hB, v, hbk, hown, hne⟩
    have hlt : b < w.heap.size := Lib.BuilderAt.lt ⟨hB, v, hbk, hown, hne⟩
    refine ⟨hB, v, (hb.block b hlt).trans hbk, ?_, hne⟩
    exact hown.kept (row := none) ⟨hb.os, hb.tape, hb.output, hb.size, fun k hk _ => hb.block k hk⟩ (by
      cases hv : v.ownBlock with
      | none => exact .inl rfl
      | some g => exact .inr (by simp))
  rcases h with h | h
  · exact .inl (one _ h)
  · exact .inr (one _ h)

def wrRen : Go.Shelf.Ren := ⟨fun | 166 => 34 | 240 => 52 | 276 => 71 | n => n, fun | 0 => 0 | 3 => 3 | 4 => 4 | 5 => 5 | 9 => 9 | 20 => 20 | 37 => 56 | 70 => 69 | 72 => 71 | 75 => 64 | 80 => 31 | 164 => 112 | n => n, fun | n => n⟩
theorem wrLays : Go.Proofs.Lays.n166 Tryz.prog wrRen := {
  mixed := by kernel_rfl
  f166 := Tryz.func34.trans (congrArg some (by kernel_rfl))
  f240 := Tryz.func52.trans (congrArg some (by kernel_rfl))
  f276 := Tryz.func71.trans (congrArg some (by kernel_rfl))
  t0 := Tryz.underlying0
  a0 := Tryz.isAgg0
  z0 := Tryz.sizeOf0
  v0 := Tryz.zeroValue0
  t3 := Tryz.underlying3
  a3 := Tryz.isAgg3
  z3 := Tryz.sizeOf3
  v3 := Tryz.zeroValue3
  t4 := Tryz.underlying4
  a4 := Tryz.isAgg4
  z4 := Tryz.sizeOf4
  v4 := Tryz.zeroValue4
  t9 := Tryz.underlying9
  a9 := Tryz.isAgg9
  z9 := Tryz.sizeOf9
  v9 := Tryz.zeroValue9
  t20 := Tryz.underlying20
  a20 := Tryz.isAgg20
  z20 := Tryz.sizeOf20
  v20 := Tryz.zeroValue20
  t37 := Tryz.underlying56
  a37 := Tryz.isAgg56
  z37 := Tryz.sizeOf56
  v37 := Tryz.zeroValue56
  t70 := Tryz.underlying69
  a70 := Tryz.isAgg69
  z70 := Tryz.sizeOf69
  v70 := Tryz.zeroValue69
  t72 := Tryz.underlying71
  a72 := Tryz.isAgg71
  z72 := Tryz.sizeOf71
  v72 := Tryz.zeroValue71
  t75 := Tryz.underlying64
  a75 := Tryz.isAgg64
  z75 := Tryz.sizeOf64
  v75 := Tryz.zeroValue64
  t164 := Tryz.underlying112
  a164 := Tryz.isAgg112
  z164 := Tryz.sizeOf112
  v164 := Tryz.zeroValue112 }
theorem wrExtra : Builder.Extra Tryz.prog wrRen := {
  sizeBuilder := by kernel_rfl
  liesBuilder := by kernel_rfl
  t5 := Tryz.underlying5
  a5 := Tryz.isAgg5
  z5 := Tryz.sizeOf5
  v5 := Tryz.zeroValue5
  infoByte := by kernel_rfl
  cellsByte := by kernel_rfl
  sizeByte := by kernel_rfl
  neB5 := by decide }
theorem write_any (B b : Nat) (l : List UInt8) (s : ByteArray) (w : World) (h : Lib.IsBuilder 71 5 B b (Lib.byteCells l) w) (hlen : l.length + s.size ≤ 140737488355328) (hBw : B ≤ w.heap.size) :
    Calls Tryz.prog 34 #[.pointer (some ⟨b, 0, none⟩), .string s] w fun e w' => e = .returned (.tuple #[.int .i64 s.size, .nilIface]) ∧ Lib.IsBuilder 71 5 B b (Lib.byteCells (l ++ s.data.toList)) w' ∧ Below B w w' := by
  have hl : (Lib.byteCells l).length = l.length := by simp [Lib.byteCells]
  refine (Any.Builder_WriteString wrLays wrExtra B b (Lib.byteCells l) s w h (by rw [hl]; exact hlen) hBw).mono ?_
  rintro e w' ⟨rfl, h1, h2⟩
  refine ⟨rfl, .inr ?_, h2⟩
  have : Lib.byteCells (l ++ s.data.toList) = Lib.byteCells l ++ Lib.strCells s := by simp [Lib.byteCells, Lib.strCells]
  rw [this]
  exact h1

def BytesO (L : List Fld) (e : Ending) : Prop := e = .returned (.tuple #[.string (if L.all chkS = true then ofL (linesL L) else ⟨#[]⟩), .int .i64 (errI (L.all chkS))])
theorem allC_take (L : List Fld) (k : Nat) (h : k < L.length) : (L.take (k + 1)).all chkS = ((L.take k).all chkS && chkS L[k]) := by
  rw [List.take_succ_eq_append_getElem h, List.all_append]; simp
theorem allC_no (L : List Fld) (k : Nat) (h : k < L.length) (hn : chkS L[k] = false) : L.all chkS = false := by
  cases hh : L.all chkS
  · rfl
  · rw [List.all_eq_true] at hh
    rw [hh _ (List.getElem_mem h)] at hn
    exact hn

set_option maxRecDepth 100000 in
set_option maxHeartbeats 2000000 in
theorem bytes_any (v : Value) (L : List Fld) (hL : L.length ≤ 1000000) (hf : ∀ f ∈ L, f.1.size ≤ 100000 ∧ f.2.size ≤ 100000) (w : World) (hv : Rd w v L.length 2 (fldV L)) :
    Calls Tryz.prog 33 #[v] w fun e w' => BytesO L e ∧ Below w.heap.size w w' := by
  obtain ⟨ao, cap, rfl⟩ := hv.form
  have HV := hide hv
  have HF := hide hf
  clear hv hf
  go_enter Tryz.func33, Tryz.ntmps33
  go_upto_region 2 with fail
  have HI := hide (Lib.fresh_isBuilder 71 5 w)
  have HB := hide ((Below.refl w.heap.size w).alloc (Nat.le_refl _) (.cells #[.pointer none, .slice none 0 0] 71))
  generalize w.alloc (.cells #[.pointer none, .slice none 0 0] 71) = w0 at HI HB ⊢
  go_wp2_with fail
  go_loopw [10] (fun i wr => ∃ k : Nat, i = .int .i64 k ∧ k ≤ L.length ∧ (L.take k).all chkS = true ∧ Lib.IsBuilder 71 5 w.heap.size w.heap.size (Lib.byteCells (linesL (L.take k))) wr ∧ Below w.heap.size w wr) (fun i _ => L.length - (intOf i).toNat)
  case atStart => exact ⟨0, rfl, Nat.zero_le _, by simp, by rw [List.take_zero]; exact unhide HI, unhide HB⟩
  case round =>
    clear HI HB
    obtain ⟨k, rfl, hk, hall, hi, hb⟩ := hrel
    have HA := Lib.hid hall
    have HI := hide hi
    have HB := hide hb
    clear hall hi
    rcases Nat.lt_or_ge k L.length with hlt | hge
    · obtain ⟨b, off, rfl, hbk, d1, d2⟩ := fld_cells ((unhide HV).below hb) rfl k hlt
      have hz := (unhide HF) L[k] (List.getElem_mem _)
      have hnl := linesL_len 200004 (L.take k) (fun f hf => by have := (unhide HF) f (List.mem_of_mem_take hf); omega)
      rw [List.length_take, Nat.min_eq_left hk] at hnl
      have HS := Lib.hid (linesL_take L k hlt)
      have HT := Lib.hid (allC_take L k hlt)
      have hno := allC_no L k hlt
      have h1s := line1_size L[k]
      have hsz := hb.size
      obtain ⟨⟨x, y⟩, hx⟩ : ∃ x, L[k] = x := ⟨_, rfl⟩
      rw [hx] at d1 d2 hz hno h1s HS HT
      obtain ⟨l, hl⟩ : ∃ l, linesL (L.take k) = l := ⟨_, rfl⟩
      rw [hl] at HI HS hnl
      have hzx : x.size ≤ 1000000 := Nat.le_trans hz.1 (by decide)
      have hzy : y.size ≤ 1000000 := Nat.le_trans hz.2 (by decide)
      have hc := fun w => check_any x y hzx hzy w
      have HZ := hide (show l.length + (line1 (x, y)).size ≤ 140737488355328 by simp only at hz h1s; omega)
      clear hx hl hz h1s hnl hb
      obtain ⟨ok, hok⟩ : ∃ ok, chkS (x, y) = ok := ⟨_, rfl⟩
      rw [hok] at hc hno HT
      have HC := hide hc
      have HNO := hide hno
      clear hc hno hok
      unfold errI at HC
      cases ok
      · simp only [Bool.false_eq_true, if_false] at HC
        have HN := Lib.hid ((unhide HNO) rfl)
        go_wp2_with (go_at_call 51; refine (unhide HC _).mono ?_; rintro e w2 ⟨rfl, hb2⟩; have HB2 := hide (((unhide HB).alloc hsz (.cells #[.string x, .string y] 50)).trans (hb2.mono (by simp; omega))); clear hb2)
        go_ret2
        unfold BytesO
        rw [HN.out]
        exact ⟨rfl, unhide HB2⟩
      · simp only [if_true] at HC
        go_wp2_with (first
          | (go_at_call 51; refine (unhide HC _).mono ?_; rintro e w2 ⟨rfl, hb2⟩; have d3 := cell_call8 hb2 (a := ⟨wr.heap.size, 0, none⟩) (v := .string x) (by simp); have d4 := cell_call8 hb2 (a := ⟨wr.heap.size, 1, none⟩) (v := .string y) (by simp); have HI2 := hide (isB_call (isB_call (unhide HI) ((Below.refl wr.heap.size wr).alloc (Nat.le_refl _) (.cells #[.string x, .string y] 50))) hb2); have HB2 := hide (((unhide HB).alloc hsz (.cells #[.string x, .string y] 50)).trans (hb2.mono (by simp; omega))); clear hb2)
          | (go_at_call 34; refine (write_any w.heap.size w.heap.size l (line1 (x, y)) _ (unhide HI2) (unhide HZ) (unhide HB2).size).mono ?_; rintro e w3 ⟨rfl, hi3, hb3⟩; have HI3 := hide hi3; have HB3 := hide ((unhide HB2).trans hb3); clear hi3 hb3))
        go_roundw
        case rel => exact ⟨k + 1, by go_num, by omega, by rw [HT.out, HA.out]; rfl, by rw [HS.out]; exact unhide HI3, unhide HB3⟩
        case measure => simp [intOf]; omega
    · have hT : L.take k = L := List.take_of_length_le hge
      rw [hT] at HA HI
      have HN := HA
      have HI2 := HI
      have hsz := hb.size
      clear hT hb
      go_wp2_with (go_at_call 36; refine (Tryz.Builder_String_any w.heap.size w.heap.size (linesL L) _ (unhide HI2) hsz).mono ?_; rintro e w3 ⟨rfl, hb3⟩; have HB3 := hide ((unhide HB).trans hb3); clear hb3)
      go_ret2
      unfold BytesO
      rw [HN.out]
      exact ⟨rfl, unhide HB3⟩
end Go.Proofs.YtkaaeajidejchaaGreatDoor.Sp

/- Plain: content in chunks. -/
namespace Go.Proofs.YtkaaeajidejchaaGreatDoor.Sp
open Go.RowKit Sl

/-- a chunk -/
def chunkL (s : List UInt8) : List UInt8 := hxL s.length ++ [13, 10] ++ s ++ [13, 10]
/-- chunks of k bytes -/
def chunksL (k : Nat) (s : List UInt8) : List UInt8 :=
  if h : s = [] ∨ k = 0 then [] else chunkL (s.take k) ++ chunksL k (s.drop k)
termination_by s.length
decreasing_by
  rw [not_or] at h
  have := List.length_pos_iff.2 h.1
  rw [List.length_drop]
  omega
/-- the size that is used -/
def sizeU (size : Int) (n : Nat) : Nat := if size < 1 then (if n = 0 then 1 else n) else size.toNat
/-- content in chunks, with trailers -/
def encL (bo : List UInt8) (size : Int) (T : List Fld) : List UInt8 := chunksL (sizeU size bo.length) bo ++ [48, 13, 10] ++ linesL T ++ [13, 10]

end Go.Proofs.YtkaaeajidejchaaGreatDoor.Sp

/- Content in chunks: chunk.Encode, the reference's Encode. -/
namespace Go.Proofs.YtkaaeajidejchaaGreatDoor.Sp
open Go.RowKit Sl

def EncO (bo : ByteArray) (size : Int) (T : List Fld) (e : Ending) : Prop := e = .returned (.tuple #[.string (if T.all chkS = true then ofL (encL bo.data.toList size T) else ⟨#[]⟩), .int .i64 (errI (T.all chkS))])
theorem chunksL_nil (k : Nat) : chunksL k [] = [] := by rw [chunksL, dif_pos (.inl rfl)]
theorem chunksL_more (k : Nat) (s : List UInt8) (hs : s ≠ []) (hk : k ≠ 0) : chunksL k s = chunkL (s.take k) ++ chunksL k (s.drop k) := by rw [chunksL, dif_neg (by simp [hs, hk])]
theorem sizeU_pos (size : Int) (n : Nat) : sizeU size n ≠ 0 := by
  unfold sizeU
  split
  · split <;> omega
  · omega

set_option maxRecDepth 100000 in
set_option maxHeartbeats 2000000 in
theorem encode_any (bo : ByteArray) (size : Int) (tr : Value) (T : List Fld) (hb : bo.size < 4096) (hs0 : -9223372036854775808 ≤ size) (hs1 : size ≤ 9223372036854775807) (hTr : Few T) (w : World) (hv : Rd w tr T.length 2 (fldV T)) (hR : Bru w) :
    Calls Tryz.prog 22 #[.string bo, .int .i64 size, tr] w fun e w' => EncO bo size T e ∧ Below w.heap.size w w' := by
  have q1 := hide (bytes_any _ T (by have := hTr.1; omega) (fun f hf => by have := hTr.2 f hf; omega) w hv)
  have hT4 := linesL_len 4004 T (fun f hf => by have := hTr.2 f hf; omega)
  have hT5 : (linesL T).length ≤ 400400 := by have := hTr.1; omega
  have HR := hide hR
  obtain ⟨ao, c1, rfl⟩ := hv.form
  clear hv hR hT4 hTr
  unfold EncO
  unfold BytesO at q1
  obtain ⟨tb, htb⟩ : ∃ b, T.all chkS = b := ⟨_, rfl⟩
  rw [htb] at q1 ⊢
  cases tb
  · simp only [Bool.false_eq_true, if_false, errI] at q1 ⊢
    go_enter Tryz.func22, Tryz.ntmps22
    go_wp2_with fail
    refine (unhide q1).mono ?_; rintro e w1 ⟨rfl, hb1⟩
    have HB1 := hide hb1
    clear hb1
    go_wp2_with fail
    go_ret2
    exact ⟨rfl, unhide HB1⟩
  simp only [if_true, errI] at q1 ⊢
  unfold encL
  generalize hK : sizeU size bo.data.toList.length = K
  have hK0 : K ≠ 0 := by rw [← hK]; exact sizeU_pos _ _
  have hKs : (decide (size < 1) = true ∧ max 1 (bo.size : Int) = K) ∨ (decide (size < 1) = false ∧ size = K) := by
    have hl : bo.data.toList.length = bo.size := by simp
    rw [hl] at hK
    unfold sizeU at hK
    by_cases h : size < 1
    · rw [if_pos h] at hK
      refine .inl ⟨decide_eq_true h, ?_⟩
      split at hK <;> omega
    · rw [if_neg h] at hK
      exact .inr ⟨decide_eq_false h, by omega⟩
  generalize hy : linesL T = y at *
  clear hK hy htb
  obtain ⟨t, ht⟩ : ∃ t : ByteArray, t = ofL y := ⟨_, rfl⟩
  have hty : t.data.toList = y := by rw [ht]; rfl
  have hts : t.size = y.length := by rw [ht]; simp [ofL, ByteArray.size]
  rw [← ht] at q1
  have HTY := Lib.hid hty
  clear ht hty
  have HBo := hide hb
  clear hb
  rcases hKs with ⟨hs2, hmx⟩ | ⟨hs2, rfl⟩
  all_goals
    go_enter Tryz.func22, Tryz.ntmps22
    go_wp2_with fail
    refine (unhide q1).mono ?_; rintro e w1 ⟨rfl, hb1⟩
    have HB1 := hide hb1
    clear hb1 q1
    go_wp2_with fail
    have HI := hide (Lib.fresh_isBuilder 71 5 w1)
    have HB2 := hide ((unhide HB1).alloc (unhide HB1).size (.cells #[.pointer none, .slice none 0 0] 71))
    have hB1 := (unhide HB1).size
    have hlt : w1.heap.size ≤ (w1.alloc (.cells #[.pointer none, .slice none 0 0] 71)).heap.size := by simp
    generalize w1.alloc (.cells #[.pointer none, .slice none 0 0] 71) = w2 at *
    generalize w1.heap.size = b at *
    clear HB1
    try clear hs2 hmx
    go_loopw [0] (fun i wr => ∃ (s : ByteArray) (l : List UInt8), i = .string s ∧ s.size ≤ bo.size ∧ l ++ chunksL K s.data.toList = chunksL K bo.data.toList ∧ l.length ≤ 10 * (bo.size - s.size) ∧ Lib.IsBuilder 71 5 b b (Lib.byteCells l) wr ∧ Below w.heap.size w wr ∧ b ≤ wr.heap.size) (fun i _ => strLen i)
    case atStart => exact ⟨bo, [], rfl, Nat.le_refl _, rfl, Nat.zero_le _, unhide HI, unhide HB2, hlt⟩
    case round =>
      clear HI HB2 hlt
      obtain ⟨s, l, rfl, hsb, heq, hl, hi, hbel, hbb⟩ := hrel
      have HQ := Lib.hid heq
      have HI := hide hi
      have HBe := hide hbel
      have hbo4 := unhide HBo
      clear heq hi hbel
      cases em : s.toList.isEmpty
      · have hne : s.data.toList ≠ [] := by
          intro e
          rw [Lib.toList_data, e] at em
          cases em
        have hs1' : 0 < s.size := by
          rcases Nat.eq_zero_or_pos s.size with h0 | h0
          · exact absurd (List.eq_nil_of_length_eq_zero (by simpa using h0)) hne
          · exact h0
        obtain ⟨m, hm⟩ : ∃ m, min K s.size = m := ⟨_, rfl⟩
        have hm1 : m ≤ s.size := by omega
        have hm0 : 0 < m := by omega
        have hmi : min (K : Int) (s.size : Int) = (m : Int) := by omega
        have hps : (s.extract 0 m).size = m := by rw [ByteArray.size_extract]; omega
        have hp : (s.extract 0 m).data.toList = s.data.toList.take m := by rw [Lib.extract_data]; simp
        have hr : (s.extract m s.size).data.toList = s.data.toList.drop m := Lib.extract_to_end s m
        have hrs : (s.extract m s.size).size = s.size - m := by rw [ByteArray.size_extract]; omega
        have hck : chunksL K s.data.toList = hxL m ++ [13, 10] ++ s.data.toList.take m ++ [13, 10] ++ chunksL K (s.data.toList.drop m) := by
          have e1 : s.data.toList.take K = s.data.toList.take m := by
            rw [← hm]
            rcases Nat.le_total K s.size with h | h
            · rw [Nat.min_eq_left h]
            · rw [Nat.min_eq_right h, List.take_of_length_le (by simpa using h), List.take_of_length_le (by simp)]
          have e2 : s.data.toList.drop K = s.data.toList.drop m := by
            rw [← hm]
            rcases Nat.le_total K s.size with h | h
            · rw [Nat.min_eq_left h]
            · rw [Nat.min_eq_right h, List.drop_of_length_le (by simpa using h), List.drop_of_length_le (by simp)]
          rw [chunksL_more K _ hne hK0, e1, e2]
          unfold chunkL
          rw [List.length_take, Nat.min_eq_left (by simpa using hm1)]
        rw [← hp, ← hr] at hck
        have hxs := hxB_size m
        have hx := fun w hb => fmt16_any m (by omega) w hb
        have HX := hide hx
        have HRR := hide ((unhide HR).below (unhide HBe))
        have HK := Lib.hid hck
        have hem : (⟨#[13, 10]⟩ : ByteArray).size = 2 := rfl
        obtain ⟨x, hxx⟩ : ∃ x, hxB m = x := ⟨_, rfl⟩
        rw [hxx] at hxs HX
        have HXX := Lib.hid hxx
        clear hx hck hp hr hxx hm hne
        go_wp2_with fail
        generalize s.extract 0 m = p at *
        generalize s.extract m s.size = r at *
        refine (unhide HX _ (unhide HRR)).mono ?_; rintro e w3 ⟨rfl, hb3⟩
        have HI3 := hide (isB_call (unhide HI) hb3)
        have HB3 := hide ((unhide HBe).trans (hb3.mono (unhide HBe).size))
        have hbb3 : b ≤ w3.heap.size := Nat.le_trans hbb hb3.size
        clear hb3
        go_wp2_with fail
        have hz3 : l.length + (x ++ (⟨#[13, 10]⟩ : ByteArray) ++ p ++ (⟨#[13, 10]⟩ : ByteArray)).size ≤ 140737488355328 := by simp; omega
        have hW := write_any b b l (x ++ (⟨#[13, 10]⟩ : ByteArray) ++ p ++ (⟨#[13, 10]⟩ : ByteArray)) _ (unhide HI3) hz3 hbb3
        refine hW.mono ?_
        clear hW
        rintro e w4 ⟨rfl, hi4, hb4⟩
        have HI4 := hide hi4
        have HB4 := hide ((unhide HB3).trans (hb4.mono hB1))
        have hbb4 : b ≤ w4.heap.size := Nat.le_trans hbb3 hb4.size
        clear hi4 hb4
        go_wp2_with fail
        go_roundw
        case rel =>
          refine ⟨r, l ++ (x ++ (⟨#[13, 10]⟩ : ByteArray) ++ p ++ (⟨#[13, 10]⟩ : ByteArray)).data.toList, rfl, by omega, ?_, ?_, unhide HI4, unhide HB4, hbb4⟩
          · rw [← HQ.out, HK.out, ← HXX.out, app_data, app_data, app_data]
            show _ = l ++ ((hxB m).data.toList ++ [13, 10] ++ p.data.toList ++ [13, 10] ++ _)
            simp only [List.append_assoc]
          · have h1 : (x ++ (⟨#[13, 10]⟩ : ByteArray) ++ p ++ (⟨#[13, 10]⟩ : ByteArray)).data.toList.length = x.size + 2 + p.size + 2 := by simp [ByteArray.size_append]; omega
            rw [List.length_append, h1]
            omega
        case measure => simp [strLen]; omega
      · have he : s.data.toList = [] := by
          rw [Lib.toList_data] at em
          exact List.isEmpty_iff.1 em
        have HL := Lib.hid (show l = chunksL K bo.data.toList by rw [← HQ.out, he, chunksL_nil, List.append_nil])
        clear he
        go_wp2_with fail
        have y1 : (⟨#[48, 13, 10]⟩ : ByteArray).size = 3 := rfl
        have y2 : (⟨#[13, 10]⟩ : ByteArray).size = 2 := rfl
        have hz3 : l.length + ((⟨#[48, 13, 10]⟩ : ByteArray) ++ t ++ (⟨#[13, 10]⟩ : ByteArray)).size ≤ 140737488355328 := by simp; omega
        have hW := write_any b b l ((⟨#[48, 13, 10]⟩ : ByteArray) ++ t ++ (⟨#[13, 10]⟩ : ByteArray)) _ (unhide HI) hz3 hbb
        refine hW.mono ?_
        clear hW
        rintro e w4 ⟨rfl, hi4, hb4⟩
        have HI4 := hide hi4
        have HB4 := hide ((unhide HBe).trans (hb4.mono hB1))
        have hbb4 : b ≤ w4.heap.size := Nat.le_trans hbb hb4.size
        clear hi4 hb4
        go_wp2_with fail
        refine (Tryz.Builder_String_any b b _ _ (unhide HI4) hbb4).mono ?_; rintro e w5 ⟨rfl, hb5⟩
        have HB5 := hide ((unhide HB4).trans (hb5.mono hB1))
        clear hb5
        go_wp2_with fail
        go_ret2
        refine ⟨?_, unhide HB5⟩
        have he2 : ofL (chunksL K bo.data.toList ++ [48, 13, 10] ++ y ++ [13, 10]) = ⟨(l ++ ((⟨#[48, 13, 10]⟩ : ByteArray) ++ t ++ (⟨#[13, 10]⟩ : ByteArray)).data.toList).toArray⟩ := by
          rw [← HL.out, app_data, app_data, HTY.out]
          show ofL _ = ofL _
          congr 1
          simp
        rw [he2]
        rfl
end Go.Proofs.YtkaaeajidejchaaGreatDoor.Sp

/- Plain: content that was written in chunks is eaten by the decoder's machine. -/
namespace Go.Proofs.YtkaaeajidejchaaGreatDoor.Sp
open Go.RowKit Sl

section
variable {sz : List UInt8 → Nat × Nat} {fl : List UInt8 → Option Fld}
/-- d eats all of l and is d' then -/
def Eats (sz : List UInt8 → Nat × Nat) (fl : List UInt8 → Option Fld) (d : Dec) (l : List UInt8) (d' : Dec) : Prop := feedS sz fl d l = (d', l.length)
theorem Eats.nil (d : Dec) : Eats sz fl d [] d := rfl
theorem Eats.trans {d d1 d2 : Dec} {a b : List UInt8} (h : Eats sz fl d a d1) (k : Eats sz fl d1 b d2) : Eats sz fl d (a ++ b) d2 := by
  unfold Eats at *
  rw [feedS_app, h]
  simp only
  rw [k, List.length_append]
theorem Eats.one {d : Dec} (hs : stopS d = false) (c : UInt8) : Eats sz fl d [c] (oneS sz fl d c) := by
  unfold Eats
  rw [feedS, if_neg (by rw [hs]; simp)]
  rfl

/-- a decoder that has met no flaw and no end -/
def mkD (L H C B : Nat) (st : CS) (line body : List UInt8) (left behind : Nat) (tr : List Fld) : Dec := ⟨L, H, C, B, st, line, body, left, behind, tr, 0, false⟩
theorem mkD_go (L H C B : Nat) (st : CS) (line body : List UInt8) (left behind : Nat) (tr : List Fld) : stopS (mkD L H C B st line body left behind tr) = false := rfl

def plainB (c : UInt8) : Bool := c != 10 && c != 13
theorem eatS_plain (L : Nat) (line : List UInt8) (c : UInt8) (hc : c ≠ 10) (hl : line.getLast? ≠ some 13) (hL : line.length + 1 < L) : eatS L line c = (0, false) := by
  unfold eatS
  have a1 : (c == 10) = false := by simp [hc]
  have a2 : (line.getLast? == some 13) = false := by simp [hl]
  have h1 : ((c == 10) != (line.getLast? == some 13)) = false := by rw [a1, a2]; rfl
  rw [if_neg (by omega), if_neg (by rw [h1]; simp), if_neg hc, if_neg (by omega)]
theorem eatS_lf (L : Nat) (line : List UInt8) (hL : line.length + 2 ≤ L) : eatS L (line ++ [13]) 10 = (0, true) := by
  unfold eatS
  rw [if_neg (by simp; omega), if_neg (by simp), if_pos rfl]

theorem size_text (L H C B : Nat) (body : List UInt8) (lf bh : Nat) (tr : List Fld) : ∀ (x y : List UInt8), x.all plainB = true → y.getLast? ≠ some 13 → y.length + x.length < L →
    Eats sz fl (mkD L H C B .size y body lf bh tr) x (mkD L H C B .size (y ++ x) body lf bh tr)
  | [], y, _, _, _ => by rw [List.append_nil]; exact Eats.nil _
  | c :: t, y, ha, hy, hL => by
    rw [List.all_cons, Bool.and_eq_true] at ha
    have hc : c ≠ 10 ∧ c ≠ 13 := by have := ha.1; unfold plainB at this; simpa using this
    have h1 : oneS sz fl (mkD L H C B .size y body lf bh tr) c = mkD L H C B .size (y ++ [c]) body lf bh tr := by
      simp only [List.length_cons] at hL
      simp [oneS, stepS, mkD, eatS_plain L y c hc.1 hy (by omega)]
    have h2 := size_text L H C B body lf bh tr t (y ++ [c]) ha.2 (by simp [hc.2]) (by simp at hL ⊢; omega)
    have h3 := (Eats.one (sz := sz) (fl := fl) (mkD_go L H C B .size y body lf bh tr) c)
    rw [h1] at h3
    have := h3.trans h2
    simpa using this
theorem last_plain (x : List UInt8) (h : x.all plainB = true) : x.getLast? ≠ some 13 := by
  intro e
  have hm := List.mem_of_getLast? e
  have := List.all_eq_true.1 h 13 hm
  simp [plainB] at this
/-- a size line -/
theorem size_line (L H C B : Nat) (body : List UInt8) (lf bh : Nat) (tr : List Fld) (x : List UInt8) (hx : x.all plainB = true) (hL : x.length + 2 ≤ L) (n : Nat) (hs : sz x = (n, 0)) (hB : n ≤ B - body.length) :
    Eats sz fl (mkD L H C B .size [] body lf bh tr) (x ++ [13, 10]) (if n = 0 then mkD L H C B .field [] body lf bh tr else mkD L H C B .data [] body n bh tr) := by
  have h1 := size_text (sz := sz) (fl := fl) L H C B body lf bh tr x [] hx (by simp) (by simp; omega)
  rw [List.nil_append] at h1
  have h2 := Eats.one (sz := sz) (fl := fl) (mkD_go L H C B .size x body lf bh tr) 13
  rw [show oneS sz fl (mkD L H C B .size x body lf bh tr) 13 = mkD L H C B .size (x ++ [13]) body lf bh tr by simp [oneS, stepS, mkD, eatS_plain L x 13 (by decide) (last_plain x hx) (by omega)]] at h2
  have h3 := Eats.one (sz := sz) (fl := fl) (mkD_go L H C B .size (x ++ [13]) body lf bh tr) 10
  have e3 : oneS sz fl (mkD L H C B .size (x ++ [13]) body lf bh tr) 10 = (if n = 0 then mkD L H C B .field [] body lf bh tr else mkD L H C B .data [] body n bh tr) := by
    have hb : ¬ B - body.length < n := by omega
    by_cases hn : n = 0
    · subst hn
      simp [oneS, stepS, mkD, eatS_lf L x hL, hs, hb]
    · simp [oneS, stepS, mkD, eatS_lf L x hL, hs, hb, hn]
  rw [e3] at h3
  have := (h1.trans h2).trans h3
  simpa using this
theorem data_text (L H C B bh : Nat) (tr : List Fld) : ∀ (x : List UInt8) (body : List UInt8), x ≠ [] → Eats sz fl (mkD L H C B .data [] body x.length bh tr) x (mkD L H C B .cr [] (body ++ x) 0 bh tr)
  | [], _, h => absurd rfl h
  | [c], body, _ => by
    have h1 := Eats.one (sz := sz) (fl := fl) (mkD_go L H C B .data [] body 1 bh tr) c
    exact h1
  | c :: e :: t, body, _ => by
    have h1 := Eats.one (sz := sz) (fl := fl) (mkD_go L H C B .data [] body (c :: e :: t).length bh tr) c
    rw [show oneS sz fl (mkD L H C B .data [] body (c :: e :: t).length bh tr) c = mkD L H C B .data [] (body ++ [c]) (e :: t).length bh tr by simp [oneS, stepS, mkD]] at h1
    have h2 := data_text L H C B bh tr (e :: t) (body ++ [c]) (by simp)
    have := h1.trans h2
    simpa using this
/-- a chunk -/
theorem chunk_eats (L H C B : Nat) (body : List UInt8) (lf bh : Nat) (tr : List Fld) (p : List UInt8) (hp : p ≠ []) (hx : (hxL p.length).all plainB = true) (hL : 5 ≤ L) (hs : sz (hxL p.length) = (p.length, 0)) (hB : body.length + p.length ≤ B) :
    Eats sz fl (mkD L H C B .size [] body lf bh tr) (chunkL p) (mkD L H C B .size [] (body ++ p) 0 bh tr) := by
  have hlen := hxL_len p.length
  have hp0 : p.length ≠ 0 := by intro e; exact hp (List.eq_nil_of_length_eq_zero e)
  have h1 := size_line (sz := sz) (fl := fl) L H C B body lf bh tr (hxL p.length) hx (by omega) p.length hs (by omega)
  rw [if_neg hp0] at h1
  have h2 := data_text (sz := sz) (fl := fl) L H C B bh tr p body hp
  have h3 : Eats sz fl (mkD L H C B .cr [] (body ++ p) 0 bh tr) [13] (mkD L H C B .lf [] (body ++ p) 0 bh tr) := Eats.one (sz := sz) (fl := fl) (mkD_go L H C B .cr [] (body ++ p) 0 bh tr) 13
  have h4 : Eats sz fl (mkD L H C B .lf [] (body ++ p) 0 bh tr) [10] (mkD L H C B .size [] (body ++ p) 0 bh tr) := Eats.one (sz := sz) (fl := fl) (mkD_go L H C B .lf [] (body ++ p) 0 bh tr) 10
  have := ((h1.trans h2).trans h3).trans h4
  unfold chunkL
  simpa using this
theorem chunks_eat (L H C B k : Nat) (hk : k ≠ 0) (tr : List Fld) (bh : Nat) (hL : 5 ≤ L) (hsz : ∀ n, 0 < n → n ≤ B → (hxL n).all plainB = true ∧ sz (hxL n) = (n, 0)) : ∀ (m : Nat) (s body : List UInt8) (lf : Nat), s.length ≤ m → body.length + s.length ≤ B →
    ∃ lf', Eats sz fl (mkD L H C B .size [] body lf bh tr) (chunksL k s) (mkD L H C B .size [] (body ++ s) lf' bh tr) := by
  intro m
  induction m with
  | zero =>
    intro s body lf h _
    obtain rfl := List.eq_nil_of_length_eq_zero (Nat.le_zero.1 h)
    rw [chunksL_nil, List.append_nil]
    exact ⟨lf, Eats.nil _⟩
  | succ m ih =>
    intro s body lf h hB
    by_cases hs : s = []
    · subst hs
      rw [chunksL_nil, List.append_nil]
      exact ⟨lf, Eats.nil _⟩
    · have h0 := List.length_pos_iff.2 hs
      have ht : s.take k ≠ [] := fun e => (List.take_eq_nil_iff.1 e).elim hk hs
      have hl : (s.take k).length ≤ s.length := by simp; omega
      have hd : (s.take k).length + (s.drop k).length = s.length := by simp; omega
      have htp : 0 < (s.take k).length := List.length_pos_iff.2 ht
      obtain ⟨g1, g2⟩ := hsz (s.take k).length htp (by omega)
      have h1 := chunk_eats (sz := sz) (fl := fl) L H C B body lf bh tr (s.take k) ht g1 hL g2 (by omega)
      obtain ⟨lf', h2⟩ := ih (s.drop k) (body ++ s.take k) 0 (by omega) (by rw [List.length_append]; omega)
      refine ⟨lf', ?_⟩
      rw [chunksL_more k s hs hk]
      have := h1.trans h2
      rwa [List.append_assoc, List.take_append_drop] at this
/-- a line of the trailers -/
theorem field_text (L H C B : Nat) (body : List UInt8) (lf : Nat) (tr : List Fld) : ∀ (x y : List UInt8) (bh : Nat), x.all plainB = true → y.getLast? ≠ some 13 → y.length + x.length < L → bh + x.length ≤ H →
    Eats sz fl (mkD L H C B .field y body lf bh tr) x (mkD L H C B .field (y ++ x) body lf (bh + x.length) tr)
  | [], y, bh, _, _, _, _ => by rw [List.append_nil]; exact Eats.nil _
  | c :: t, y, bh, ha, hy, hL, hH => by
    rw [List.all_cons, Bool.and_eq_true] at ha
    simp only [List.length_cons] at hL hH
    have hc : c ≠ 10 ∧ c ≠ 13 := by have := ha.1; unfold plainB at this; simpa using this
    have h1 : oneS sz fl (mkD L H C B .field y body lf bh tr) c = mkD L H C B .field (y ++ [c]) body lf (bh + 1) tr := by
      have : ¬ H < bh + 1 := by omega
      simp [oneS, stepS, mkD, eatS_plain L y c hc.1 hy (by omega), this]
    have h2 := field_text L H C B body lf tr t (y ++ [c]) (bh + 1) ha.2 (by simp [hc.2]) (by simp; omega) (by omega)
    have h3 := (Eats.one (sz := sz) (fl := fl) (mkD_go L H C B .field y body lf bh tr) c)
    rw [h1] at h3
    have := h3.trans h2
    rw [List.length_cons, show bh + (t.length + 1) = bh + 1 + t.length by omega]
    simpa using this
theorem field_line (L H C B : Nat) (body : List UInt8) (lf bh : Nat) (tr : List Fld) (x : List UInt8) (hx : x.all plainB = true) (hL : x.length + 2 ≤ L) (hH : bh + x.length + 2 ≤ H) :
    Eats sz fl (mkD L H C B .field [] body lf bh tr) (x ++ [13]) (mkD L H C B .field (x ++ [13]) body lf (bh + x.length + 1) tr) := by
  have h1 := field_text (sz := sz) (fl := fl) L H C B body lf tr x [] bh hx (by simp) (by simp; omega) (by omega)
  rw [List.nil_append] at h1
  have h2 := Eats.one (sz := sz) (fl := fl) (mkD_go L H C B .field x body lf (bh + x.length) tr) 13
  have e2 : oneS sz fl (mkD L H C B .field x body lf (bh + x.length) tr) 13 = mkD L H C B .field (x ++ [13]) body lf (bh + x.length + 1) tr := by
    have : ¬ H < bh + x.length + 1 := by omega
    simp [oneS, stepS, mkD, eatS_plain L x 13 (by decide) (last_plain x hx) (by omega), this]
  rw [e2] at h2
  exact h1.trans h2
theorem field_eats (L H C B : Nat) (body : List UInt8) (lf bh : Nat) (tr : List Fld) (x : List UInt8) (f : Fld) (hx : x.all plainB = true) (hne : x ≠ []) (hL : x.length + 2 ≤ L) (hH : bh + x.length + 2 ≤ H) (hf : fl x = some f) (hC : tr.length < C) :
    Eats sz fl (mkD L H C B .field [] body lf bh tr) (x ++ [13, 10]) (mkD L H C B .field [] body lf (bh + x.length + 2) (tr ++ [f])) := by
  have h1 := field_line (sz := sz) (fl := fl) L H C B body lf bh tr x hx hL hH
  have h2 := Eats.one (sz := sz) (fl := fl) (mkD_go L H C B .field (x ++ [13]) body lf (bh + x.length + 1) tr) 10
  have e2 : oneS sz fl (mkD L H C B .field (x ++ [13]) body lf (bh + x.length + 1) tr) 10 = mkD L H C B .field [] body lf (bh + x.length + 2) (tr ++ [f]) := by
    have h3 : ¬ H < bh + x.length + 1 + 1 := by omega
    have h4 : ¬ C ≤ tr.length := by omega
    simp [oneS, stepS, mkD, eatS_lf L x hL, h3, hf, hne, h4]
  rw [e2] at h2
  have := h1.trans h2
  simpa using this
/-- the end -/
theorem end_eats (L H C B : Nat) (body : List UInt8) (lf bh : Nat) (tr : List Fld) (hL : 2 ≤ L) (hH : bh + 2 ≤ H) :
    Eats sz fl (mkD L H C B .field [] body lf bh tr) [13, 10] ⟨L, H, C, B, .field, [], body, lf, bh + 2, tr, 0, true⟩ := by
  have h1 := field_line (sz := sz) (fl := fl) L H C B body lf bh tr [] rfl hL (by simp; omega)
  have h2 := Eats.one (sz := sz) (fl := fl) (mkD_go L H C B .field ([] ++ [13]) body lf (bh + ([] : List UInt8).length + 1) tr) 10
  have e2 : oneS sz fl (mkD L H C B .field ([] ++ [13]) body lf (bh + ([] : List UInt8).length + 1) tr) 10 = ⟨L, H, C, B, .field, [], body, lf, bh + 2, tr, 0, true⟩ := by
    have h3 : ¬ H < bh + 1 + 1 := by omega
    have h5 := eatS_lf L [] (by simpa using hL)
    rw [List.nil_append] at h5
    simp [oneS, stepS, mkD, h5, h3]
  rw [e2] at h2
  exact h1.trans h2
end
end Go.Proofs.YtkaaeajidejchaaGreatDoor.Sp

/- Plain: what chunk.Encode writes is eaten whole, and no more. -/
namespace Go.Proofs.YtkaaeajidejchaaGreatDoor.Sp
open Go.RowKit Sl

theorem chunksL_len2 (k : Nat) : ∀ (n : Nat) (s : List UInt8), s.length ≤ n → (chunksL k s).length ≤ 10 * s.length := by
  intro n
  induction n with
  | zero => intro s hs; rw [List.eq_nil_of_length_eq_zero (by omega : s.length = 0), chunksL_nil]; simp
  | succ n ih =>
    intro s hs
    rw [chunksL]
    split
    · simp
    · rename_i h
      rw [not_or] at h
      have h1 := List.length_pos_iff.2 h.1
      have h2 := ih (s.drop k) (by rw [List.length_drop]; omega)
      have h3 := hxL_len (s.take k).length
      unfold chunkL
      rw [List.length_drop] at h2
      simp only [List.length_append, List.length_cons, List.length_nil, List.length_take] at h3 ⊢
      omega

/-- the field that the law writes behind the content -/
def sumF : Fld := (⟨#[83, 117, 109]⟩, ⟨#[49]⟩)
theorem sum_lines : linesL [sumF] = [83, 117, 109, 58, 32, 49, 13, 10] := by decide +kernel
theorem sum_fl : flF [83, 117, 109, 58, 32, 49] = some sumF := by decide +kernel
theorem sum_chk : [sumF].all chkS = true := by decide +kernel
theorem nought_sz : sizeF [48] = (0, 0) := by decide +kernel
theorem sizes_ok : ∀ n, 0 < n → n ≤ 1000 → (hxL n).all plainB = true ∧ sizeF (hxL n) = (n, 0) := by
  have h : ∀ n : Fin 1001, 0 < n.val → (hxL n.val).all plainB = true ∧ sizeF (hxL n.val) = (n.val, 0) := by decide +kernel
  exact fun n h0 h1 => h ⟨n, by omega⟩ h0

theorem back_eats (bo : List UInt8) (size : Int) (hb : bo.length ≤ 200) :
    ∃ d, feedS sizeF flF (newD 200 1000 30 1000) (encL bo size [sumF]) = (d, (encL bo size [sumF]).length) ∧ d.bad = 0 ∧ d.done = true ∧ d.body = bo ∧ d.tr = [sumF] := by
  obtain ⟨lf, h1⟩ := chunks_eat (sz := sizeF) (fl := flF) 200 1000 30 1000 (sizeU size bo.length) (sizeU_pos _ _) [] 0 (by decide) sizes_ok bo.length bo [] 0 (Nat.le_refl _) (by simp; omega)
  rw [List.nil_append] at h1
  have h2 := size_line (sz := sizeF) (fl := flF) 200 1000 30 1000 bo lf 0 [] [48] rfl (by decide) 0 nought_sz (by omega)
  rw [if_pos rfl] at h2
  have h3 := field_eats (sz := sizeF) (fl := flF) 200 1000 30 1000 bo lf 0 [] [83, 117, 109, 58, 32, 49] sumF rfl (by decide) (by decide) (by decide) sum_fl (by decide)
  have h4 := end_eats (sz := sizeF) (fl := flF) 200 1000 30 1000 bo lf (0 + [83, 117, 109, 58, 32, 49].length + 2) ([] ++ [sumF]) (by decide) (by decide)
  have h := ((h1.trans h2).trans h3).trans h4
  have e : encL bo size [sumF] = chunksL (sizeU size bo.length) bo ++ ([48] ++ [13, 10]) ++ ([83, 117, 109, 58, 32, 49] ++ [13, 10]) ++ [13, 10] := by
    unfold encL
    rw [sum_lines]
    rfl
  rw [← e] at h
  exact ⟨_, h, rfl, rfl, rfl, rfl⟩

theorem encL_small (bo : List UInt8) (size : Int) (hb : bo.length ≤ 200) : (encL bo size [sumF]).length ≤ 3000 := by
  unfold encL
  rw [sum_lines]
  have h1 := chunksL_len2 (sizeU size bo.length) _ bo (Nat.le_refl _)
  simp only [List.length_append, List.length_cons, List.length_nil]
  omega

/-- with what follows it -/
theorem back_feed (bo : List UInt8) (size : Int) (hb : bo.length ≤ 200) (behind : List UInt8) :
    ∃ d, feedS sizeF flF (newD 200 1000 30 1000) (encL bo size [sumF] ++ behind) = (d, (encL bo size [sumF]).length) ∧ d.bad = 0 ∧ d.done = true ∧ d.body = bo ∧ d.tr = [sumF] := by
  obtain ⟨d, h, h1, h2, h3, h4⟩ := back_eats bo size hb
  refine ⟨d, ?_, h1, h2, h3, h4⟩
  rw [feedS_app, h]
  simp only
  rw [feedS_stop sizeF flF (by unfold stopS; rw [h2]; simp)]
  rfl
/-- a decoder on the way to a good end has no flaw -/
theorem way_good {sz : List UInt8 → Nat × Nat} {fl : List UInt8 → Option Fld} {o d2 : Dec} {l : List UInt8} {r : Nat} (hI : feedS sz fl o l = (d2, r)) (h2 : d2.bad = 0) : o.bad = 0 := by
  by_cases h : o.bad = 0
  · exact h
  · have hs : stopS o = true := by unfold stopS; simp [h]
    rw [feedS_stop sz fl hs] at hI
    injection hI with h1 _
    exact absurd (h1 ▸ h2) h
end Go.Proofs.YtkaaeajidejchaaGreatDoor.Sp
