/- ref07's Digits; Itoa of any number. -/
import Derived.Test.YtmmldoleillelaaDoorE7
import Derived.Lib.AppendIntMem
import Derived.Lib.LaidTab
namespace Go.Proofs.YtmmldoleillelaaDoor.Sp
open Go.RowKit Sl

def decB (u : Nat) : ByteArray := ⟨(Lib.decDigits u).toArray⟩
def itoaB (n : Int) : ByteArray := ⟨(Lib.itoa n).toArray⟩
def tenB : ByteArray := ⟨#[48, 49, 50, 51, 52, 53, 54, 55, 56, 57]⟩
theorem dec_small (u : Nat) (h : u < 10) : tenB.extract u (u + 1) = decB u := by
  have h1 : ∀ i, i < 10 → (tenB.extract i (i + 1)).data.toList = Lib.decDigits i := by decide +kernel
  exact ba_eq (h1 u h)
theorem dec_more (u : Nat) (h : 10 ≤ u) : decB u = decB (u / 10) ++ decB (u % 10) := by
  have e : Lib.decDigits u = Lib.decDigits (u / 10) ++ Lib.decDigits (u % 10) := by
    conv => lhs; rw [Lib.decDigits, dif_neg (by omega)]
    have e2 : Lib.decDigits (u % 10) = [UInt8.ofNat (48 + u % 10)] := by rw [Lib.decDigits, dif_pos (by omega)]
    rw [e2]
  have h2 : (decB (u / 10) ++ decB (u % 10)).data.toList = Lib.decDigits u := by rw [app_data, e]; rfl
  exact (ba_eq h2).symm
theorem decB_size (u : Nat) : (decB u).size ≤ u + 1 := by
  have h : ∀ n u, u ≤ n → (Lib.decDigits u).length ≤ u + 1 := by
    intro n
    induction n with
    | zero => intro u hu; obtain rfl : u = 0 := by omega
              decide +kernel
    | succ n ih =>
      intro u hu
      rw [Lib.decDigits]
      split
      · simp
      · have := ih (u / 10) (by omega)
        rw [List.length_append]; simp; omega
  have := h u u (Nat.le_refl _)
  rw [show (decB u).size = (Lib.decDigits u).length from size_list rfl]
  exact this
theorem decB_20 (u : Nat) (h : u < 10000000000000000000) : (decB u).size ≤ 19 := by
  have step : ∀ (k u : Nat), u < 10 ^ k → 0 < k → (Lib.decDigits u).length ≤ k := by
    intro k
    induction k with
    | zero => intro u h h0; omega
    | succ k ih =>
      intro u h _
      rw [Lib.decDigits]
      split
      · simp
      · rcases Nat.eq_zero_or_pos k with h0 | h0
        · subst h0; simp at h; omega
        · have := ih (u / 10) (by rw [Nat.pow_succ] at h; omega) h0
          rw [List.length_append]; simp; omega
  rw [show (decB u).size = (Lib.decDigits u).length from size_list rfl]
  exact step 19 u h (by omega)

set_option maxRecDepth 100000 in
set_option maxHeartbeats 1000000 in
theorem digits_low (u : Nat) (hlt : u < 10) (w : World) : Calls Tryd.prog 50 #[.int .i64 u] w fun e w' => e = .returned (.string (decB u)) ∧ w = w' := by
  have hs := Lib.hid (dec_small u hlt)
  unfold tenB at hs
  go_enter Tryd.func50, Tryd.ntmps50
  go_wp2_with fail
  go_ret
  exact ⟨congrArg (fun x => Ending.returned (.string x)) hs.out, rfl⟩
set_option maxRecDepth 100000 in
set_option maxHeartbeats 1000000 in
theorem digits_nat (n : Nat) : ∀ (u : Nat), u ≤ n → u ≤ 9223372036854775807 → ∀ w : World, Calls Tryd.prog 50 #[.int .i64 u] w fun e w' => e = .returned (.string (decB u)) ∧ w = w' := by
  induction n with
  | zero =>
    intro u hu hm w
    exact digits_low u (by omega) w
  | succ n ih =>
    intro u hu hm w
    rcases Nat.lt_or_ge u 10 with hlt | hge
    · exact digits_low u hlt w
    · have i1 := hide (ih (u / 10) (by omega) (by omega))
      have i2 := hide (ih (u % 10) (by omega) (by omega))
      have hm := Lib.hid (dec_more u hge)
      have z1 := decB_20 (u / 10) (by omega)
      have z2 := decB_20 (u % 10) (by omega)
      obtain ⟨a, ha⟩ : ∃ a, u / 10 = a := ⟨_, rfl⟩
      obtain ⟨b, hb⟩ : ∃ b, u % 10 = b := ⟨_, rfl⟩
      rw [ha] at i1 hm z1
      rw [hb] at i2 hm z2
      have hd : Int.tdiv (u : Int) 10 = (a : Int) := by rw [Int.tdiv_eq_ediv_of_nonneg (by omega)]; omega
      have hr : Int.tmod (u : Int) 10 = (b : Int) := by rw [Int.tmod_eq_emod_of_nonneg (by omega)]; omega
      have hd2 : (u : Int) / 10 = (a : Int) := by omega
      have hr2 : (u : Int) % 10 = (b : Int) := by omega
      clear ha hb
      go_enter Tryd.func50, Tryd.ntmps50
      go_wp2_with (first | (have h7 := firstDone; go_at_call 50; refine (unhide i2 _).mono ?_; rintro e w1 ⟨rfl, rfl⟩) | (go_at_call 50; refine (unhide i1 _).mono ?_; rintro e w1 ⟨rfl, rfl⟩; have firstDone := True.intro))
      go_ret
      exact ⟨by rw [hm.out] <;> rfl, rfl⟩

theorem itoa_size (n : Int) (h0 : -9223372036854775808 ≤ n) (h1 : n ≤ 9223372036854775807) : (itoaB n).size ≤ 20 := by
  rw [show (itoaB n).size = (Lib.itoa n).length from size_list rfl]
  unfold Lib.itoa
  split
  · have := decB_20 n.natAbs (by omega)
    rw [show (decB n.natAbs).size = (Lib.decDigits n.natAbs).length from size_list rfl] at this
    simp; omega
  · have := decB_20 n.toNat (by omega)
    rw [show (decB n.toNat).size = (Lib.decDigits n.toNat).length from size_list rfl] at this
    omega
theorem itoa_neg (n : Int) (h : n < 0) : (⟨#[45]⟩ : ByteArray) ++ decB n.natAbs = itoaB n := by
  unfold itoaB Lib.itoa
  rw [if_pos h]
  have : ((⟨#[45]⟩ : ByteArray) ++ decB n.natAbs).data.toList = 45 :: Lib.decDigits n.natAbs := by rw [app_data]; rfl
  exact ba_eq this
theorem itoa_pos (n : Int) (h : 0 ≤ n) : decB n.toNat = itoaB n := by
  unfold itoaB Lib.itoa
  rw [if_neg (by omega)]; rfl

set_option maxRecDepth 100000 in
set_option maxHeartbeats 1000000 in
theorem digits_any (n : Int) (h0 : -9223372036854775808 ≤ n) (h1 : n ≤ 9223372036854775807) (w : World) : Calls Tryd.prog 50 #[.int .i64 n] w fun e w' => e = .returned (.string (itoaB n)) ∧ w = w' := by
  rcases Int.lt_or_le n 0 with hneg | hpos
  · by_cases hmin : n = -9223372036854775808
    · have hlit : (⟨#[45, 57, 50, 50, 51, 51, 55, 50, 48, 51, 54, 56, 53, 52, 55, 55, 53, 56, 48, 56]⟩ : ByteArray) = itoaB n := by
        rw [hmin]
        have h : Lib.itoa (-9223372036854775808) = [45, 57, 50, 50, 51, 51, 55, 50, 48, 51, 54, 56, 53, 52, 55, 55, 53, 56, 48, 56] := by decide +kernel
        unfold itoaB
        rw [h]
      have HL := Lib.hid hlit
      have hw : IntKind.i64.wrap (-n) = n := by rw [hmin, IntKind.wrap_i64]; decide
      clear hlit hmin
      go_enter Tryd.func50, Tryd.ntmps50
      go_wp2_with fail
      go_ret
      exact ⟨by rw [← HL.out] <;> rfl, rfl⟩
    · have hi := hide (digits_nat n.natAbs n.natAbs (Nat.le_refl _) (by omega))
      have e : ((n.natAbs : Nat) : Int) = -n := by omega
      rw [e] at hi
      have hw : IntKind.i64.wrap (-n) = -n := IntWalk.i64_in _ (by omega)
      have hne : (n == -n) = false := by rw [beq_eq_false_iff_ne]; omega
      have HN := Lib.hid (itoa_neg n hneg)
      have hz := decB_20 n.natAbs (by omega)
      obtain ⟨d, hd⟩ : ∃ d, decB n.natAbs = d := ⟨_, rfl⟩
      rw [hd] at hi HN hz
      clear e hd
      go_enter Tryd.func50, Tryd.ntmps50
      go_wp2_with (go_at_call 50; refine (unhide hi _).mono ?_; rintro e w1 ⟨rfl, rfl⟩)
      go_ret
      exact ⟨by rw [← HN.out] <;> rfl, rfl⟩
  · have := digits_nat n.toNat n.toNat (Nat.le_refl _) (by omega) w
    rw [show ((n.toNat : Nat) : Int) = n by omega, itoa_pos n hpos] at this
    exact this

/-! ### the table of powers of ten -/
abbrev Pow10 (w : World) : Prop := Lib.TabIs Tryd.prog w "internal/strconv.uint64pow10" .u64 Lib.pow10Tab
theorem Pow10.below {w w' : World} (h : Pow10 w) (hb : Below w.heap.size w w') : Pow10 w' := by
  have hgn : Tryd.prog.globalNamed "internal/strconv.uint64pow10" = some 0 := by kernel_rfl
  unfold Pow10 Lib.TabIs World.var? at h ⊢
  rw [hgn] at h ⊢
  simp only [Option.bind_some] at h ⊢
  have hlt : 0 < w.heap.size := by
    rcases Nat.lt_or_ge 0 w.heap.size with h' | h'
    · exact h'
    · rw [Array.getElem?_eq_none h'] at h; cases h
  rw [hb.block 0 hlt]
  exact h
theorem itoa_any (n : Int) (h0 : -9223372036854775808 ≤ n) (h1 : n ≤ 9223372036854775807) (w : World) (ht : Pow10 w) : Calls Tryd.prog 45 #[.int .i64 n] w fun e w' => e = .returned (.string (itoaB n)) ∧ Below w.heap.size w w' := by
  refine (Tryd.strconv_Itoa n h0 h1 w ht).mono ?_
  rintro e w' ⟨rfl, k, os, rfl⟩
  exact ⟨rfl, Lib.below_grow _ w (Nat.le_refl _) k os⟩
end Go.Proofs.YtmmldoleillelaaDoor.Sp
