/- Plain: what hosts are made of; small letters; a target after a host. -/
import Derived.Test.YtfkobhagdjaleaaA8
namespace Go.Proofs.Ytfkobhagdjaleaa.Sp
open Go.RowKit

/-! ### bytes, checked one by one -/
def okB (c : UInt8) : Bool := seenB c && c != 35 && c != 47 && c != 63
theorem byte_all (p : UInt8 → Bool) (h : ((List.range 256).all fun n => p (UInt8.ofNat n)) = true) (c : UInt8) : p c = true := by
  rw [List.all_eq_true] at h
  have := h c.toNat (List.mem_range.2 c.toNat_lt)
  rwa [UInt8.ofNat_toNat] at this
theorem host_ok (c : UInt8) (h : hostI c.toNat = true) : okB c = true := by
  have := byte_all (fun c => !hostI c.toNat || okB c) (by decide +kernel) c
  rw [h] at this
  simpa using this
theorem addr_ok (c : UInt8) (h : addrI c.toNat = true) : okB c = true := by
  have := byte_all (fun c => !addrI c.toNat || okB c) (by decide +kernel) c
  rw [h] at this
  simpa using this
theorem dig_ok (c : UInt8) (h : digI c.toNat = true) : okB c = true := by
  have := byte_all (fun c => !digI c.toNat || okB c) (by decide +kernel) c
  rw [h] at this
  simpa using this
theorem low_host (c : UInt8) : hostI (lowB c).toNat = hostI c.toNat := by
  have := byte_all (fun c => hostI (lowB c).toNat == hostI c.toNat) (by decide +kernel) c
  simpa using this
theorem low_addr (c : UInt8) : addrI (lowB c).toNat = addrI c.toNat := by
  have := byte_all (fun c => addrI (lowB c).toNat == addrI c.toNat) (by decide +kernel) c
  simpa using this
theorem low_dig (c : UInt8) : digI (lowB c).toNat = digI c.toNat := by
  have := byte_all (fun c => digI (lowB c).toNat == digI c.toNat) (by decide +kernel) c
  simpa using this
theorem low_low (c : UInt8) : lowB (lowB c) = lowB c := by
  have := byte_all (fun c => lowB (lowB c) == lowB c) (by decide +kernel) c
  simpa using this
theorem low_93 (c : UInt8) : (lowB c = 93) = (c = 93) := by
  have := byte_all (fun c => decide (lowB c = 93) == decide (c = 93)) (by decide +kernel) c
  simpa using this
theorem low_91 (c : UInt8) : (lowB c = 91) = (c = 91) := by
  have := byte_all (fun c => decide (lowB c = 91) == decide (c = 91)) (by decide +kernel) c
  simpa using this
theorem low_58 (c : UInt8) : (lowB c = 58) = (c = 58) := by
  have := byte_all (fun c => decide (lowB c = 58) == decide (c = 58)) (by decide +kernel) c
  simpa using this
theorem low_ok (c : UInt8) : okB (lowB c) = okB c := by
  have := byte_all (fun c => okB (lowB c) == okB c) (by decide +kernel) c
  simpa using this

theorem lower_lower (l : List UInt8) : lower (lower l) = lower l := by
  unfold lower; rw [List.map_map]; congr 1; funext c; exact low_low c

/-! ### what runs do -/
theorem runN_cons (p : Int → Bool) (c : UInt8) (t : List UInt8) : runN p (c :: t) = if p c.toNat = true then runN p t + 1 else 0 := by
  unfold runN
  by_cases h : p c.toNat = true
  · rw [List.takeWhile_cons_of_pos (by exact h), if_pos h]; rfl
  · rw [List.takeWhile_cons_of_neg (by exact h), if_neg h]; rfl
theorem run_low {p : Int → Bool} (h : ∀ c : UInt8, p (lowB c).toNat = p c.toNat) : ∀ l : List UInt8, runN p (lower l) = runN p l
  | [] => rfl
  | c :: t => by
    show runN p (lowB c :: lower t) = _
    rw [runN_cons, runN_cons, h, run_low h t]
theorem run_all {p : Int → Bool} : ∀ (l : List UInt8) (k : Nat), k ≤ runN p l → ∀ c ∈ l.take k, p c.toNat = true
  | [], _, _, c, hc => by simp at hc
  | b :: t, 0, _, c, hc => by simp at hc
  | b :: t, k + 1, hk, c, hc => by
    rw [runN_cons] at hk
    split at hk
    · rename_i hb
      rw [List.take_succ_cons, List.mem_cons] at hc
      rcases hc with rfl | hc
      · exact hb
      · exact run_all t k (by omega) c hc
    · omega
theorem run_same {p : Int → Bool} : ∀ (l : List UInt8), (∀ c ∈ l, p c.toNat = true) → runN p l = l.length
  | [], _ => rfl
  | b :: t, h => by
    rw [runN_cons, if_pos (h b (List.mem_cons.2 (.inl rfl))), run_same t (fun c hc => h c (List.mem_cons.2 (.inr hc)))]; rfl
theorem prefix_low (c : UInt8) (hc : ∀ b, (lowB b = c) = (b = c)) (l : List UInt8) : Lib.hasPrefix (lower l) [c] = Lib.hasPrefix l [c] := by
  cases l with
  | nil => rfl
  | cons b t =>
    show List.isPrefixOf [c] (lowB b :: lower t) = List.isPrefixOf [c] (b :: t)
    simp only [List.isPrefixOf, Bool.and_true]
    rw [Bool.eq_iff_iff, beq_iff_eq, beq_iff_eq]
    have := hc b
    constructor
    · intro h; exact (this.mp h.symm).symm
    · intro h; exact (this.mpr h.symm).symm
theorem lower_drop (l : List UInt8) (n : Nat) : (lower l).drop n = lower (l.drop n) := by unfold lower; rw [List.map_drop]
theorem lower_len (l : List UInt8) : (lower l).length = l.length := by unfold lower; rw [List.length_map]
theorem trim_low (l : List UInt8) : Lib.trimPrefix (lower l) [58] = lower (Lib.trimPrefix l [58]) := by
  unfold Lib.trimPrefix
  rw [prefix_low 58 low_58]
  split
  · exact lower_drop l 1
  · rfl
theorem tail_low (l : List UInt8) (n : Nat) : tailP (lower l) n = tailP l n := by
  unfold tailP
  rw [lower_len, lower_drop, trim_low, prefix_low 58 low_58, lower_len, run_low low_dig]
theorem brack_low (r : List UInt8) : brackOK (lower r) ↔ brackOK r := by
  unfold brackOK
  rw [run_low low_addr, lower_len]
  have e : (lower r).getD (runN addrI r) 0 = lowB (r.getD (runN addrI r) 0) := by
    unfold lower
    rw [List.getD_eq_getElem?_getD, List.getD_eq_getElem?_getD, List.getElem?_map]
    cases r[runN addrI r]? <;> rfl
  rw [e, low_93]
theorem port_low (l : List UInt8) : portS (lower l) = portS l := by
  unfold portS
  rw [prefix_low 91 low_91, lower_drop, run_low low_addr, run_low low_host, tail_low, tail_low]
  by_cases hb : brackOK (l.drop 1)
  · rw [if_pos ((brack_low _).2 hb), if_pos hb]
  · rw [if_neg (fun h => hb ((brack_low _).1 h)), if_neg hb]

/-! ### the bytes of a host -/
theorem tail_ok {l : List UInt8} {n : Nat} (h : (tailP l n).2 = true) : 0 < n ∧ (n = l.length ∨ ∃ q, l.drop n = 58 :: q ∧ q.length ≤ 5 ∧ runN digI q = q.length) := by
  unfold tailP at h
  by_cases h0 : n = 0
  · rw [if_pos h0] at h; cases h
  rw [if_neg h0] at h
  refine ⟨by omega, ?_⟩
  by_cases h1 : n = l.length
  · exact .inl h1
  rw [if_neg h1] at h
  right
  simp only [Bool.and_eq_true, decide_eq_true_eq] at h
  obtain ⟨⟨h2, h3⟩, h4⟩ := h
  obtain ⟨q, hq⟩ := prefix_pos h2
  have ht : Lib.trimPrefix (l.drop n) [58] = q := by unfold Lib.trimPrefix; rw [if_pos h2, hq]; rfl
  rw [ht] at h3 h4
  exact ⟨q, hq, h3, h4⟩
theorem rest_ok {l : List UInt8} {n : Nat} (h : (tailP l n).2 = true) : ∀ c ∈ l.drop n, okB c = true := by
  intro c hc
  obtain ⟨_, h1 | ⟨q, hq, _, h4⟩⟩ := tail_ok h
  · rw [h1, List.drop_length] at hc; cases hc
  · rw [hq, List.mem_cons] at hc
    rcases hc with rfl | hc
    · decide
    · refine dig_ok c (run_all q q.length (by omega) c ?_)
      rw [List.take_length]; exact hc
theorem mem_split {l : List UInt8} (n : Nat) {c : UInt8} (h : c ∈ l) : c ∈ l.take n ∨ c ∈ l.drop n := by
  rw [← List.take_append_drop n l] at h
  exact List.mem_append.1 h
theorem hosts_ok {l : List UInt8} (h : (portS l).2 = true) : ∀ c ∈ l, okB c = true := by
  intro c hc
  unfold portS at h
  by_cases hp : Lib.hasPrefix l [91] = true
  · rw [if_pos hp] at h
    by_cases hb : brackOK (l.drop 1)
    · rw [if_pos hb] at h
      obtain ⟨r, hr⟩ := prefix_pos hp
      rcases mem_split (runN addrI (l.drop 1) + 2) hc with hc | hc
      · rw [hr, List.drop_succ_cons, List.drop_zero, List.take_succ_cons, List.mem_cons] at hc
        rcases hc with rfl | hc
        · decide
        · rw [hr, List.drop_succ_cons, List.drop_zero] at hb
          obtain ⟨_, hb2, hb3⟩ := hb
          rw [List.take_succ_eq_append_getElem hb2, List.mem_append] at hc
          rcases hc with hc | hc
          · exact addr_ok c (run_all r _ (Nat.le_refl _) c hc)
          · rw [List.mem_singleton] at hc
            rw [List.getD_eq_getElem?_getD, List.getElem?_eq_getElem hb2] at hb3
            simp at hb3
            rw [hc, hb3]; decide
      · exact rest_ok h c hc
    · rw [if_neg hb] at h; cases h
  · rw [if_neg hp] at h
    rcases mem_split (runN hostI l) hc with hc | hc
    · exact host_ok c (run_all l _ (Nat.le_refl _) c hc)
    · exact rest_ok h c hc
theorem host_ne {l : List UInt8} (h : (portS l).2 = true) : l ≠ [] := by
  rintro rfl
  revert h; decide +kernel
end Go.Proofs.Ytfkobhagdjaleaa.Sp
