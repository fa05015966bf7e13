/- Plain: a host and its port. -/
import Derived.Test.YtfkobhagdjaleaaPl1
namespace Go.Proofs.Ytfkobhagdjaleaa.Sp
open Go.RowKit

def digS (p : List UInt8) : Bool := decide (p.length ≤ 5) && p.all fun c => digI c.toNat
theorem run_full (p : Int → Bool) : ∀ l : List UInt8, decide (runN p l = l.length) = l.all fun c => p c.toNat
  | [] => rfl
  | c :: t => by
    rw [runN_cons, List.all_cons, ← run_full p t]
    by_cases h : p c.toNat = true
    · rw [if_pos h, h, Bool.true_and]
      rw [Bool.eq_iff_iff, decide_eq_true_iff, decide_eq_true_iff]
      simp
    · have h' : p c.toNat = false := by simpa using h
      rw [if_neg h, h']
      simp
theorem run_app_stop {p : Int → Bool} {c : UInt8} (hc : p c.toNat = false) (t : List UInt8) : ∀ l : List UInt8, runN p (l ++ c :: t) = runN p l
  | [] => by rw [List.nil_append, runN_cons, if_neg (by rw [hc]; decide)]; rfl
  | b :: l => by rw [List.cons_append, runN_cons, runN_cons, run_app_stop hc t l]
theorem run_app_lt {p : Int → Bool} (t : List UInt8) : ∀ l : List UInt8, runN p l < l.length → runN p (l ++ t) = runN p l
  | [], h => absurd h (Nat.not_lt_zero _)
  | b :: l, h => by
    rw [List.cons_append, runN_cons, runN_cons]
    rw [runN_cons] at h
    split
    · rename_i hb
      rw [if_pos hb] at h
      rw [run_app_lt t l (by simp at h; omega)]
    · rfl
theorem run_stop {p : Int → Bool} : ∀ l : List UInt8, runN p l < l.length → ∃ c t, l.drop (runN p l) = c :: t ∧ p c.toNat = false
  | [], h => absurd h (Nat.not_lt_zero _)
  | b :: l, h => by
    rw [runN_cons] at h ⊢
    by_cases hb : p b.toNat = true
    · rw [if_pos hb] at h ⊢
      rw [List.drop_succ_cons]
      exact run_stop l (by simp at h; omega)
    · rw [if_neg hb]
      exact ⟨b, l, rfl, by simpa using hb⟩
theorem tail_false {l : List UInt8} {n : Nat} {x : UInt8} (hn : n ≠ l.length) (hx : x ∈ l.drop n) (h1 : x ≠ 58) (h2 : digI x.toNat = false) : (tailP l n).2 = false := by
  rw [Bool.eq_false_iff]
  intro h
  obtain ⟨_, h3 | ⟨q, hq, _, h4⟩⟩ := tail_ok h
  · exact hn h3
  · rw [hq, List.mem_cons] at hx
    rcases hx with hx | hx
    · exact h1 hx
    · have := run_all (p := digI) q q.length (by omega) x (by rw [List.take_length]; exact hx)
      rw [h2] at this
      cases this
theorem tail_head {l : List UInt8} {n : Nat} {c : UInt8} {t : List UInt8} (hd : l.drop n = c :: t) (hc : c ≠ 58) : (tailP l n).2 = false := by
  have hn : n ≠ l.length := by rintro rfl; rw [List.drop_length] at hd; cases hd
  rw [Bool.eq_false_iff]
  intro h
  obtain ⟨_, h3 | ⟨q, hq, _⟩⟩ := tail_ok h
  · exact hn h3
  · rw [hd] at hq
    exact hc (List.cons.inj hq).1
theorem tail_port {l : List UInt8} {n : Nat} {q : List UInt8} (h0 : n ≠ 0) (hd : l.drop n = 58 :: q) : (tailP l n).2 = digS q := by
  have hn : n ≠ l.length := by rintro rfl; rw [List.drop_length] at hd; cases hd
  unfold tailP
  have hp : Lib.hasPrefix (58 :: q) [58] = true := rfl
  have ht : Lib.trimPrefix (58 :: q) [58] = q := by unfold Lib.trimPrefix; rw [if_pos hp]; rfl
  rw [if_neg h0, if_neg hn, hd, hp, ht]
  unfold digS
  rw [run_full, Bool.true_and]
theorem tail_end (l : List UInt8) (h : l ≠ []) : (tailP l l.length).2 = true := by
  unfold tailP
  rw [if_neg (by cases l with | nil => exact absurd rfl h | cons b t => simp), if_pos rfl]

theorem hosts_a {name port : List UInt8} (hnc : (58 : UInt8) ∉ name) (hb : Lib.hasPrefix name [91] = false) : (portS (name ++ 58 :: port)).2 = ((portS name).2 && digS port) := by
  have hb2 : Lib.hasPrefix (name ++ 58 :: port) [91] = false := by
    cases name with
    | nil => rfl
    | cons b t => exact hb
  have h58 : hostI (58 : UInt8).toNat = false := by decide +kernel
  unfold portS
  rw [hb, hb2]
  simp only [Bool.false_eq_true, if_false]
  rw [run_app_stop h58]
  rcases Nat.lt_or_ge (runN hostI name) name.length with hlt | hge
  · obtain ⟨c, t, hd, hc⟩ := run_stop name hlt
    have hcn : c ≠ 58 := by
      rintro rfl
      have : (58 : UInt8) ∈ name.drop (runN hostI name) := by rw [hd]; simp
      exact hnc (List.mem_of_mem_drop this)
    rw [tail_head hd hcn, Bool.false_and]
    refine tail_head (c := c) (t := t ++ 58 :: port) ?_ hcn
    rw [List.drop_append_of_le_length (by omega), hd]; rfl
  · have he : runN hostI name = name.length := by have := runN_le hostI name; omega
    rw [he]
    by_cases hn : name = []
    · subst hn
      rfl
    · have h0 : name.length ≠ 0 := by cases name with | nil => exact absurd rfl hn | cons b t => simp
      rw [tail_end name hn, Bool.true_and]
      refine tail_port h0 ?_
      rw [List.drop_append_of_le_length (Nat.le_refl _), List.drop_length]; rfl

theorem hosts_b {r port : List UInt8} : (portS (91 :: (r ++ [93]) ++ 58 :: port)).2 = ((portS (91 :: (r ++ [93]))).2 && digS port) := by
  have h93 : addrI (93 : UInt8).toNat = false := by decide +kernel
  have d93 : digI (93 : UInt8).toNat = false := by decide +kernel
  have hk : runN addrI (r ++ [93]) = runN addrI r := run_app_stop h93 [] r
  have hkl := runN_le addrI r
  have hlt : runN addrI (r ++ [93]) < (r ++ [93]).length := by rw [hk]; simp; omega
  have hk2 : runN addrI (r ++ [93] ++ 58 :: port) = runN addrI (r ++ [93]) := run_app_lt _ _ hlt
  have hp1 : Lib.hasPrefix (91 :: (r ++ [93]) ++ 58 :: port) [91] = true := rfl
  have hp2 : Lib.hasPrefix (91 :: (r ++ [93])) [91] = true := rfl
  have d1 : List.drop 1 (91 :: (r ++ [93]) ++ 58 :: port) = r ++ [93] ++ 58 :: port := rfl
  have d2 : List.drop 1 (91 :: (r ++ [93])) = r ++ [93] := rfl
  unfold portS
  rw [hp1, hp2, if_pos rfl, if_pos rfl, d1, d2]
  have hbk : brackOK (r ++ [93] ++ 58 :: port) ↔ brackOK (r ++ [93]) := by
    unfold brackOK
    rw [hk2]
    have e : (r ++ [93] ++ 58 :: port).getD (runN addrI (r ++ [93])) 0 = (r ++ [93]).getD (runN addrI (r ++ [93])) 0 := by
      rw [List.getD_eq_getElem?_getD, List.getD_eq_getElem?_getD, List.getElem?_append_left hlt]
    have hla : (r ++ [93] ++ 58 :: port).length = (r ++ [93]).length + (58 :: port).length := List.length_append
    rw [e, hla]
    constructor
    · rintro ⟨a, _, c⟩; exact ⟨a, hlt, c⟩
    · rintro ⟨a, b, c⟩; exact ⟨a, by omega, c⟩
  by_cases hB : brackOK (r ++ [93])
  · rw [if_pos hB, if_pos (hbk.2 hB), hk2, hk]
    generalize hK : runN addrI r = k at *
    have hlen : (91 :: (r ++ [93])).length = r.length + 2 := by simp
    by_cases he : k = r.length
    · subst he
      rw [show r.length + 2 = (91 :: (r ++ [93])).length from hlen.symm]
      rw [tail_end _ (by simp), Bool.true_and]
      refine tail_port (by simp) ?_
      rw [List.drop_append_of_le_length (Nat.le_refl _), List.drop_length]; rfl
    · have hd : (91 :: (r ++ [93])).drop (k + 2) = r.drop (k + 1) ++ [93] := by
        rw [List.drop_succ_cons, List.drop_append_of_le_length (by omega)]
      have m1 : (93 : UInt8) ∈ (91 :: (r ++ [93])).drop (k + 2) := by rw [hd]; simp
      have m2 : (93 : UInt8) ∈ (91 :: (r ++ [93]) ++ 58 :: port).drop (k + 2) := by
        rw [List.drop_append_of_le_length (by rw [hlen]; omega)]
        exact List.mem_append.2 (.inl m1)
      rw [tail_false (by rw [hlen]; omega) m1 (by decide) d93, Bool.false_and]
      exact tail_false (by rw [List.length_append, hlen]; simp; omega) m2 (by decide) d93
  · rw [if_neg hB, if_neg (fun h => hB (hbk.1 h))]
    rfl
end Go.Proofs.Ytfkobhagdjaleaa.Sp
