/- Plain: what a target may be; a target behind a host. -/
import Derived.Test.YtfkobhagdjaleaaPl1
namespace Go.Proofs.Ytfkobhagdjaleaa.Sp
open Go.RowKit

theorem hash_iff (l : List UInt8) : 0 ≤ hashN l ↔ (35 : UInt8) ∈ l := by
  unfold hashN
  have := Lib.contains_iff_indexByte l 35
  constructor
  · intro h
    rw [decide_eq_true h] at this
    exact List.contains_iff_mem.1 this
  · intro h
    rw [List.contains_iff_mem.2 h] at this
    exact of_decide_eq_true this.symm
theorem seen_cons {l : List UInt8} (h : seenS l = true) : l ≠ [] := by rintro rfl; cases h
theorem head_of {l : List UInt8} (h : l ≠ []) (c : UInt8) (h0 : l.getD 0 0 = c) : ∃ t, l = c :: t := by
  cases l with
  | nil => exact absurd rfl h
  | cons b t => exact ⟨t, by simp at h0; rw [h0]⟩
theorem path_ne (p : List UInt8) : pathOf p ≠ [] := by
  unfold pathOf
  split
  · rename_i h
    obtain ⟨t, ht⟩ := prefix_pos h
    rw [ht]; simp
  · simp

theorem tgt_cases (m p : List UInt8) : tgt m p = tbad ∨ tgt m p = ((3, lower p, []), 0) ∨ tgt m p = ((4, [], []), 0) ∨ (∃ h q, tgt m p = ((2, h, q), 0) ∧ q ≠ []) ∨
    (tgt m p = ((1, [], p), 0) ∧ seenS p = true ∧ ¬ 0 ≤ hashN p ∧ ¬ (m == connectL) = true ∧ ∃ t, p = 47 :: t) := by
  unfold tgt
  by_cases h1 : seenS p = false
  · rw [if_pos h1]; exact .inl rfl
  rw [if_neg h1]
  have h1' : seenS p = true := by simpa using h1
  by_cases h2 : 0 ≤ hashN p
  · rw [if_pos h2]; exact .inl rfl
  rw [if_neg h2]
  by_cases h3 : (m == connectL) = true
  · rw [if_pos h3]
    by_cases h4 : (portS p).2 = true ∧ 0 < (portS p).1
    · rw [if_pos h4]; exact .inr (.inl rfl)
    · rw [if_neg h4]; exact .inl rfl
  rw [if_neg h3]
  by_cases h5 : (m == optionsL) = true ∧ (p == [42]) = true
  · rw [if_pos h5]; exact .inr (.inr (.inl rfl))
  rw [if_neg h5]
  by_cases h6 : p.getD 0 0 = 47
  · rw [if_pos h6]; exact .inr (.inr (.inr (.inr ⟨rfl, h1', h2, h3, head_of (seen_cons h1') 47 h6⟩)))
  rw [if_neg h6]
  by_cases h7 : restT p = []
  · rw [if_pos h7]; exact .inl rfl
  rw [if_neg h7]
  unfold absT
  by_cases h8 : (portS (hostOf (restT p))).2 = true
  · rw [if_pos h8]; exact .inr (.inr (.inr (.inl ⟨_, _, rfl, path_ne _⟩)))
  · rw [if_neg h8]; exact .inl rfl

theorem ok_seen {c : UInt8} (h : okB c = true) : seenB c = true ∧ c ≠ 35 ∧ c ≠ 47 ∧ c ≠ 63 := by
  unfold okB at h
  simp at h
  exact ⟨h.1.1.1, h.1.1.2, h.1.2, h.2⟩
def hTTpL : List UInt8 := [104, 84, 84, 112, 58, 47, 47]

theorem host_split {h t : List UInt8} (hh : ∀ c ∈ h, okB c = true) : hostOf (h ++ 47 :: t) = h ∧ restOf (h ++ 47 :: t) = 47 :: t := by
  induction h with
  | nil => exact ⟨rfl, rfl⟩
  | cons b h ih =>
    have hb := ok_seen (hh b (List.mem_cons.2 (.inl rfl)))
    have hn : notEnd b = true := by unfold notEnd; simp [hb.2.2.1, hb.2.2.2]
    obtain ⟨i1, i2⟩ := ih (fun c hc => hh c (List.mem_cons.2 (.inr hc)))
    unfold hostOf restOf at *
    rw [List.cons_append, List.takeWhile_cons_of_pos hn, List.dropWhile_cons_of_pos hn, i1, i2]
    exact ⟨rfl, rfl⟩

theorem tgt_abs {m p h sch : List UInt8} (hsch : sch = httpL ∨ sch = hTTpL) (hp : seenS p = true) (hx : ¬ 0 ≤ hashN p) (hm : ¬ (m == connectL) = true) (ht : ∃ t, p = 47 :: t) (hh : (portS h).2 = true) :
    tgt m (sch ++ h ++ p) = ((2, lower h, p), 0) := by
  have hok := hosts_ok hh
  obtain ⟨t, ht⟩ := ht
  have sl : sch.length = 7 := by rcases hsch with rfl | rfl <;> rfl
  have sall : sch.all seenB = true := by rcases hsch with rfl | rfl <;> decide
  have sno : (35 : UInt8) ∉ sch := by rcases hsch with rfl | rfl <;> decide
  have slow : same sch httpL = true := by rcases hsch with rfl | rfl <;> decide
  have shead : ∃ t, sch = 104 :: t := by rcases hsch with rfl | rfl <;> exact ⟨_, rfl⟩
  have hs : seenS (sch ++ h ++ p) = true := by
    rw [seenS_of _ (by rw [ht]; simp), List.all_append, List.all_append, sall]
    have h1 : h.all seenB = true := by rw [List.all_eq_true]; exact fun c hc => (ok_seen (hok c hc)).1
    have h2 : p.all seenB = true := by rw [← seenS_of _ (seen_cons hp)]; exact hp
    rw [h1, h2]; rfl
  have hn : ¬ 0 ≤ hashN (sch ++ h ++ p) := by
    rw [hash_iff] at hx ⊢
    rw [List.mem_append, List.mem_append]
    rintro ((h1 | h1) | h1)
    · exact sno h1
    · exact (ok_seen (hok _ h1)).2.1 rfl
    · exact hx h1
  have hr : restT (sch ++ h ++ p) = h ++ p := by
    have ha : isAbs (sch ++ h ++ p) = true := by
      unfold isAbs
      rw [List.append_assoc, List.take_append_of_le_length (by omega), List.take_of_length_le (by omega), slow]
      have : 7 < (sch ++ (h ++ p)).length := by rw [List.length_append, List.length_append, ht]; simp; omega
      rw [decide_eq_true this]; rfl
    unfold restT
    rw [if_pos ha, List.append_assoc, List.drop_append_of_le_length (by omega), List.drop_of_length_le (by omega), List.nil_append]
  obtain ⟨u, hu⟩ := shead
  unfold tgt
  rw [if_neg (by rw [hs]; decide), if_neg hn, if_neg hm, if_neg, if_neg, hr, if_neg]
  · unfold absT
    rw [ht]
    obtain ⟨e1, e2⟩ := host_split (t := t) hok
    rw [e1, e2, if_pos hh]
    have : pathOf (47 :: t) = 47 :: t := by unfold pathOf; rw [if_pos (by rfl)]
    rw [this]
  · rw [ht]; simp
  · rw [hu]; simp
  · rintro ⟨_, h2⟩
    rw [hu] at h2
    simp at h2
end Go.Proofs.Ytfkobhagdjaleaa.Sp
