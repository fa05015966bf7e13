/- The reference's Target. -/
import Derived.Test.YtfkobhagdjaleaaGreatDoorS14
import Derived.Test.YtfkobhagdjaleaaGreatDoorA8
namespace Go.Proofs.YtfkobhagdjaleaaGreatDoor.Sp
open Go.RowKit Sl

/-! ### plain -/
def hashTo (s : ByteArray) (k : Nat) : Bool := (s.data.toList.take k).any fun c => c == 35
theorem hashTo_step (s : ByteArray) (k : Nat) (h : k < s.size) : hashTo s (k + 1) = (hashTo s k || s[k] == 35) := by
  unfold hashTo
  have hl : k < s.data.toList.length := by simpa using h
  rw [List.take_succ_eq_append_getElem hl, List.any_append]
  simp only [List.any_cons, List.any_nil, Bool.or_false]
  rfl
theorem hash_has : ∀ l : List UInt8, decide (0 ≤ hashN l) = l.any fun c => c == 35
  | [] => by decide
  | c :: t => by
    have ih := hash_has t
    have hg := Lib.indexByte_ge t 35
    unfold hashN at ih ⊢
    unfold Lib.indexByte
    by_cases hc : (c == 35) = true
    · rw [if_pos hc]
      simp [hc]
    · rw [if_neg hc]
      simp only [List.any_cons, Bool.eq_false_iff.2 hc, Bool.false_or]
      rw [← ih]
      by_cases h1 : (Lib.indexByte t 35 == -1) = true
      · rw [if_pos h1]
        rw [eq_of_beq h1]
      · rw [if_neg h1]
        have h2 : Lib.indexByte t 35 ≠ -1 := fun e => h1 (by rw [e]; rfl)
        rw [decide_eq_true (by omega : 0 ≤ Lib.indexByte t 35 + 1), decide_eq_true (by omega : 0 ≤ Lib.indexByte t 35)]
theorem rp_pos (l : List UInt8) : ((portS l).2 = true ∧ 0 < (portS l).1) ↔ ¬ rp l < 1 := by
  unfold rp
  cases h : (portS l).2
  · simp
  · simp only [if_true, true_and]
    omega
def endI (c : Int) : Bool := c != 47 && c != 63
theorem endI_not (c : UInt8) : endI c.toNat = notEnd c := by
  have := byte_all (fun c => endI c.toNat == notEnd c) (by decide +kernel) c
  simpa using this
theorem endP : byteP endI = notEnd := funext endI_not
theorem host_take (r : List UInt8) : hostOf r = r.take (runN endI r) := by
  unfold hostOf runN
  rw [endP]
  exact List.prefix_iff_eq_take.1 (List.takeWhile_prefix _)
theorem rest_drop (r : List UInt8) : restOf r = r.drop (runN endI r) := by
  have h1 : hostOf r ++ restOf r = r := List.takeWhile_append_dropWhile
  have h2 : (hostOf r).length = runN endI r := by unfold hostOf runN; rw [endP]
  rw [← h2]
  conv => rhs; rw [show List.drop (hostOf r).length r = List.drop (hostOf r).length (hostOf r ++ restOf r) by rw [h1]]
  rw [List.drop_left]
theorem end_next {r : List UInt8} {c : UInt8} {t : List UInt8} (h : r.drop (runN endI r) = c :: t) : c.toNat = 47 ∨ c.toNat = 63 := by
  rw [← rest_drop] at h
  have h1 : notEnd c = false := by
    unfold restOf at h
    cases hn : notEnd c
    · rfl
    · exfalso
      have h2 : ∀ l : List UInt8, l.dropWhile notEnd = c :: t → False := by
        intro l
        induction l with
        | nil => intro h; simp at h
        | cons a l ih =>
          intro h
          rw [List.dropWhile_cons] at h
          split at h
          · exact ih h
          · rename_i hna
            rw [(List.cons.inj h).1] at hna
            exact hna hn
      exact h2 r h
  unfold notEnd at h1
  by_cases hc : c = 47
  · left; rw [hc]; rfl
  · right
    have : c = 63 := by simpa [hc] using h1
    rw [this]; rfl
end Go.Proofs.YtfkobhagdjaleaaGreatDoor.Sp
