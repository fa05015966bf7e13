/- FieldJoins: the plain law. -/
import Derived.Test.YtfohhhdebinikaaGreatDoorF9
namespace Go.Proofs.YtfohhhdebinikaaGreatDoor.Sp
open Go.RowKit Sl

theorem low_low (c : UInt8) : lowB (lowB c) = lowB c := by
  by_cases h : 65 ≤ c.toNat ∧ c.toNat ≤ 90
  · have hn := lowB_nat c h
    have h2 : ¬ (65 ≤ (lowB c).toNat ∧ (lowB c).toNat ≤ 90) := by omega
    have e : ∀ d, ¬ (65 ≤ d.toNat ∧ d.toNat ≤ 90) → lowB d = d := fun d h => by unfold lowB; rw [if_neg h]
    exact e _ h2
  · have e : lowB c = c := by unfold lowB; rw [if_neg h]
    rw [e, e]
theorem lower_lower (l : List UInt8) : lower (lower l) = lower l := by
  unfold lower; rw [List.map_map]; congr 1; funext c; exact low_low c
def smallB (s : ByteArray) : ByteArray := ⟨(lower s.data.toList).toArray⟩
def smallF (f : Fld) : Fld := (smallB f.1, f.2)
def smallTo (k : Nat) (L : List Fld) : List Fld := (L.take k).map smallF ++ L.drop k
theorem smallTo_zero (L : List Fld) : smallTo 0 L = L := by simp [smallTo]
theorem smallTo_all (L : List Fld) (k : Nat) (h : L.length ≤ k) : smallTo k L = L.map smallF := by
  unfold smallTo
  rw [List.take_of_length_le h, List.drop_eq_nil_of_le h, List.append_nil]
theorem smallTo_len (L : List Fld) (k : Nat) : (smallTo k L).length = L.length := by
  unfold smallTo
  rw [List.length_append, List.length_map, List.length_take, List.length_drop]; omega
theorem smallTo_get? (L : List Fld) (k : Nat) (h : k < L.length) : (smallTo k L)[k]? = some L[k] := by
  unfold smallTo
  have hl : ((L.take k).map smallF).length = k := by rw [List.length_map, List.length_take]; omega
  rw [List.getElem?_append_right (by omega), hl, Nat.sub_self, List.drop_eq_getElem_cons h]
  rfl
theorem smallTo_get (L : List Fld) (k : Nat) (h : k < L.length) (h2 : k < (smallTo k L).length) : (smallTo k L)[k] = L[k] := by
  obtain ⟨_, e⟩ := List.getElem?_eq_some_iff.1 (smallTo_get? L k h)
  exact e
theorem smallTo_set (L : List Fld) (k : Nat) (h : k < L.length) : (smallTo k L).set k (smallF L[k]) = smallTo (k + 1) L := by
  unfold smallTo
  have hl : ((L.take k).map smallF).length = k := by rw [List.length_map, List.length_take]; omega
  rw [List.set_append_right _ _ (by omega), hl, Nat.sub_self, List.drop_eq_getElem_cons h, List.set_cons_zero, List.take_succ_eq_append_getElem h, List.map_append, List.append_assoc]
  rfl
theorem fldV_set1 (M : List Fld) (k : Nat) (h : k < M.length) (u : ByteArray) : (fldV M).set (k * 2) (.string u) = fldV (M.set k (u, M[k].2)) := by
  rw [← fldV_set]
  have h2 : ((fldV M).set (k * 2) (.string u))[k * 2 + 1]? = some (.string M[k].2) := by
    rw [List.getElem?_set_ne (by omega)]
    exact (fldV_get M k h).2
  obtain ⟨hi, e⟩ := List.getElem?_eq_some_iff.1 h2
  show _ = List.set _ (k * 2 + 1) (Value.string M[k].2)
  rw [← e]
  exact (List.set_getElem_self hi).symm

theorem same_comm (a b : List UInt8) : same a b = same b a := by
  unfold same
  exact Bool.eq_iff_iff.2 ⟨fun h => by simpa using (eq_of_beq h).symm, fun h => by simpa using (eq_of_beq h).symm⟩
theorem same_small (s : ByteArray) : same s.data.toList (smallB s).data.toList = true := by
  unfold same
  have e : (smallB s).data.toList = lower s.data.toList := rfl
  rw [e, lower_lower]
  simp
theorem samePF_comm (f g : Fld) : samePF (f, g) = samePF (g, f) := by
  unfold samePF
  simp only
  rw [same_comm]
  congr 1
  exact Bool.eq_iff_iff.2 ⟨fun h => by simpa using (eq_of_beq h).symm, fun h => by simpa using (eq_of_beq h).symm⟩
theorem samePF_small (f : Fld) : samePF (f, smallF f) = true := by
  unfold samePF smallF
  simp only
  rw [same_small]
  simp
theorem zip_comm : ∀ A B : List Fld, (A.zip B).all samePF = (B.zip A).all samePF
  | [], [] => rfl
  | [], _ :: _ => rfl
  | _ :: _, [] => rfl
  | f :: A, g :: B => by
    rw [List.zip_cons_cons, List.zip_cons_cons, List.all_cons, List.all_cons, zip_comm A B, samePF_comm]
theorem sameFs_comm (A B : List Fld) : sameFs A B = sameFs B A := by
  unfold sameFs
  rw [zip_comm]
  congr 1
  exact decide_eq_decide.2 ⟨Eq.symm, Eq.symm⟩
theorem zip_small : ∀ A : List Fld, (A.zip (A.map smallF)).all samePF = true
  | [] => rfl
  | f :: A => by
    rw [List.map_cons, List.zip_cons_cons, List.all_cons, zip_small A, samePF_small]
    rfl
theorem sameFs_small (A : List Fld) : sameFs A (A.map smallF) = true := by
  unfold sameFs
  rw [zip_small, List.length_map]
  simp
theorem sameFs_len (A B : List Fld) (h : sameFs A B = true) : A.length = B.length := by
  unfold sameFs at h
  rw [Bool.and_eq_true] at h
  exact of_decide_eq_true h.1
end Go.Proofs.YtfohhhdebinikaaGreatDoor.Sp
