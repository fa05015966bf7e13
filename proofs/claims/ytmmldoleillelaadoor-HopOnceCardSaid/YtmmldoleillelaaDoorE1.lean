/- Plain: what HopNamed says. -/
import Derived.Test.YtmmldoleillelaaDoorD4
import Derived.Test.YtmmldoleillelaaDoorB4
namespace Go.Proofs.YtmmldoleillelaaDoor.Sp
open Go.RowKit Sl

theorem tch_plain (c : UInt8) (h : tch c = true) : c ≠ 34 ∧ c ≠ 44 ∧ whiteB c = false := by
  have := byte_all (fun c => !tch c || (c != 34 && c != 44 && !whiteB c)) (by decide +kernel) c
  simp [h] at this
  exact ⟨this.1.1, this.1.2, this.2⟩
theorem pieces_plain : ∀ (l cur : List UInt8), (∀ c ∈ l, c ≠ 34 ∧ c ≠ 44) → pieces false cur l = [cur ++ l]
  | [], cur, _ => by rw [pieces, List.append_nil]
  | c :: t, cur, h => by
    have hc := h c List.mem_cons_self
    rw [pieces_else (by simp) (by simp [hc.1]) (by simp [hc.2]), pieces_plain t _ (fun d hd => h d (List.mem_cons_of_mem _ hd))]
    simp
theorem right_plain : ∀ l : List UInt8, (∀ c ∈ l, whiteB c = false) → Lib.trimRightS l [32, 9] = l
  | [], _ => rfl
  | c :: t, h => by
    rw [right_cons, right_plain t (fun d hd => h d (List.mem_cons_of_mem _ hd)), h c List.mem_cons_self]
    cases t <;> rfl
theorem trim_plain (l : List UInt8) (h : ∀ c ∈ l, whiteB c = false) : trimW l = l := by
  rw [← trim_comm]
  cases l with
  | nil => rfl
  | cons c t => rw [left_stop (h c List.mem_cons_self)]; exact right_plain _ h
theorem trim_blank (l : List UInt8) (h : ∀ c ∈ l, whiteB c = false) : trimW (32 :: l) = l := by
  rw [← trim_comm, left_step (by decide), trim_comm, trim_plain l h]

def qB : ByteArray := ⟨#[113]⟩
def conn1 : ByteArray := ⟨#[99, 111, 110, 110, 101, 99, 116, 105, 111, 110]⟩
def qComma : ByteArray := ⟨#[113, 44, 32]⟩
theorem token_all {l : List UInt8} (h : tokenS l = true) : l ≠ [] ∧ ∀ c ∈ l, tch c = true := by
  unfold tokenS allS at h
  rw [Bool.and_eq_true] at h
  exact ⟨by intro e; subst e; simp at h, List.all_eq_true.1 h.2⟩
theorem split_named (name : ByteArray) (h : tokenS name.data.toList = true) : splitB (qComma ++ name) = [qB, name] := by
  obtain ⟨h1, h2⟩ := token_all h
  have h3 : ∀ c ∈ name.data.toList, whiteB c = false := fun c hc => (tch_plain c (h2 c hc)).2.2
  unfold splitB splitS
  rw [app_data]
  show List.map ofL (keep (pieces false [] (113 :: 44 :: 32 :: name.data.toList))) = _
  rw [pieces_else (by simp) (by decide) (by decide), pieces_comma (by simp) (by decide) (by decide), pieces_plain _ _ (by
    intro c hc
    rcases List.mem_cons.1 hc with rfl | hc
    · decide
    · exact ⟨(tch_plain c (h2 c hc)).1, (tch_plain c (h2 c hc)).2.1⟩)]
  have e1 : keep [[] ++ [113], [] ++ 32 :: name.data.toList] = [[113], name.data.toList] := by
    unfold keep
    have e2 : trimW ([] ++ [113]) = [113] := trim_plain [113] (by decide)
    have e3 : trimW ([] ++ 32 :: name.data.toList) = name.data.toList := trim_blank _ h3
    rw [List.map_cons, List.map_cons, List.map_nil, e2, e3]
    have e4 : name.data.toList.isEmpty = false := by cases hh : name.data.toList <;> simp_all
    simp [e4]
  rw [e1]
  rfl

theorem allB_app (A B : List Fld) (name : ByteArray) : allB (A ++ B) name = allB A name ++ allB B name := by unfold allB; rw [List.filter_append, List.map_append]
theorem listB_app (A B : List Fld) (name : ByteArray) : listB (A ++ B) name = listB A name ++ listB B name := by unfold listB flatB; rw [allB_app, List.flatMap_append]
theorem conn_is (v : ByteArray) : isN connB (conn1, v) = true := by
  show same conn1.data.toList connB.data.toList = true
  decide +kernel
theorem conn1_hop : hopS conn1 = true := by decide +kernel
theorem lsw (a b : List UInt8) : (a == b) = (b == a) := Bool.eq_iff_iff.2 (by rw [beq_iff_eq, beq_iff_eq]; exact ⟨Eq.symm, Eq.symm⟩)
theorem gone_more (K : List ByteArray) (x y z : ByteArray) : goneS (K ++ [low y, low z]) x = (goneS K x || (same x.data.toList y.data.toList || same x.data.toList z.data.toList)) := by
  unfold goneS same low
  rw [List.any_append]
  simp only [List.any_cons, List.any_nil, Bool.or_false, ofL_data]
  rw [lsw (lower y.data.toList), lsw (lower z.data.toList)]
  cases (K.any fun y => y.data.toList == lower x.data.toList) <;> cases hopS x <;> cases (lower x.data.toList == lower y.data.toList) <;> cases (lower x.data.toList == lower z.data.toList) <;> rfl
theorem strip_named (F : List Fld) (name : ByteArray) (h : tokenS name.data.toList = true) : stripF (F ++ [(conn1, qComma ++ name)]) = delF (delF (stripF F) name) qB := by
  have hl : listB (F ++ [(conn1, qComma ++ name)]) connB = listB F connB ++ [qB, name] := by
    rw [listB_app]
    congr 1
    have : allB [(conn1, qComma ++ name)] connB = [qComma ++ name] := by
      unfold allB
      rw [List.filter_cons_of_pos (conn_is _)]; rfl
    unfold listB flatB
    rw [this]
    simp [split_named name h]
  unfold stripF delF
  rw [hl, List.map_append, List.filter_append, List.filter_filter, List.filter_filter]
  have e : (List.filter (fun f => !goneS (List.map low (listB F connB) ++ List.map low [qB, name]) f.1) [(conn1, qComma ++ name)]) = [] := by
    rw [List.filter_eq_nil_iff]
    intro f hf
    rw [List.mem_singleton] at hf
    subst hf
    unfold goneS
    rw [conn1_hop, Bool.or_true]; decide
  rw [e, List.append_nil]
  refine List.filter_congr fun f _ => ?_
  show (!goneS (List.map low (listB F connB) ++ [low qB, low name]) f.1) = _
  rw [gone_more]
  unfold isN
  cases goneS (List.map low (listB F connB)) f.1 <;> cases same f.1.data.toList name.data.toList <;> cases same f.1.data.toList qB.data.toList <;> rfl

/-! ### the way that was taken -/
def digB (k : Nat) : ByteArray := ⟨(Lib.decDigits (k % 2)).toArray⟩
def wantK (A : List ByteArray) : Nat → ByteArray
  | 0 => ⟨#[]⟩
  | k + 1 => ((((if 0 < k then wantK A k ++ ⟨#[44, 32]⟩ else wantK A k) ++ ⟨#[49, 46]⟩) ++ digB k) ++ ⟨#[32]⟩) ++ A.getD k ⟨#[]⟩
def wayL (A : List ByteArray) (k : Nat) : List Fld := if 0 < k then [(viaN, wantK A k)] else []
theorem via_is (v : ByteArray) : isN viaN (viaN, v) = true := by unfold isN same; simp
theorem allB_one (v : ByteArray) : allB [(viaN, v)] viaN = [v] := by
  unfold allB
  rw [List.filter_cons_of_pos (via_is v)]; rfl
theorem getB_one (v : ByteArray) : getB [(viaN, v)] viaN = v := by
  unfold getB joinB
  rw [allB_one]
  show ofL (Lib.join [v.data.toList] [44, 32]) = v
  rw [Lib.join_one, ofL_of]
theorem setB_one (v u : ByteArray) : setB [(viaN, v)] viaN u = [(viaN, u)] := by
  unfold setB
  rw [setR, if_pos (via_is v), if_neg (by decide)]; rfl
theorem way_zero (A : List ByteArray) : wayL A 0 = [] := rfl
theorem way_pos (A : List ByteArray) (k : Nat) (h : 0 < k) : wayL A k = [(viaN, wantK A k)] := by unfold wayL; rw [if_pos h]
theorem want_next (A : List ByteArray) (k : Nat) (h : k < A.length) : wantK A (k + 1) = ((((if 0 < k then wantK A k ++ ⟨#[44, 32]⟩ else wantK A k) ++ ⟨#[49, 46]⟩) ++ digB k) ++ ⟨#[32]⟩) ++ A[k] := by
  have hg : A.getD k ⟨#[]⟩ = A[k] := by simp [List.getD, h]
  rw [wantK, hg]
theorem way_next (A : List ByteArray) (k : Nat) (h : k < A.length) : viaF (wayL A k) (digB k) A[k] = wayL A (k + 1) := by
  rw [way_pos A (k + 1) (by omega), want_next A k h]
  unfold viaF viaV
  rcases Nat.eq_zero_or_pos k with h0 | h0
  · subst h0
    rw [way_zero]
    rfl
  · rw [way_pos A k h0, setB_one, getB_one, allB_one]
    simp only [h0, if_true]
    rfl
theorem way_get (A : List ByteArray) (k : Nat) : getB (wayL A k) viaN = wantK A k := by
  unfold wayL
  rcases Nat.eq_zero_or_pos k with h0 | h0
  · subst h0; rfl
  · rw [if_pos h0, getB_one]
theorem digB_size (k : Nat) : (digB k).size = 1 := by
  unfold digB
  rcases Nat.mod_two_eq_zero_or_one k with h | h <;> rw [h] <;> decide +kernel
theorem app_size (a b : ByteArray) : (a ++ b).size = a.size + b.size := ByteArray.size_append ..
theorem want_size (A : List ByteArray) : ∀ k, k ≤ A.length → (wantK A k).size ≤ lensB (A.take k) + 6 * k
  | 0, _ => Nat.zero_le _
  | k + 1, h => by
    have ih := want_size A k (by omega)
    have hg : A.getD k ⟨#[]⟩ = A[k] := by simp [List.getD, show k < A.length by omega]
    rw [wantK, hg, lensB_take A k (by omega)]
    have e1 : (⟨#[44, 32]⟩ : ByteArray).size = 2 := rfl
    have e2 : (⟨#[49, 46]⟩ : ByteArray).size = 2 := rfl
    have e3 : (⟨#[32]⟩ : ByteArray).size = 1 := rfl
    have e4 := digB_size k
    split <;> (rw [app_size, app_size, app_size, app_size]; (try rw [app_size]); omega)
theorem lens_take_le (A : List ByteArray) (k : Nat) : lensB (A.take k) ≤ lensB A := by
  unfold lensB
  conv => rhs; rw [← List.take_append_drop k A, List.map_append, List.sum_append]
  omega
theorem lens_mem (A : List ByteArray) (k : Nat) (h : k < A.length) : A[k].size ≤ lensB A := by
  have := lens_take_le A (k + 1)
  rw [lensB_take A k h] at this
  omega
theorem way_few (A : List ByteArray) (k : Nat) (h : k ≤ A.length) (hl : A.length ≤ 8) (hb : lensB A ≤ 200) : Few (wayL A k) := by
  have h1 := want_size A k h
  have h2 := lens_take_le A k
  unfold wayL
  split
  · refine ⟨by simp, fun f hf => ?_⟩
    rw [List.mem_singleton] at hf
    subst hf
    exact ⟨by show viaN.size ≤ 2000; decide, by show (wantK A k).size ≤ 2000; omega⟩
  · exact ⟨by simp, fun f hf => by simp at hf⟩
theorem way_len (A : List ByteArray) (k : Nat) : (wayL A k).length = min 1 k := by
  unfold wayL
  split
  · simp; omega
  · simp; omega
end Go.Proofs.YtmmldoleillelaaDoor.Sp
