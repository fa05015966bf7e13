/- FieldNamed: the plain law. -/
import Derived.Test.YtfohhhdebinikaaGreatDoorN2
import Derived.Test.YtfohhhdebinikaaGreatDoorF12
namespace Go.Proofs.YtfohhhdebinikaaGreatDoor.Sp
open Go.RowKit Sl

theorem ba_ext {x y : ByteArray} (h : x.data.toList = y.data.toList) : x = y := (ba_eq h).trans (ba_eq rfl).symm
theorem hasB_mem (K : List ByteArray) (x : ByteArray) : hasB K x = true ↔ x ∈ K := by
  unfold hasB
  rw [List.any_eq_true]
  constructor
  · rintro ⟨y, hy, h⟩
    rw [← ba_ext (eq_of_beq h)]
    exact hy
  · intro h
    exact ⟨x, h, by simp⟩
theorem low_idem (x : ByteArray) : low (low x) = low x := by
  apply ba_ext
  show lower (lower x.data.toList) = lower x.data.toList
  exact lower_lower _
theorem addU_sub (K : List ByteArray) (f : Fld) {z : ByteArray} (h : z ∈ K) : z ∈ addU K f := by
  unfold addU
  split
  · exact h
  · exact List.mem_append_left _ h
theorem addU_has (K : List ByteArray) (f : Fld) : low f.1 ∈ addU K f := by
  unfold addU
  split
  · rename_i h
    exact (hasB_mem _ _).1 h
  · simp
theorem addU_nodup {K : List ByteArray} (f : Fld) (h : K.Nodup) : (addU K f).Nodup := by
  unfold addU
  split
  · exact h
  · rename_i hn
    rw [List.nodup_append]
    refine ⟨h, by simp, ?_⟩
    intro a ha b hb e
    rw [List.mem_singleton] at hb
    subst e
    rw [hb] at ha
    exact hn ((hasB_mem _ _).2 ha)
theorem foldl_sub : ∀ (L : List Fld) (K : List ByteArray) {z : ByteArray}, z ∈ K → z ∈ L.foldl addU K
  | [], _, _, h => h
  | f :: t, K, _, h => foldl_sub t (addU K f) (addU_sub K f h)
theorem foldl_has : ∀ (L : List Fld) (K : List ByteArray) {f : Fld}, f ∈ L → low f.1 ∈ L.foldl addU K
  | g :: t, K, f, h => by
    rw [List.foldl_cons]
    rcases List.mem_cons.1 h with rfl | h
    · exact foldl_sub t _ (addU_has K f)
    · exact foldl_has t _ h
theorem foldl_nodup : ∀ (L : List Fld) (K : List ByteArray), K.Nodup → (L.foldl addU K).Nodup
  | [], _, h => h
  | f :: t, _, h => foldl_nodup t _ (addU_nodup f h)
theorem foldl_from : ∀ (L : List Fld) (K : List ByteArray) {z : ByteArray}, z ∈ L.foldl addU K → z ∈ K ∨ ∃ f ∈ L, low f.1 = z
  | [], _, _, h => .inl h
  | f :: t, K, z, h => by
    rw [List.foldl_cons] at h
    rcases foldl_from t (addU K f) h with h | ⟨g, hg, e⟩
    · unfold addU at h
      split at h
      · exact .inl h
      · rcases List.mem_append.1 h with h | h
        · exact .inl h
        · rw [List.mem_singleton] at h
          exact .inr ⟨f, List.mem_cons_self, h.symm⟩
    · exact .inr ⟨g, List.mem_cons_of_mem _ hg, e⟩
theorem uniq_nodup (L : List Fld) : (uniq L).Nodup := foldl_nodup L [] List.nodup_nil
theorem uniq_from (L : List Fld) {z : ByteArray} (h : z ∈ uniq L) : ∃ f ∈ L, low f.1 = z := by
  rcases foldl_from L [] h with h | h
  · cases h
  · exact h
theorem uniq_low (L : List Fld) {z : ByteArray} (h : z ∈ uniq L) : low z = z := by
  obtain ⟨f, _, rfl⟩ := uniq_from L h
  exact low_idem _
theorem isN_low {z : ByteArray} (h : low z = z) (f : Fld) : isN z f = decide (low f.1 = z) := by
  unfold isN same
  have e : lower z.data.toList = z.data.toList := by
    have := congrArg (fun b : ByteArray => b.data.toList) h
    exact this
  rw [e]
  by_cases hx : low f.1 = z
  · rw [decide_eq_true hx, ← hx]
    show ((lower f.1.data.toList) == (lower f.1.data.toList)) = true
    simp
  · rw [decide_eq_false hx]
    rw [beq_eq_false_iff_ne]
    intro hc
    exact hx (ba_ext hc)
theorem allB_count (L : List Fld) (z : ByteArray) (h : low z = z) : (allB L z).length = L.countP (fun f => decide (low f.1 = z)) := by
  unfold allB
  rw [List.length_map, ← List.countP_eq_length_filter]
  congr 1
  funext f
  exact isN_low h f
theorem allB_some (L : List Fld) {z : ByteArray} (h : z ∈ uniq L) : (allB L z).length ≠ 0 := by
  obtain ⟨f, hf, e⟩ := uniq_from L h
  rw [allB_count L z (uniq_low L h)]
  have : 0 < L.countP (fun f => decide (low f.1 = z)) := List.countP_pos_iff.2 ⟨f, hf, by simp [e]⟩
  omega
def sumA (L : List Fld) (U : List ByteArray) : Nat := (U.map fun u => (allB L u).length).sum
theorem sumA_take (L : List Fld) (U : List ByteArray) (k : Nat) (h : k < U.length) : sumA L (U.take (k + 1)) = sumA L (U.take k) + (allB L U[k]).length := by
  unfold sumA
  rw [List.take_succ_eq_append_getElem h, List.map_append, List.sum_append]
  simp
theorem hasB_not {K : List ByteArray} {x : ByteArray} (h : ¬ x ∈ K) : hasB K x = false := by
  cases hh : hasB K x
  · rfl
  · exact absurd ((hasB_mem _ _).1 hh) h
theorem sum_count (L : List Fld) : ∀ U : List ByteArray, U.Nodup → (U.map fun u => L.countP (fun f => decide (low f.1 = u))).sum = L.countP (fun f => hasB U (low f.1))
  | [], _ => by
    have h : ∀ f ∈ L, ¬ (hasB [] (low f.1) = true) := fun f _ h => by cases h
    rw [List.countP_eq_zero.2 h]
    rfl
  | u :: U, h => by
    rw [List.map_cons, List.sum_cons, sum_count L U (List.nodup_cons.1 h).2]
    have hn := (List.nodup_cons.1 h).1
    clear h
    induction L with
    | nil => simp
    | cons f t ih =>
      simp only [List.countP_cons]
      by_cases h1 : low f.1 = u
      · have h2 : ¬ low f.1 ∈ U := fun hm => hn (by rw [← h1]; exact hm)
        have h3 : low f.1 ∈ u :: U := by rw [h1]; exact List.mem_cons_self
        rw [decide_eq_true h1, hasB_not h2, (hasB_mem _ _).2 h3]
        simp only [if_true, Bool.false_eq_true, if_false]
        omega
      · by_cases h2 : low f.1 ∈ U
        · have h3 : low f.1 ∈ u :: U := List.mem_cons_of_mem _ h2
          rw [decide_eq_false h1, (hasB_mem _ _).2 h2, (hasB_mem _ _).2 h3]
          simp only [if_true, Bool.false_eq_true, if_false]
          omega
        · have h3 : ¬ low f.1 ∈ u :: U := fun hm => by
            rcases List.mem_cons.1 hm with h | h
            · exact h1 h
            · exact h2 h
          rw [decide_eq_false h1, hasB_not h2, hasB_not h3]
          simp only [Bool.false_eq_true, if_false]
          omega
theorem sumA_uniq (L : List Fld) : sumA L (uniq L) = L.length := by
  have h1 : sumA L (uniq L) = ((uniq L).map fun u => L.countP (fun f => decide (low f.1 = u))).sum := by
    unfold sumA
    congr 1
    apply List.map_congr_left
    intro z hz
    exact allB_count L z (uniq_low L hz)
  rw [h1, sum_count L _ (uniq_nodup L)]
  rw [List.countP_eq_length]
  intro f hf
  exact (hasB_mem _ _).2 (foldl_has L [] hf)
theorem uniq_ne (L : List Fld) {i k : Nat} (hi : i < (uniq L).length) (hk : k < i) : (((uniq L)[k]'(by omega)).toList == (uniq L)[i].toList) = false := by
  rw [beq_eq_false_iff_ne]
  intro e
  rw [Lib.toList_data, Lib.toList_data] at e
  have := (List.getElem_inj (uniq_nodup L)).1 (ba_ext e)
  omega
theorem uniq_size (L : List Fld) (c : Nat) (hc : ∀ f ∈ L, f.1.size ≤ c) {z : ByteArray} (h : z ∈ uniq L) : z.size ≤ c := by
  obtain ⟨f, hf, rfl⟩ := uniq_from L h
  have : (low f.1).size = f.1.size := lower_size _
  rw [this]
  exact hc f hf
end Go.Proofs.YtfohhhdebinikaaGreatDoor.Sp
