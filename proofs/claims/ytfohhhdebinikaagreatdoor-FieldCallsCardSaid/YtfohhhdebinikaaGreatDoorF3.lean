/- Plain: what is set, what is removed. -/
import Derived.Test.YtfohhhdebinikaaGreatDoorE5
import Derived.Test.YtfohhhdebinikaaGreatDoorC16
import Derived.Test.YtfohhhdebinikaaGreatDoorE26
namespace Go.Proofs.YtfohhhdebinikaaGreatDoor.Sp
open Go.RowKit Sl

theorem isN_iff {name : ByteArray} {f : Fld} : isN name f = true ↔ lower f.1.data.toList = lower name.data.toList := by
  unfold isN same; exact beq_iff_eq
/-! ### Set -/
theorem outR_mem {name value : ByteArray} : ∀ {L : List Fld} {there : Bool} {f : Fld}, f ∈ outR name value there L → f ∈ L ∨ isN name f = true
  | [], _, f, h => by simp [outR] at h
  | g :: t, there, f, h => by
    rw [outR, List.mem_append] at h
    rcases h with h | h
    · unfold stepR at h
      split at h
      · rename_i hg
        split at h
        · cases h
        · rw [List.mem_singleton] at h
          subst h
          exact .inr hg
      · rw [List.mem_singleton] at h
        subst h
        exact .inl List.mem_cons_self
    · rcases outR_mem h with h | h
      · exact .inl (List.mem_cons_of_mem _ h)
      · exact .inr h
theorem isN_self (name value : ByteArray) : isN name (name, value) = true := by unfold isN same; simp
theorem setB_mem {L : List Fld} {name value : ByteArray} {f : Fld} (h : f ∈ setB L name value) : f ∈ L ∨ isN name f = true := by
  unfold setB at h
  rw [setR_out, List.mem_append] at h
  rcases h with h | h
  · exact outR_mem h
  · split at h
    · cases h
    · rw [List.mem_singleton] at h
      subst h
      exact .inr (isN_self _ _)
theorem outR_other (name value : ByteArray) (p : Fld → Bool) (hp : ∀ f, isN name f = true → p f = false) : ∀ (L : List Fld) (there : Bool), (outR name value there L).filter p = L.filter p
  | [], _ => rfl
  | g :: t, there => by
    rw [outR, List.filter_append, outR_other name value p hp t]
    unfold stepR
    cases hg : isN name g
    · rw [if_neg (by decide), List.filter_cons, List.filter_cons]
      split <;> rfl
    · rw [if_pos rfl, List.filter_cons_of_neg (by rw [hp g hg]; decide)]
      split
      · rfl
      · rw [List.filter_cons_of_neg (by rw [hp (g.1, value) (by unfold isN at hg ⊢; exact hg)]; decide)]; rfl
theorem set_other (L : List Fld) (name value : ByteArray) (p : Fld → Bool) (hp : ∀ f, isN name f = true → p f = false) : (setB L name value).filter p = L.filter p := by
  unfold setB
  rw [setR_out, List.filter_append, outR_other name value p hp]
  split
  · simp
  · rw [List.filter_cons_of_neg (by rw [hp _ (isN_self _ _)]; decide)]; simp
theorem outR_true (name value : ByteArray) : ∀ L : List Fld, (outR name value true L).filter (isN name) = []
  | [] => rfl
  | g :: t => by
    rw [outR, List.filter_append, Bool.true_or, outR_true name value t, List.append_nil]
    unfold stepR
    cases hg : isN name g
    · rw [if_neg (by decide), List.filter_cons_of_neg (by rw [hg]; decide)]; rfl
    · rw [if_pos rfl, if_pos rfl]; rfl
theorem outR_false (name value : ByteArray) : ∀ L : List Fld, ((outR name value false L).filter (isN name)).map (·.2) = if L.any (isN name) = true then [value] else []
  | [] => rfl
  | g :: t => by
    rw [outR, List.filter_append, Bool.false_or]
    cases hg : isN name g
    · rw [List.map_append, outR_false name value t, List.any_cons, hg, Bool.false_or]
      unfold stepR
      rw [hg, if_neg (by decide), List.filter_cons_of_neg (by rw [hg]; decide)]
      rfl
    · rw [outR_true, List.append_nil, List.any_cons, hg, Bool.true_or, if_pos rfl]
      unfold stepR
      rw [hg, if_pos rfl, if_neg (by decide), List.filter_cons_of_pos (by unfold isN at hg ⊢; exact hg)]
      rfl
theorem allB_set (L : List Fld) (name value : ByteArray) : allB (setB L name value) name = [value] := by
  unfold allB setB
  rw [setR_out, List.filter_append, List.map_append, outR_false, Bool.false_or]
  split
  · simp
  · rw [List.filter_cons_of_pos (isN_self _ _)]; rfl
theorem getB_set (L : List Fld) (name value : ByteArray) : getB (setB L name value) name = value := by
  unfold getB joinB
  rw [allB_set]
  show ofL (Lib.join [value.data.toList] [44, 32]) = value
  rw [Lib.join_one, ofL_of]
theorem isN_apart {n m : ByteArray} (h : lower n.data.toList ≠ lower m.data.toList) (f : Fld) (hf : isN n f = true) : isN m f = false := by
  rw [isN_iff] at hf
  rw [← Bool.not_eq_true, isN_iff, hf]
  exact h
theorem allB_set_other (L : List Fld) (name value m : ByteArray) (h : lower name.data.toList ≠ lower m.data.toList) : allB (setB L name value) m = allB L m := by
  unfold allB
  rw [set_other L name value (isN m) (isN_apart h)]
theorem delF_set (L : List Fld) (name value : ByteArray) : delF (setB L name value) name = delF L name := by
  unfold delF
  exact set_other L name value _ (fun f hf => by rw [hf]; rfl)

/-! ### what goes on -/
theorem del_none {L : List Fld} {name : ByteArray} (h : ∀ f ∈ L, isN name f = false) : delF L name = L := by
  unfold delF
  rw [List.filter_eq_self]
  intro f hf
  rw [h f hf]; rfl
theorem del_not {L : List Fld} {name : ByteArray} {f : Fld} (h : f ∈ delF L name) : isN name f = false := by
  have := (List.mem_filter.1 h).2
  simpa using this

theorem allB_del (L : List Fld) (name : ByteArray) : allB (delF L name) name = [] := by
  unfold allB delF
  rw [List.filter_filter, List.filter_eq_nil_iff.2 (fun f _ => by cases h : isN name f <;> simp)]
  rfl
theorem allB_del_other (L : List Fld) (name m : ByteArray) (h : lower name.data.toList ≠ lower m.data.toList) : allB (delF L name) m = allB L m := by
  unfold allB delF
  rw [List.filter_filter]
  congr 1
  refine List.filter_congr (fun f _ => ?_)
  cases hm : isN m f
  · rfl
  · cases hn : isN name f
    · rfl
    · have := isN_apart h f hn
      rw [this] at hm; cases hm
theorem outR_one (name value : ByteArray) : ∀ L : List Fld, (outR name value true L).length = (delF L name).length
  | [] => rfl
  | g :: t => by
    rw [outR, List.length_append, Bool.true_or, outR_one name value t]
    unfold delF stepR
    cases hg : isN name g
    · rw [if_neg (by decide), List.filter_cons_of_pos (by rw [hg]; rfl)]; simp; omega
    · rw [if_pos rfl, if_pos rfl, List.filter_cons_of_neg (by rw [hg]; decide)]; simp
theorem outR_two (name value : ByteArray) : ∀ L : List Fld, (outR name value false L).length = (delF L name).length + if L.any (isN name) = true then 1 else 0
  | [] => rfl
  | g :: t => by
    rw [outR, List.length_append, Bool.false_or]
    cases hg : isN name g
    · rw [outR_two name value t, List.any_cons, hg, Bool.false_or]
      unfold delF stepR
      rw [hg, if_neg (by decide), List.filter_cons_of_pos (by rw [hg]; rfl)]
      simp; omega
    · rw [outR_one, List.any_cons, hg, Bool.true_or, if_pos rfl]
      unfold delF stepR
      rw [hg, if_pos rfl, if_neg (by decide), List.filter_cons_of_neg (by rw [hg]; decide)]
      simp; omega
theorem set_del_len (L : List Fld) (name value : ByteArray) : (setB L name value).length = (delF L name).length + 1 := by
  unfold setB
  rw [setR_out, List.length_append, outR_two, Bool.false_or]
  split <;> simp
theorem set_none (L : List Fld) (name value : ByteArray) (h : ∀ f ∈ L, isN name f = false) : setB L name value = L ++ [(name, value)] := by
  unfold setB
  induction L with
  | nil => rfl
  | cons f t ih =>
    rw [setR, if_neg (by rw [h f List.mem_cons_self]; decide), ih (fun g hg => h g (List.mem_cons_of_mem _ hg))]
    rfl
theorem outR_small {name value : ByteArray} : ∀ {L : List Fld} {there : Bool} {f : Fld}, f ∈ outR name value there L → f ∈ L ∨ (f.2 = value ∧ ∃ g ∈ L, g.1 = f.1)
  | [], _, f, h => by simp [outR] at h
  | g :: t, there, f, h => by
    rw [outR, List.mem_append] at h
    rcases h with h | h
    · unfold stepR at h
      split at h
      · split at h
        · cases h
        · rw [List.mem_singleton] at h
          subst h
          exact .inr ⟨rfl, g, List.mem_cons_self, rfl⟩
      · rw [List.mem_singleton] at h
        subst h
        exact .inl List.mem_cons_self
    · rcases outR_small h with h | ⟨h, x, hx, e⟩
      · exact .inl (List.mem_cons_of_mem _ h)
      · exact .inr ⟨h, x, List.mem_cons_of_mem _ hx, e⟩
theorem set_len (L : List Fld) (name value : ByteArray) : (setB L name value).length ≤ L.length + 1 := by
  unfold setB
  rw [setR_out, List.length_append]
  have := outR_len name value L false
  split <;> simp <;> omega
theorem set_few {L : List Fld} {name value : ByteArray} (h : L.length ≤ 99 ∧ ∀ f ∈ L, f.1.size ≤ 2000 ∧ f.2.size ≤ 2000) (hn : name.size ≤ 2000) (hv : value.size ≤ 2000) : Few (setB L name value) := by
  refine ⟨by have := set_len L name value; omega, fun f hf => ?_⟩
  unfold setB at hf
  rw [setR_out, List.mem_append] at hf
  rcases hf with hf | hf
  · rcases outR_small hf with hf | ⟨e, g, hg, e2⟩
    · exact h.2 f hf
    · rw [e, ← e2]
      exact ⟨(h.2 g hg).1, hv⟩
  · split at hf
    · cases hf
    · rw [List.mem_singleton] at hf
      subst hf
      exact ⟨hn, hv⟩
theorem del_few {L : List Fld} {name : ByteArray} (h : Few L) : Few (delF L name) := ⟨Nat.le_trans (List.length_filter_le _ _) h.1, fun f hf => h.2 f (List.mem_filter.1 hf).1⟩
theorem sameLS_self (A : List ByteArray) : sameLS A A = true := by simp [sameLS]
theorem sameLF_self (A : List Fld) : sameLF A A = true := by simp [sameLF]
theorem sameFs_self (L : List Fld) : sameFs L L = true := by
  unfold sameFs
  rw [decide_eq_true rfl, Bool.true_and, List.all_eq_true]
  intro p hp
  have : p.1 = p.2 := by
    induction L with
    | nil => simp at hp
    | cons f t ih =>
      simp only [List.zip_cons_cons, List.mem_cons] at hp
      rcases hp with rfl | hp
      · rfl
      · exact ih hp
  obtain ⟨a, b⟩ := p
  obtain rfl : a = b := this
  unfold samePF same
  simp
end Go.Proofs.YtfohhhdebinikaaGreatDoor.Sp
