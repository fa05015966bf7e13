/- Plain: what HopOnce says. -/
import Derived.Test.YtmmldoleillelaaDoorE12
import Derived.Test.YtmmldoleillelaaDoorE1
namespace Go.Proofs.YtmmldoleillelaaDoor.Sp
open Go.RowKit Sl

/-! ### Set -/
theorem outR_mem {name value : ByteArray} : ∀ {L : List Fld} {there : Bool} {f : Fld}, f ∈ outR name value there L → f ∈ L ∨ isN name f = true
  | [], _, f, h => by simp [outR] at h
  | g :: t, there, f, h => by
    rw [outR, List.mem_append] at h
    rcases h with h | h
    · unfold stepR at h
      split at h
      · rename_i hg
        split at h
        · cases h
        · rw [List.mem_singleton] at h
          subst h
          exact .inr hg
      · rw [List.mem_singleton] at h
        subst h
        exact .inl List.mem_cons_self
    · rcases outR_mem h with h | h
      · exact .inl (List.mem_cons_of_mem _ h)
      · exact .inr h
theorem isN_self (name value : ByteArray) : isN name (name, value) = true := by unfold isN same; simp
theorem setB_mem {L : List Fld} {name value : ByteArray} {f : Fld} (h : f ∈ setB L name value) : f ∈ L ∨ isN name f = true := by
  unfold setB at h
  rw [setR_out, List.mem_append] at h
  rcases h with h | h
  · exact outR_mem h
  · split at h
    · cases h
    · rw [List.mem_singleton] at h
      subst h
      exact .inr (isN_self _ _)
theorem outR_other (name value : ByteArray) (p : Fld → Bool) (hp : ∀ f, isN name f = true → p f = false) : ∀ (L : List Fld) (there : Bool), (outR name value there L).filter p = L.filter p
  | [], _ => rfl
  | g :: t, there => by
    rw [outR, List.filter_append, outR_other name value p hp t]
    unfold stepR
    cases hg : isN name g
    · rw [if_neg (by decide), List.filter_cons, List.filter_cons]
      split <;> rfl
    · rw [if_pos rfl, List.filter_cons_of_neg (by rw [hp g hg]; decide)]
      split
      · rfl
      · rw [List.filter_cons_of_neg (by rw [hp (g.1, value) (by unfold isN at hg ⊢; exact hg)]; decide)]; rfl
theorem set_other (L : List Fld) (name value : ByteArray) (p : Fld → Bool) (hp : ∀ f, isN name f = true → p f = false) : (setB L name value).filter p = L.filter p := by
  unfold setB
  rw [setR_out, List.filter_append, outR_other name value p hp]
  split
  · simp
  · rw [List.filter_cons_of_neg (by rw [hp _ (isN_self _ _)]; decide)]; simp
theorem outR_true (name value : ByteArray) : ∀ L : List Fld, (outR name value true L).filter (isN name) = []
  | [] => rfl
  | g :: t => by
    rw [outR, List.filter_append, Bool.true_or, outR_true name value t, List.append_nil]
    unfold stepR
    cases hg : isN name g
    · rw [if_neg (by decide), List.filter_cons_of_neg (by rw [hg]; decide)]; rfl
    · rw [if_pos rfl, if_pos rfl]; rfl
theorem outR_false (name value : ByteArray) : ∀ L : List Fld, ((outR name value false L).filter (isN name)).map (·.2) = if L.any (isN name) = true then [value] else []
  | [] => rfl
  | g :: t => by
    rw [outR, List.filter_append, Bool.false_or]
    cases hg : isN name g
    · rw [List.map_append, outR_false name value t, List.any_cons, hg, Bool.false_or]
      unfold stepR
      rw [hg, if_neg (by decide), List.filter_cons_of_neg (by rw [hg]; decide)]
      rfl
    · rw [outR_true, List.append_nil, List.any_cons, hg, Bool.true_or, if_pos rfl]
      unfold stepR
      rw [hg, if_pos rfl, if_neg (by decide), List.filter_cons_of_pos (by unfold isN at hg ⊢; exact hg)]
      rfl
theorem allB_set (L : List Fld) (name value : ByteArray) : allB (setB L name value) name = [value] := by
  unfold allB setB
  rw [setR_out, List.filter_append, List.map_append, outR_false, Bool.false_or]
  split
  · simp
  · rw [List.filter_cons_of_pos (isN_self _ _)]; rfl
theorem getB_set (L : List Fld) (name value : ByteArray) : getB (setB L name value) name = value := by
  unfold getB joinB
  rw [allB_set]
  show ofL (Lib.join [value.data.toList] [44, 32]) = value
  rw [Lib.join_one, ofL_of]
theorem isN_apart {n m : ByteArray} (h : lower n.data.toList ≠ lower m.data.toList) (f : Fld) (hf : isN n f = true) : isN m f = false := by
  rw [isN_iff] at hf
  rw [← Bool.not_eq_true, isN_iff, hf]
  exact h
theorem allB_set_other (L : List Fld) (name value m : ByteArray) (h : lower name.data.toList ≠ lower m.data.toList) : allB (setB L name value) m = allB L m := by
  unfold allB
  rw [set_other L name value (isN m) (isN_apart h)]
theorem delF_set (L : List Fld) (name value : ByteArray) : delF (setB L name value) name = delF L name := by
  unfold delF
  exact set_other L name value _ (fun f hf => by rw [hf]; rfl)

/-! ### what goes on -/
theorem del_none {L : List Fld} {name : ByteArray} (h : ∀ f ∈ L, isN name f = false) : delF L name = L := by
  unfold delF
  rw [List.filter_eq_self]
  intro f hf
  rw [h f hf]; rfl
theorem del_not {L : List Fld} {name : ByteArray} {f : Fld} (h : f ∈ delF L name) : isN name f = false := by
  have := (List.mem_filter.1 h).2
  simpa using this
theorem strip_gone {L : List Fld} {f : Fld} (h : f ∈ stripF L) : goneS ((listB L connB).map low) f.1 = false := by
  have := (List.mem_filter.1 h).2
  simpa using this
/-- what a field that goes on is -/
theorem pre_mem {me : ByteArray} {F : List Fld} {f : Fld} (h : f ∈ preF me F) : (f ∈ delF (stripF F) clB ∧ (me.toList.isEmpty = false → isN exB f = false)) ∨ (me.toList.isEmpty = false ∧ f = (hoB, ⟨#[]⟩)) := by
  unfold preF at h
  split at h
  · rename_i hm
    exact .inl ⟨h, fun e => by rw [e] at hm; cases hm⟩
  · rename_i hm
    have hm' : me.toList.isEmpty = false := by simpa using hm
    unfold hostF at h
    split at h
    · rcases List.mem_append.1 h with h | h
      · exact .inl ⟨del_mem h, fun _ => del_not h⟩
      · rw [List.mem_singleton] at h
        exact .inr ⟨hm', h⟩
    · exact .inl ⟨del_mem h, fun _ => del_not h⟩
theorem fwd_mem {me : ByteArray} {F : List Fld} {minor : Int} {name : ByteArray} {f : Fld} (h : f ∈ fwdF me F minor name) : f ∈ preF me F ∨ isN viaN f = true := setB_mem h
theorem via_low : lower viaN.data.toList = [118, 105, 97] := by decide +kernel
theorem hop_lower {x y : ByteArray} (h : lower x.data.toList = lower y.data.toList) : hopS x = hopS y := by unfold hopS; rw [h]
theorem hop_via : hopS viaN = false := by decide +kernel
theorem hop_host : hopS hoB = false := by decide +kernel
theorem fwd_hop {me : ByteArray} {F : List Fld} {minor : Int} {name : ByteArray} {f : Fld} (h : f ∈ fwdF me F minor name) : hopS f.1 = false := by
  rcases fwd_mem h with h | h
  · rcases pre_mem h with ⟨h, _⟩ | ⟨_, rfl⟩
    · have := strip_gone (del_mem h)
      unfold goneS at this
      rw [Bool.or_eq_false_iff] at this
      exact this.2
    · exact hop_host
  · rw [hop_lower (isN_iff.1 h)]; exact hop_via
/-- a field that Connection named is there only if it is the proxy's own -/
theorem fwd_own {me : ByteArray} {F : List Fld} {minor : Int} {name x : ByteArray} (hx : x ∈ listB F connB) (h : (allB (fwdF me F minor name) x).isEmpty = false) :
    (same x.data.toList viaN.data.toList || (!me.toList.isEmpty && same x.data.toList hoB.data.toList)) = true := by
  have hne : allB (fwdF me F minor name) x ≠ [] := by intro e; rw [e] at h; cases h
  unfold allB at hne
  have hne2 : (fwdF me F minor name).filter (isN x) ≠ [] := by intro e; rw [e] at hne; exact hne rfl
  obtain ⟨f, hf⟩ := List.exists_mem_of_ne_nil _ hne2
  obtain ⟨hf1, hf2⟩ := List.mem_filter.1 hf
  have hlow := isN_iff.1 hf2
  rcases fwd_mem hf1 with hp | hv
  · rcases pre_mem hp with ⟨hp, _⟩ | ⟨hm, rfl⟩
    · have := strip_gone (del_mem hp)
      have hyes : goneS ((listB F connB).map low) f.1 = true := by
        unfold goneS
        rw [Bool.or_eq_true]
        refine .inl ?_
        rw [List.any_eq_true]
        refine ⟨low x, List.mem_map.2 ⟨x, hx, rfl⟩, ?_⟩
        rw [beq_iff_eq, hlow]; rfl
      rw [hyes] at this
      cases this
    · rw [Bool.or_eq_true, Bool.and_eq_true]
      refine .inr ⟨by rw [hm]; rfl, ?_⟩
      unfold same
      rw [beq_iff_eq]; exact hlow.symm
  · rw [Bool.or_eq_true]
    refine .inl ?_
    unfold same
    rw [beq_iff_eq, ← hlow]
    exact isN_iff.1 hv

theorem low_ne {a b : ByteArray} (h : (lower a.data.toList == lower b.data.toList) = false) : lower a.data.toList ≠ lower b.data.toList := by
  intro e; rw [e] at h; simp at h
theorem fwd_strip (me : ByteArray) (F : List Fld) (minor : Int) (name : ByteArray) : stripF (fwdF me F minor name) = fwdF me F minor name := by
  have hno : listB (fwdF me F minor name) connB = [] := by
    have : allB (fwdF me F minor name) connB = [] := by
      unfold allB
      rw [List.map_eq_nil_iff, List.filter_eq_nil_iff]
      intro f hf hc
      have h1 := fwd_hop hf
      rw [hop_lower (isN_iff.1 hc), conn_hop] at h1
      cases h1
    unfold listB
    rw [this]; rfl
  unfold stripF
  rw [hno, List.filter_eq_self]
  intro f hf
  unfold goneS
  rw [fwd_hop hf]; rfl
theorem fwd_again (me : ByteArray) (F : List Fld) (minor : Int) (name : ByteArray) : preF me (fwdF me F minor name) = fwdF me F minor name := by
  have hcl : delF (fwdF me F minor name) clB = fwdF me F minor name := del_none fun f hf => by
    rcases fwd_mem hf with h | h
    · rcases pre_mem h with ⟨h, _⟩ | ⟨_, rfl⟩
      · exact del_not h
      · decide +kernel
    · exact isN_apart (low_ne (by decide +kernel)) f h
  unfold preF
  rw [fwd_strip, hcl]
  split
  · rfl
  · rename_i hm
    have hm' : me.toList.isEmpty = false := by simpa using hm
    have hex : delF (fwdF me F minor name) exB = fwdF me F minor name := del_none fun f hf => by
      rcases fwd_mem hf with h | h
      · rcases pre_mem h with ⟨_, h⟩ | ⟨_, rfl⟩
        · exact h hm'
        · decide +kernel
      · exact isN_apart (low_ne (by decide +kernel)) f h
    rw [hex]
    have hho : (allB (fwdF me F minor name) hoB).isEmpty = false := by
      have e : allB (fwdF me F minor name) hoB = allB (preF me F) hoB := allB_set_other _ _ _ _ (low_ne (by decide +kernel))
      rw [e]
      unfold preF
      rw [if_neg hm]
      unfold hostF
      split
      · rw [allB_app]
        have : allB [(hoB, (⟨#[]⟩ : ByteArray))] hoB = [⟨#[]⟩] := by
          unfold allB
          rw [List.filter_cons_of_pos (isN_self _ _)]; rfl
        rw [this]
        cases allB (delF (delF (stripF F) clB) exB) hoB <;> rfl
      · rename_i h
        simpa using h
    unfold hostF
    rw [if_neg (by rw [hho]; decide)]
theorem fwd_del (me : ByteArray) (F : List Fld) (minor k : Int) (p q : ByteArray) : delF (fwdF me F minor p) viaN = delF (fwdF me (fwdF me F minor p) k q) viaN := by
  have e : fwdF me (fwdF me F minor p) k q = setB (fwdF me F minor p) viaN (viaV (fwdF me F minor p) (itoaB k) q) := by
    unfold fwdF viaF
    rw [show preF me (setB (preF me F) viaN (viaV (preF me F) (itoaB minor) p)) = setB (preF me F) viaN (viaV (preF me F) (itoaB minor) p) from fwd_again me F minor p]
  rw [e, delF_set]
def oneSp : ByteArray := ⟨#[44, 32, 49, 46, 49, 32]⟩
theorem fwd_via (me : ByteArray) (F : List Fld) (minor : Int) (p q : ByteArray) : getB (fwdF me (fwdF me F minor p) 1 q) viaN = getB (fwdF me F minor p) viaN ++ oneSp ++ q := by
  have e : fwdF me (fwdF me F minor p) 1 q = setB (fwdF me F minor p) viaN (viaV (fwdF me F minor p) (itoaB 1) q) := by
    unfold fwdF viaF
    rw [show preF me (setB (preF me F) viaN (viaV (preF me F) (itoaB minor) p)) = setB (preF me F) viaN (viaV (preF me F) (itoaB minor) p) from fwd_again me F minor p]
  rw [e, getB_set]
  unfold viaV
  have h1 : (allB (fwdF me F minor p) viaN).isEmpty = false := by
    unfold fwdF viaF
    rw [allB_set]; rfl
  rw [if_neg (by rw [h1]; decide)]
  obtain ⟨g, hg⟩ : ∃ g, getB (fwdF me F minor p) viaN = g := ⟨_, rfl⟩
  rw [hg]
  have h2 : ((((g ++ (⟨#[44, 32]⟩ : ByteArray)) ++ (⟨#[49, 46]⟩ : ByteArray)) ++ itoaB 1) ++ (⟨#[32]⟩ : ByteArray) ++ q).data.toList = (g ++ oneSp ++ q).data.toList := by
    have hi : (itoaB 1).data.toList = [49] := by decide +kernel
    simp only [app_data, hi]
    simp [oneSp]
  rw [← ofL_of (g ++ oneSp ++ q), ← h2, ofL_of]
end Go.Proofs.YtmmldoleillelaaDoor.Sp
