/- Lemmas for the statement's proof, several texts in one: D2, D4, E5, F3, C21. -/
import Derived.Test.YtbpopmbabckojaaGreatDoorZ23
import Derived.Test.YtbpopmbabckojaaGreatDoorZ34
import Derived.Test.YtbpopmbabckojaaGreatDoorZ17
import Derived.ProofKit
import Derived.OpenShut
import Derived.Deep.SlicePairs
import Derived.SizedLaws
import Derived.Lib.SmallJoins
set_option linter.unusedVariables false
set_option linter.unusedSimpArgs false
/- The reference's Join and Get. -/
section
namespace Go.Proofs.YtbpopmbabckojaaGreatDoor.Sp
open Go.RowKit Sl

theorem ofL_app (a b : List UInt8) : ofL (a ++ b) = ofL a ++ ofL b := by
  have h : (ofL a ++ ofL b).data.toList = a ++ b := app_data (ofL a) (ofL b)
  exact (ba_eq h).symm
theorem join_snoc (A : List ByteArray) (x : ByteArray) (h : A ≠ []) : joinB (A ++ [x]) = joinB A ++ ⟨#[44, 32]⟩ ++ x := by
  cases A with
  | nil => exact absurd rfl h
  | cons y t =>
    unfold joinB
    have e : Lib.join ((y :: t ++ [x]).map (·.data.toList)) [44, 32] = Lib.join ((y :: t).map (·.data.toList)) [44, 32] ++ ([44, 32] ++ x.data.toList) := by
      rw [List.cons_append, List.map_cons, List.map_cons, Lib.join_cons, Lib.join_cons, List.append_assoc]
      congr 1
      unfold Lib.joinTail
      simp
    rw [e, ofL_app, ofL_app, ByteArray.append_assoc]
    rfl
theorem take_ne_nil (A : List ByteArray) (k : Nat) (h : k ≤ A.length) (hk : 0 < k) : A.take k ≠ [] := by
  intro e
  have h1 : (A.take k).length = k := by rw [List.length_take]; omega
  rw [e] at h1
  simp at h1
  omega
theorem joinB_take (A : List ByteArray) (k : Nat) (h : k < A.length) : joinB (A.take (k + 1)) = (if 0 < k then joinB (A.take k) ++ ⟨#[44, 32]⟩ else joinB (A.take k)) ++ A[k] := by
  rw [List.take_succ_eq_append_getElem h]
  by_cases hk : 0 < k
  · rw [if_pos hk, join_snoc _ _ (take_ne_nil A k (by omega) hk)]
  · have h0 : k = 0 := by omega
    subst h0
    rw [if_neg (by omega), List.take_zero, List.nil_append]
    show ofL (Lib.join [A[0].data.toList] [44, 32]) = ofL (Lib.join [] [44, 32]) ++ A[0]
    rw [Lib.join_one, Lib.join_nil, ofL_of]
    have h : (ofL [] ++ A[0]).data.toList = A[0].data.toList := by rw [app_data]; rfl
    rw [ba_eq h]
theorem joinB_size (A : List ByteArray) (hl : A.length ≤ 100) (h : ∀ x ∈ A, x.size ≤ 2000) : (joinB A).size ≤ 300000 := by
  unfold joinB
  rw [show (ofL (Lib.join (A.map (·.data.toList)) [44, 32])).size = (Lib.join (A.map (·.data.toList)) [44, 32]).length from size_list rfl]
  exact join_size A hl h

end Go.Proofs.YtbpopmbabckojaaGreatDoor.Sp
end

/- kit.LightTexts. -/
section
namespace Go.Proofs.YtbpopmbabckojaaGreatDoor.Sp
open Go.RowKit Sl



def lensB (A : List ByteArray) : Nat := (A.map ByteArray.size).sum
theorem lensB_take (A : List ByteArray) (k : Nat) (h : k < A.length) : lensB (A.take (k + 1)) = lensB (A.take k) + A[k].size := by
  unfold lensB
  rw [List.take_succ_eq_append_getElem h, List.map_append, List.sum_append]; simp

end Go.Proofs.YtbpopmbabckojaaGreatDoor.Sp
end

/- The reference's Set; ref07's Hop and Strip. -/
section
namespace Go.Proofs.YtbpopmbabckojaaGreatDoor.Sp
open Go.RowKit Sl

theorem Own.put {w0 w : World} {base : Nat} {e : TypeId} {sz : Nat} {v : Value} {n : Nat} {xs : List Value} (h : Own w0 w base e sz v n xs) (p : Addr) (u : Value) (hp : base ≤ p.block) (hne : ∀ k, v.ownBlock = some k → k ≠ p.block) : Own w0 (w.setCell p u) base e sz v n xs :=
  ⟨h.own.kept (row := some p.block) ⟨rfl, rfl, rfl, by simp [World.setCell], fun k _ hr => Below.heap_setCell _ _ _ _ (by intro e; exact hr (by rw [e]))⟩ (by
    cases hv : v.ownBlock with
    | none => exact .inl rfl
    | some g => exact .inr (by intro e; cases e; exact hne _ hv rfl)), h.bel.setCell hp u, by simpa [World.setCell] using h.le⟩

section
variable {P : Program} {ops : Array Oper} {rest : List Oper} {o : Oper} {a : Act} {w : World} {Q : Exit → Act → World → Prop}
theorem wpList_pushFat {wr w0 : World} (hgd : o.guard = none) (s x : Operand) (ho : o.op = .call { callee := .builtin .append, args := #[s, x], argTypes := #[22, 22] })
    (base : Nat) (v : Value) (n : Nat) (xs : List Value) (hs : a.eval s = v) (hown : Own w0 wr base 55 2 v n xs) (p q : ByteArray) (hw : w = wr.alloc (.cells #[.string p, .string q] 55))
    (g : Nat) (hg : wr.heap.size = g) (c : Nat) (hx : a.eval x = .slice (some ⟨g, 0, none⟩) 1 c) (hn : n ≤ 1000000)
    (h : ∀ v' w1, Own w0 w1 base 55 2 v' (n + 1) (xs ++ [.string p, .string q]) → wpList Tryz.prog ops Q rest (a.put o.dst v') w1) : wpList Tryz.prog ops Q (o :: rest) a w := by
  subst hg
  exact wpList_pushF hgd s x ho base v n xs hs hown p q hw c hx hn h
end



def stepR (name value : ByteArray) (there : Bool) (f : Fld) : List Fld := if isN name f = true then (if there = true then [] else [(f.1, value)]) else [f]
def outR (name value : ByteArray) : Bool → List Fld → List Fld
  | _, [] => []
  | there, f :: t => stepR name value there f ++ outR name value (there || isN name f) t
theorem setR_out (name value : ByteArray) : ∀ (L : List Fld) (there : Bool), setR name value there L = outR name value there L ++ (if (there || L.any (isN name)) = true then [] else [(name, value)])
  | [], true => rfl
  | [], false => rfl
  | f :: t, there => by
    have ih := setR_out name value t
    cases hf : isN name f
    · rw [List.any_cons, hf, Bool.false_or]
      simp [setR, outR, stepR, hf, ih there]
    · cases there <;> simp [setR, outR, stepR, hf, ih true]
theorem outR_app (name value : ByteArray) : ∀ (A B : List Fld) (there : Bool), outR name value there (A ++ B) = outR name value there A ++ outR name value (there || A.any (isN name)) B
  | [], B, there => by simp [outR]
  | f :: t, B, there => by
    rw [List.cons_append, outR, outR, outR_app name value t B, List.append_assoc]
    simp [Bool.or_assoc]
theorem outR_take (name value : ByteArray) (L : List Fld) (k : Nat) (h : k < L.length) : outR name value false (L.take (k + 1)) = outR name value false (L.take k) ++ stepR name value ((L.take k).any (isN name)) L[k] := by
  rw [List.take_succ_eq_append_getElem h, outR_app]
  simp [outR]
theorem anyF_take (L : List Fld) (p : Fld → Bool) (k : Nat) (h : k < L.length) : (L.take (k + 1)).any p = ((L.take k).any p || p L[k]) := by
  rw [List.take_succ_eq_append_getElem h, List.any_append]; simp
theorem outR_len (name value : ByteArray) : ∀ (L : List Fld) (there : Bool), (outR name value there L).length ≤ L.length
  | [], _ => Nat.le_refl _
  | f :: t, there => by
    rw [outR, List.length_append]
    have := outR_len name value t (there || isN name f)
    have h2 : (stepR name value there f).length ≤ 1 := by unfold stepR; repeat' split
                                                          all_goals simp
    simp; omega

end Go.Proofs.YtbpopmbabckojaaGreatDoor.Sp
end

/- Plain: what is set, what is removed. -/
section
namespace Go.Proofs.YtbpopmbabckojaaGreatDoor.Sp
open Go.RowKit Sl

theorem isN_iff {name : ByteArray} {f : Fld} : isN name f = true ↔ lower f.1.data.toList = lower name.data.toList := by
  unfold isN same; exact beq_iff_eq
/-! ### Set -/
theorem outR_mem {name value : ByteArray} : ∀ {L : List Fld} {there : Bool} {f : Fld}, f ∈ outR name value there L → f ∈ L ∨ isN name f = true
  | [], _, f, h => by simp [outR] at h
  | g :: t, there, f, h => by
    rw [outR, List.mem_append] at h
    rcases h with h | h
    · unfold stepR at h
      split at h
      · rename_i hg
        split at h
        · cases h
        · rw [List.mem_singleton] at h
          subst h
          exact .inr hg
      · rw [List.mem_singleton] at h
        subst h
        exact .inl List.mem_cons_self
    · rcases outR_mem h with h | h
      · exact .inl (List.mem_cons_of_mem _ h)
      · exact .inr h
theorem isN_self (name value : ByteArray) : isN name (name, value) = true := by unfold isN same; simp
theorem setB_mem {L : List Fld} {name value : ByteArray} {f : Fld} (h : f ∈ setB L name value) : f ∈ L ∨ isN name f = true := by
  unfold setB at h
  rw [setR_out, List.mem_append] at h
  rcases h with h | h
  · exact outR_mem h
  · split at h
    · cases h
    · rw [List.mem_singleton] at h
      subst h
      exact .inr (isN_self _ _)
theorem outR_other (name value : ByteArray) (p : Fld → Bool) (hp : ∀ f, isN name f = true → p f = false) : ∀ (L : List Fld) (there : Bool), (outR name value there L).filter p = L.filter p
  | [], _ => rfl
  | g :: t, there => by
    rw [outR, List.filter_append, outR_other name value p hp t]
    unfold stepR
    cases hg : isN name g
    · rw [if_neg (by decide), List.filter_cons, List.filter_cons]
      split <;> rfl
    · rw [if_pos rfl, List.filter_cons_of_neg (by rw [hp g hg]; decide)]
      split
      · rfl
      · rw [List.filter_cons_of_neg (by rw [hp (g.1, value) (by unfold isN at hg ⊢; exact hg)]; decide)]; rfl
theorem set_other (L : List Fld) (name value : ByteArray) (p : Fld → Bool) (hp : ∀ f, isN name f = true → p f = false) : (setB L name value).filter p = L.filter p := by
  unfold setB
  rw [setR_out, List.filter_append, outR_other name value p hp]
  split
  · simp
  · rw [List.filter_cons_of_neg (by rw [hp _ (isN_self _ _)]; decide)]; simp
theorem outR_true (name value : ByteArray) : ∀ L : List Fld, (outR name value true L).filter (isN name) = []
  | [] => rfl
  | g :: t => by
    rw [outR, List.filter_append, Bool.true_or, outR_true name value t, List.append_nil]
    unfold stepR
    cases hg : isN name g
    · rw [if_neg (by decide), List.filter_cons_of_neg (by rw [hg]; decide)]; rfl
    · rw [if_pos rfl, if_pos rfl]; rfl
theorem outR_false (name value : ByteArray) : ∀ L : List Fld, ((outR name value false L).filter (isN name)).map (·.2) = if L.any (isN name) = true then [value] else []
  | [] => rfl
  | g :: t => by
    rw [outR, List.filter_append, Bool.false_or]
    cases hg : isN name g
    · rw [List.map_append, outR_false name value t, List.any_cons, hg, Bool.false_or]
      unfold stepR
      rw [hg, if_neg (by decide), List.filter_cons_of_neg (by rw [hg]; decide)]
      rfl
    · rw [outR_true, List.append_nil, List.any_cons, hg, Bool.true_or, if_pos rfl]
      unfold stepR
      rw [hg, if_pos rfl, if_neg (by decide), List.filter_cons_of_pos (by unfold isN at hg ⊢; exact hg)]
      rfl
theorem allB_set (L : List Fld) (name value : ByteArray) : allB (setB L name value) name = [value] := by
  unfold allB setB
  rw [setR_out, List.filter_append, List.map_append, outR_false, Bool.false_or]
  split
  · simp
  · rw [List.filter_cons_of_pos (isN_self _ _)]; rfl
theorem getB_set (L : List Fld) (name value : ByteArray) : getB (setB L name value) name = value := by
  unfold getB joinB
  rw [allB_set]
  show ofL (Lib.join [value.data.toList] [44, 32]) = value
  rw [Lib.join_one, ofL_of]
theorem isN_apart {n m : ByteArray} (h : lower n.data.toList ≠ lower m.data.toList) (f : Fld) (hf : isN n f = true) : isN m f = false := by
  rw [isN_iff] at hf
  rw [← Bool.not_eq_true, isN_iff, hf]
  exact h
theorem allB_set_other (L : List Fld) (name value m : ByteArray) (h : lower name.data.toList ≠ lower m.data.toList) : allB (setB L name value) m = allB L m := by
  unfold allB
  rw [set_other L name value (isN m) (isN_apart h)]
theorem delF_set (L : List Fld) (name value : ByteArray) : delF (setB L name value) name = delF L name := by
  unfold delF
  exact set_other L name value _ (fun f hf => by rw [hf]; rfl)

/-! ### what goes on -/
theorem del_none {L : List Fld} {name : ByteArray} (h : ∀ f ∈ L, isN name f = false) : delF L name = L := by
  unfold delF
  rw [List.filter_eq_self]
  intro f hf
  rw [h f hf]; rfl
theorem del_not {L : List Fld} {name : ByteArray} {f : Fld} (h : f ∈ delF L name) : isN name f = false := by
  have := (List.mem_filter.1 h).2
  simpa using this

theorem allB_del (L : List Fld) (name : ByteArray) : allB (delF L name) name = [] := by
  unfold allB delF
  rw [List.filter_filter, List.filter_eq_nil_iff.2 (fun f _ => by cases h : isN name f <;> simp)]
  rfl
theorem allB_del_other (L : List Fld) (name m : ByteArray) (h : lower name.data.toList ≠ lower m.data.toList) : allB (delF L name) m = allB L m := by
  unfold allB delF
  rw [List.filter_filter]
  congr 1
  refine List.filter_congr (fun f _ => ?_)
  cases hm : isN m f
  · rfl
  · cases hn : isN name f
    · rfl
    · have := isN_apart h f hn
      rw [this] at hm; cases hm
theorem outR_one (name value : ByteArray) : ∀ L : List Fld, (outR name value true L).length = (delF L name).length
  | [] => rfl
  | g :: t => by
    rw [outR, List.length_append, Bool.true_or, outR_one name value t]
    unfold delF stepR
    cases hg : isN name g
    · rw [if_neg (by decide), List.filter_cons_of_pos (by rw [hg]; rfl)]; simp; omega
    · rw [if_pos rfl, if_pos rfl, List.filter_cons_of_neg (by rw [hg]; decide)]; simp
theorem outR_two (name value : ByteArray) : ∀ L : List Fld, (outR name value false L).length = (delF L name).length + if L.any (isN name) = true then 1 else 0
  | [] => rfl
  | g :: t => by
    rw [outR, List.length_append, Bool.false_or]
    cases hg : isN name g
    · rw [outR_two name value t, List.any_cons, hg, Bool.false_or]
      unfold delF stepR
      rw [hg, if_neg (by decide), List.filter_cons_of_pos (by rw [hg]; rfl)]
      simp; omega
    · rw [outR_one, List.any_cons, hg, Bool.true_or, if_pos rfl]
      unfold delF stepR
      rw [hg, if_pos rfl, if_neg (by decide), List.filter_cons_of_neg (by rw [hg]; decide)]
      simp; omega
theorem set_del_len (L : List Fld) (name value : ByteArray) : (setB L name value).length = (delF L name).length + 1 := by
  unfold setB
  rw [setR_out, List.length_append, outR_two, Bool.false_or]
  split <;> simp
theorem set_none (L : List Fld) (name value : ByteArray) (h : ∀ f ∈ L, isN name f = false) : setB L name value = L ++ [(name, value)] := by
  unfold setB
  induction L with
  | nil => rfl
  | cons f t ih =>
    rw [setR, if_neg (by rw [h f List.mem_cons_self]; decide), ih (fun g hg => h g (List.mem_cons_of_mem _ hg))]
    rfl
theorem outR_small {name value : ByteArray} : ∀ {L : List Fld} {there : Bool} {f : Fld}, f ∈ outR name value there L → f ∈ L ∨ (f.2 = value ∧ ∃ g ∈ L, g.1 = f.1)
  | [], _, f, h => by simp [outR] at h
  | g :: t, there, f, h => by
    rw [outR, List.mem_append] at h
    rcases h with h | h
    · unfold stepR at h
      split at h
      · split at h
        · cases h
        · rw [List.mem_singleton] at h
          subst h
          exact .inr ⟨rfl, g, List.mem_cons_self, rfl⟩
      · rw [List.mem_singleton] at h
        subst h
        exact .inl List.mem_cons_self
    · rcases outR_small h with h | ⟨h, x, hx, e⟩
      · exact .inl (List.mem_cons_of_mem _ h)
      · exact .inr ⟨h, x, List.mem_cons_of_mem _ hx, e⟩
theorem set_len (L : List Fld) (name value : ByteArray) : (setB L name value).length ≤ L.length + 1 := by
  unfold setB
  rw [setR_out, List.length_append]
  have := outR_len name value L false
  split <;> simp <;> omega
theorem set_few {L : List Fld} {name value : ByteArray} (h : L.length ≤ 99 ∧ ∀ f ∈ L, f.1.size ≤ 2000 ∧ f.2.size ≤ 2000) (hn : name.size ≤ 2000) (hv : value.size ≤ 2000) : Few (setB L name value) := by
  refine ⟨by have := set_len L name value; omega, fun f hf => ?_⟩
  unfold setB at hf
  rw [setR_out, List.mem_append] at hf
  rcases hf with hf | hf
  · rcases outR_small hf with hf | ⟨e, g, hg, e2⟩
    · exact h.2 f hf
    · rw [e, ← e2]
      exact ⟨(h.2 g hg).1, hv⟩
  · split at hf
    · cases hf
    · rw [List.mem_singleton] at hf
      subst hf
      exact ⟨hn, hv⟩
theorem del_few {L : List Fld} {name : ByteArray} (h : Few L) : Few (delF L name) := ⟨Nat.le_trans (List.length_filter_le _ _) h.1, fun f hf => h.2 f (List.mem_filter.1 hf).1⟩
theorem sameLS_self (A : List ByteArray) : sameLS A A = true := by simp [sameLS]
theorem sameLF_self (A : List Fld) : sameLF A A = true := by simp [sameLF]
theorem sameFs_self (L : List Fld) : sameFs L L = true := by
  unfold sameFs
  rw [decide_eq_true rfl, Bool.true_and, List.all_eq_true]
  intro p hp
  have : p.1 = p.2 := by
    induction L with
    | nil => simp at hp
    | cons f t ih =>
      simp only [List.zip_cons_cons, List.mem_cons] at hp
      rcases hp with rfl | hp
      · rfl
      · exact ih hp
  obtain ⟨a, b⟩ := p
  obtain rfl : a = b := this
  unfold samePF same
  simp
end Go.Proofs.YtbpopmbabckojaaGreatDoor.Sp
end

/- A message that came in is opened. -/
section
namespace Go.Proofs.YtbpopmbabckojaaGreatDoor.Sp
open Go.ChangeShapes Go.WideShapes Go.ChangeAt Go.RowKit Go.Deep Sl Go.Joins

theorem wAll {H : Type} {P : Program} {e : TypeId} {d : DataW H} {n : Nat} : ∀ {l : List (DataW H)}, d ∈ l → n ∈ d.weights P e → n ∈ DataW.weightsAll P e l
  | x :: r, h, hn => by
    simp only [DataW.weightsAll, List.mem_append]
    rcases List.mem_cons.1 h with rfl | h
    · exact .inl hn
    · exact .inr (wAll h hn)

theorem fields_of {H : Type} {enc : TypeId × Value → H} {W : World} {v : Value} {fuel : Nat} {x : DataW H × List MemPlace}
    (h : DataW.trod enc Tryz.prog W 0 (fun _ => true) true fuel 22 [v] = some x) (hw : ∀ n ∈ x.1.weights Tryz.prog 22, n ≤ reachBytes) :
    ∃ L : List Fld, L.length ≤ 9223372036854775807 ∧ (∀ f ∈ L, f.1.size ≤ 1000000000000000 ∧ f.2.size ≤ 1000000000000000) ∧ Rd W v L.length 2 (fldV L) := by
  rcases open_slice_pairs Tryz.underlying22 Tryz.underlying55 (by kernel_rfl) rfl rfl (by kernel_rfl) (by kernel_rfl) h with ⟨hcs, _⟩ | ⟨a, len, cap, m, n, V0, V1, D0, D1, P0, P1, hcs, _, hlc, hm, hmm, rfl, hi⟩
  · simp at hcs
    subst hcs
    exact ⟨[], by simp, by simp, Rd.nil W 2⟩
  · simp at hcs
    subst hcs
    simp only [if_true] at hmm
    subst hmm
    have each : ∀ i, i < len → ∃ f : Fld, (W.cell? (a.add (i * 2)) = some (.string f.1) ∧ W.cell? (a.add (i * 2 + 1)) = some (.string f.2)) ∧ f.1.size ≤ 1000000000000000 ∧ f.2.size ≤ 1000000000000000 := fun i hi' => by
      obtain ⟨h0, h1, t0, t1⟩ := hi i (by omega)
      obtain ⟨s0, e0, q0, _⟩ := DataW.trod_string Tryz.underlying9 t0
      obtain ⟨s1, e1, q1, _⟩ := DataW.trod_string Tryz.underlying9 t1
      simp only [List.cons.injEq, and_true, Prod.mk.injEq] at e0 e1 q0 q1
      have hmem : DataW.agg [D0 i, D1 i] ∈ (List.range len).map fun i => DataW.agg [D0 i, D1 i] := List.mem_map.2 ⟨i, List.mem_range.2 hi', rfl⟩
      have hsub : ∀ q, q ∈ (DataW.agg [D0 i, D1 i]).weights Tryz.prog 55 → q ≤ reachBytes := fun q hq => hw q (by
        simp only [DataW.weights, Tryz.underlying22, List.mem_cons, List.mem_append]
        exact .inr (.inl (wAll hmem hq)))
      have hz : ∀ k, k ≤ reachBytes → k ≤ 1000000000000000 := fun k hk => by unfold reachBytes at hk; omega
      refine ⟨(s0, s1), ⟨by rw [h0, e0], by rw [h1, e1]⟩, ?_, ?_⟩
      · have := hz _ (hsub s0.data.toList.length (by simp [DataW.weights, Tryz.underlying55, DataW.weightsEach, q0.1]))
        simpa using this
      · have := hz _ (hsub s1.data.toList.length (by simp [DataW.weights, Tryz.underlying55, DataW.weightsEach, q1.1]))
        simpa using this
    obtain ⟨f, hf'⟩ := choose_lt each
    refine ⟨(List.range len).map f, by simp; unfold maxLen at hm; omega, fun x hx => ?_, ?_⟩
    · obtain ⟨i, hi', rfl⟩ := List.mem_map.1 hx
      exact (hf' i (List.mem_range.1 hi')).2
    · refine ⟨some a, m, by simp, by simpa using hlc, (fun h => by cases h), fldV_len _, fun hne => ?_⟩
      have hpos : 0 < len := by
        rcases Nat.eq_zero_or_pos len with h0 | h0
        · subst h0; simp [fldV] at hne
        · exact h0
      have h0 := (hf' 0 hpos).1.1
      obtain ⟨b, off, spot⟩ := a
      have hspot : spot = none := by simpa [Addr.add] using World.cell?_spot h0
      subst hspot
      refine ⟨b, off, rfl, by have := World.block_lt_of_cell? W _ h0; simpa [Addr.add] using this, fun i u hu => ?_⟩
      have hlen : ((List.range len).map f).length = len := by simp
      have hil : i < len * 2 := by
        have := (List.getElem?_eq_some_iff.1 hu).1
        rw [fldV_len, hlen] at this
        exact this
      have hg := fldV_get ((List.range len).map f) (i / 2) (by rw [hlen]; omega)
      have hc := (hf' (i / 2) (by omega)).1
      simp only [List.getElem_map, List.getElem_range] at hg
      rcases Nat.mod_two_eq_zero_or_one i with hp | hp
      · have e : i / 2 * 2 = i := by omega
        rw [e] at hg hc
        rw [hg.1] at hu
        cases hu
        have := hc.1
        rwa [Addr.add_mid] at this
      · have e : i / 2 * 2 + 1 = i := by omega
        rw [e] at hg hc
        rw [hg.2] at hu
        cases hu
        have := hc.2
        rwa [Addr.add_mid] at this

theorem array8 {α : Type} {cs : Array α} (h : cs.size = 8) : ∃ a b c d e f g i, cs = #[a, b, c, d, e, f, g, i] := by
  obtain ⟨l⟩ := cs
  match l, h with
  | [a, b, c, d, e, f, g, i], _ => exact ⟨a, b, c, d, e, f, g, i, rfl⟩
set_option maxRecDepth 100000 in
theorem msg_of {H : Type} {enc : TypeId × Value → H} {W : World} {b0 : Nat} {v : Value} {d : DataW H} {p : List MemPlace} (hv : Value.okWide Tryz.prog W .any b0 24 v)
    (h : DataW.Trod enc Tryz.prog W 0 (fun _ => true) true 24 v d p) (hw : ∀ n ∈ d.weights Tryz.prog 24, n ≤ reachBytes) :
    ∃ (me ta re bo : ByteArray) (st mi : Int) (fs tr : Value) (F T : List Fld), v = .agg (msgV me ta st re mi fs bo tr) ∧ me.size ≤ 9223372036854775807 ∧ ta.size ≤ 9223372036854775807 ∧ re.size ≤ 9223372036854775807 ∧ bo.size ≤ 9223372036854775807 ∧
      F.length ≤ 9223372036854775807 ∧ T.length ≤ 9223372036854775807 ∧ (∀ f ∈ F, f.1.size ≤ 1000000000000000 ∧ f.2.size ≤ 1000000000000000) ∧ (∀ f ∈ T, f.1.size ≤ 1000000000000000 ∧ f.2.size ≤ 1000000000000000) ∧ Rd W fs F.length 2 (fldV F) ∧ Rd W tr T.length 2 (fldV T) := by
  obtain ⟨cs, rfl, hsz⟩ := okWide_struct Tryz.underlying24 hv
  obtain ⟨c0, c1, c2, c3, c4, c5, c6, c7, rfl⟩ := array8 (hsz.trans (by kernel_rfl))
  obtain ⟨fuel, hf⟩ := h
  obtain ⟨xs, n, _, hx, _, hlen, hfs⟩ := DataW.trod_struct Tryz.underlying24 hf
  match xs, hlen with
  | [y0, y1, y2, y3, y4, y5, y6, y7], _ =>
    have k9 : Tryz.prog.cellsOf 9 = 1 := by kernel_rfl
    have k3 : Tryz.prog.cellsOf 3 = 1 := by kernel_rfl
    have k22 : Tryz.prog.cellsOf 22 = 1 := by kernel_rfl
    have g0 := hfs 0 _ rfl
    have g1 := hfs 1 _ rfl
    have g2 := hfs 2 _ rfl
    have g3 := hfs 3 _ rfl
    have g4 := hfs 4 _ rfl
    have g5 := hfs 5 _ rfl
    have g6 := hfs 6 _ rfl
    have g7 := hfs 7 _ rfl
    simp [Value.cells, k9, k3, k22] at g0 g1 g2 g3 g4 g5 g6 g7
    obtain ⟨me, e0, _, z0⟩ := DataW.trod_string Tryz.underlying9 g0
    obtain ⟨ta, e1, _, z1⟩ := DataW.trod_string Tryz.underlying9 g1
    obtain ⟨st, e2, _, _⟩ := DataW.trod_int Tryz.underlying3 g2
    obtain ⟨re, e3, _, z3⟩ := DataW.trod_string Tryz.underlying9 g3
    obtain ⟨mi, e4, _, _⟩ := DataW.trod_int Tryz.underlying3 g4
    obtain ⟨bo, e6, _, z6⟩ := DataW.trod_string Tryz.underlying9 g6
    simp only [Prod.mk.injEq] at hx
    have hwe : ∀ (j : Nat) (t : TypeId) (y : DataW H), ([9, 9, 3, 9, 3, 22, 9, 22] : List TypeId)[j]? = some t → ([y0.1, y1.1, y2.1, y3.1, y4.1, y5.1, y6.1, y7.1] : List (DataW H))[j]? = some y → ∀ q ∈ y.weights Tryz.prog t, q ≤ reachBytes := by
      intro j t y ht hy q hq
      refine hw q ?_
      rw [hx.1]
      simp only [DataW.weights, Tryz.underlying24]
      exact DataW.weights_mem_each (ts := [9, 9, 3, 9, 3, 22, 9, 22]) ht hy q hq
    obtain ⟨F, hF1, hF2, hF3⟩ := fields_of g5 (hwe 5 _ _ rfl rfl)
    obtain ⟨T, hT1, hT2, hT3⟩ := fields_of g7 (hwe 7 _ _ rfl rfl)
    unfold maxLen at z0 z1 z3 z6
    simp only [List.cons.injEq, and_true] at e0 e1 e2 e3 e4 e6
    exact ⟨me, ta, re, bo, st, mi, c5, c7, F, T, by rw [e0, e1, e2, e3, e4, e6]; rfl, by omega, by omega, by omega, by omega, hF1, hT1, hF2, hT2, hF3, hT3⟩
set_option maxRecDepth 100000 in
theorem fieldsP_of {H : Type} {enc : TypeId × Value → H} {W : World} {v : Value} {d : DataW H} {p : List MemPlace} {b0 : Nat} (hv : Value.okWide Tryz.prog W .any b0 22 v) (h : DataW.Trod enc Tryz.prog W 0 (fun _ => true) true 22 v d p) (hw : ∀ n ∈ d.weights Tryz.prog 22, n ≤ reachBytes) :
    ∃ L : List Fld, L.length ≤ 9223372036854775807 ∧ (∀ f ∈ L, f.1.size ≤ 1000000000000000 ∧ f.2.size ≤ 1000000000000000) ∧ Rd W v L.length 2 (fldV L) := by
  obtain ⟨ao, ln, cp, rfl⟩ := okWide_slice Tryz.underlying22 hv
  obtain ⟨fuel, hf⟩ := h
  have hf2 : DataW.trod enc Tryz.prog W 0 (fun _ => true) true fuel 22 [.slice ao ln cp] = some (d, p) := hf
  exact fields_of (x := (d, p)) hf2 hw
end Go.Proofs.YtbpopmbabckojaaGreatDoor.Sp
end
