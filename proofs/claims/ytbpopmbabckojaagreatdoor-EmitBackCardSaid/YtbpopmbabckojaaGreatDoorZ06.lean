/- Lemmas for the statement's proof, several texts in one: Reg4. -/
import Derived.Test.YtbpopmbabckojaaGreatDoorZ01
set_option linter.unusedVariables false
set_option linter.unusedSimpArgs false
/- As Reg2's law of one operation of whatever kind: the operation may wait for those ahead of it through others. -/
section
namespace Go.Proofs.YtbpopmbabckojaaGreatDoor.Reg
open Go.RowKit Go

section
variable {P : Program} {ops : Array Oper} {md : Region.Mode} {C : World → Prop} {s : Nat}

/-- Number s waits for number i, if need be through others. -/
def reachB (md : Region.Mode) (ops : Array Oper) : Nat → Nat → Nat → Bool
  | 0, _, _ => false
  | f + 1, s, i => Region.waitsFor md ops s i || (match ops[s]? with | some o => o.after.any (fun e => Region.binds md e && reachB md ops f e.on i) | none => false)
/-- Whatever an operation that has come up waited for has come up. -/
def ClosedT (md : Region.Mode) (ops : Array Oper) (listed : Array Bool) : Prop := ∀ (i : Nat) o, ops[i]? = some o → listed.getD i false = true → ∀ e ∈ o.after, Region.binds md e = true → listed.getD e.on false = true
theorem getD_set_more {listed : Array Bool} {i j : Nat} (h : listed.getD j false = true) : (listed.setIfInBounds i true).getD j false = true := by
  by_cases hij : i = j
  · subst hij
    have hlt : i < listed.size := by
      rcases Nat.lt_or_ge i listed.size with h' | h'
      · exact h'
      · rw [Array.getD_eq_getD_getElem?, Array.getElem?_eq_none h'] at h; cases h
    simp [hlt]
  · rw [getD_set_ne false hij]; exact h
theorem reach_listed {listed : Array Bool} (hc : ClosedT md ops listed) : ∀ (f s i : Nat), reachB md ops f s i = true → (∀ o, ops[s]? = some o → ∀ e ∈ o.after, Region.binds md e = true → listed.getD e.on false = true) → listed.getD i false = true
  | 0, _, _, h, _ => by cases h
  | f + 1, s, i, h, hd => by
    unfold reachB at h
    rw [Bool.or_eq_true] at h
    rcases h with h | h
    · obtain ⟨o, ho, e, he, hb, hon⟩ := Region.waitsFor_spec h
      rw [← hon]
      exact hd o ho e he hb
    · cases ho : ops[s]? with
      | none => rw [ho] at h; cases h
      | some o =>
        rw [ho] at h
        obtain ⟨e, he, hh⟩ := Array.any_eq_true'.1 h
        rw [Bool.and_eq_true] at hh
        exact reach_listed hc f e.on i hh.2 (fun o' ho' e' he' hb' => hc e.on o' ho' (hd o ho e he hh.1) e' he' hb')

/-- What holds of the operations that have come up while number s has not: none from s on. -/
structure AheadT (md : Region.Mode) (ops : Array Oper) (s : Nat) (listed : Array Bool) : Prop where
  size : listed.size = ops.size
  late : ∀ t, s ≤ t → t < ops.size → listed.getD t true = false
  closed : ClosedT md ops listed

theorem AheadT.set {listed : Array Bool} {i : Nat} (h : AheadT md ops s listed) (hi : i < s) (hr : i ∈ Region.ready md ops listed) : AheadT md ops s (listed.setIfInBounds i true) := by
  refine ⟨by simp [h.size], fun t ht ht' => by rw [getD_set_ne true (by omega)]; exact h.late t ht ht', fun k o ho hk e he hb => ?_⟩
  by_cases hik : i = k
  · subst hik
    obtain ⟨_, o', ho', hall⟩ := mem_ready.1 hr
    obtain rfl : o = o' := Option.some.inj (ho.symm.trans ho')
    exact getD_set_more (hall e he hb)
  · rw [getD_set_ne false hik] at hk
    exact getD_set_more (h.closed k o ho hk e he hb)

theorem not_lateT {listed : Array Bool} (hw : AllWait md ops s) (hs : s < ops.size) (inv : AheadT md ops s listed) {j : Nat} (hj : j ∈ Region.ready md ops listed) (hne : j ≠ s) : j < s := by
  rcases Nat.lt_or_ge j s with h | h
  · exact h
  obtain ⟨oj, hoj, e, he, hb, hon⟩ := Region.waitsFor_spec (hw j (by omega) (by obtain ⟨_, o, ho, _⟩ := mem_ready.1 hj; exact (Array.getElem?_eq_some_iff.1 ho).1))
  obtain ⟨_, oj', hoj', hall⟩ := mem_ready.1 hj
  obtain rfl : oj = oj' := Option.some.inj (hoj.symm.trans hoj')
  have h1 := hall e he hb
  rw [hon, getD_both (inv.late s (Nat.le_refl _) hs)] at h1
  cases h1

theorem wpBar_firstT {L : Act → Prop} {i : Nat} {oi : Oper} {v : Value} (hi : ops[i]? = some oi) (hsel : ∀ (j : Nat) (o : Oper) cs b, ops[j]? = some o → o.op ≠ .select cs b)
    (hw : AllWait md ops s) (hs : s < ops.size) (his : i < s) :
    ∀ (f : Nat) (listed : Array Bool) (a : Act), AheadT md ops s listed →
      (∀ j oj, ops[j]? = some oj → j ≠ i → listed.getD j true = false → (∀ e ∈ oj.after, Region.binds md e = true → e.on ≠ i) → oi.apart ops oj = true) →
      i ∈ Region.ready md ops listed → YieldsIn P ops C oi v a →
      wpBar P md ops C s L f (listed.setIfInBounds i true) (a.put oi.dst v) → wpBar P md ops C s L (f + 1) listed a := by
  intro f
  induction f with
  | zero =>
    intro listed a inv _ hr hy H
    have hun := (mem_ready.1 hr).1
    refine ⟨⟨i, his, getD_both hun⟩, fun j hj hjs => ?_⟩
    have hlt := not_lateT hw hs inv hj hjs
    refine ⟨hlt, ?_⟩
    by_cases hji : j = i
    · subst hji; exact hy.qOp hi H
    · have h1 := H.1 j hlt
      rw [getD_set_ne false (Ne.symm hji), getD_both (mem_ready.1 hj).1] at h1
      cases h1
  | succ f ih =>
    intro listed a inv hfree hr hy H
    have hun := (mem_ready.1 hr).1
    refine ⟨⟨i, his, getD_both hun⟩, fun j hj hjs => ?_⟩
    have hlt := not_lateT hw hs inv hj hjs
    refine ⟨hlt, ?_⟩
    by_cases hji : j = i
    · subst hji; exact hy.qOp hi H
    · have h1 := (H.2 j (ready_mono hj hji) hjs).2
      obtain ⟨hjun, oj, hoj, hall⟩ := mem_ready.1 hj
      have hnot : ∀ e ∈ oj.after, Region.binds md e = true → e.on ≠ i := fun e he hb heq => by
        have h2 := hall e he hb
        rw [heq, getD_both hun] at h2
        cases h2
      have h2 := qOp_put hoj (hfree j oj hoj hji hjun hnot) (fun cs b => hsel i oi cs b hi) (fun cs b => hsel j oj cs b hoj) hy h1
      refine qOp_mono (fun a' h3 => ih (listed.setIfInBounds j true) a' (inv.set hlt hj) (fun k ok hk hki hku hkn => ?_) (ready_mono hr (Ne.symm hji)) h3.1 ?_) h2
      · refine hfree k ok hk hki ?_ hkn
        by_cases hjk : j = k
        · subst hjk; exact hjun
        · rw [getD_set_ne true hjk] at hku; exact hku
      · rw [Array.setIfInBounds_comm _ _ hji]
        exact h3.2

theorem wpBar_lexT {L : Act → Prop} (hsel : Region.noSelect ops = true) (hw : AllWait md ops s) (hs : s < ops.size) :
    ∀ (l : List Oper) (k : Nat) (listed : Array Bool) (a : Act), (∀ j, j < l.length → l[j]? = ops[k + j]?) → k + l.length = s → AheadT md ops s listed → HeadDone k listed →
      headB md ops l.length k listed = true → wpQuiet P ops C L l a → wpBar P md ops C s L l.length listed a
  | [], k, listed, a, _, hk, _, hd, _, h => by
    obtain rfl : k = s := by simpa using hk
    exact ⟨hd, h⟩
  | o :: l, k, listed, a, hl, hk, inv, hd, hB, h => by
    have h0 : ops[k]? = some o := by simpa using (hl 0 (by simp)).symm
    have hks : k < s := by simp only [List.length_cons] at hk; omega
    simp only [List.length_cons, headB, Bool.and_eq_true] at hB
    obtain ⟨⟨hr, hf⟩, hB'⟩ := hB
    have hq : qOp P ops C k (wpQuiet P ops C L l) a := by unfold qOp; simp only [h0]; exact h
    obtain ⟨v, hy, hK⟩ := yieldsIn_of_qOp h0 hq
    refine wpBar_firstT h0 (Region.noSelect_spec hsel) hw hs hks l.length listed a inv (Region.free_spec h0 hf) (by simpa using hr) hy ?_
    refine wpBar_lexT hsel hw hs l (k + 1) _ _ (fun j hj => by have := hl (j + 1) (by simp; omega); simpa [Nat.add_assoc, Nat.add_comm 1 j] using this)
      (by simp only [List.length_cons] at hk; omega) (inv.set hks (by simpa using hr)) (fun t ht => ?_) hB' hK
    by_cases htk : k = t
    · subst htk
      have : k < listed.size := by rw [inv.size]; omega
      simp [this]
    · rw [getD_set_ne false htk]; exact hd t (by omega)

/-- Each operation ahead of number s: s waits for it, or it is a plain copy, apart from all that neither waits for it nor it for them. -/
def FreeOnesT (md : Region.Mode) (ops : Array Oper) (s : Nat) : Prop := ∀ (i : Nat) oi, i < s → ops[i]? = some oi →
  reachB md ops ops.size s i = true ∨
  (plainKind oi.op = true ∧ ∀ (j : Nat) oj, ops[j]? = some oj → j ≠ i → Region.waitsFor md ops j i = true ∨ Region.waitsFor md ops i j = true ∨ oi.apart ops oj = true)

theorem wpAny_of_barT {L : Act → Prop} {Q : Exit → Act → World → Prop} {g : Nat} (hsel : Region.noSelect ops = true) (hw : AllWait md ops s) (hs : s < ops.size) (ht : Topo md ops) (hfo : FreeOnesT md ops s)
    (hQ : ∀ c a d v w, Q (.panic c) (Act.put a d v) w → Q (.panic c) a w)
    (hL : ∀ listed a w, AheadT md ops s listed → HeadDone s listed → C w → L a → wpAny P md ops Q g listed a w) :
    ∀ (f : Nat) (listed : Array Bool) (a : Act) (w : World), AheadT md ops s listed → C w → wpBar P md ops C s L f listed a → wpAny P md ops Q (f + g) listed a w
  | 0, listed, a, w, inv, hC, h => by rw [Nat.zero_add]; exact hL _ _ _ inv h.1 hC h.2
  | f + 1, listed, a, w, inv, hC, h => by
    rw [show f + 1 + g = (f + g) + 1 by omega]
    obtain ⟨⟨k, hks, hun⟩, hall⟩ := h
    obtain ⟨j, hjk, hjr⟩ := least_ready ht inv.size k (by omega) hun
    have hjs : j ≠ s := by omega
    by_cases hsr : s ∈ Region.ready md ops listed
    · -- number s may come up: so the first that has not is a plain copy: it is taken first
      obtain ⟨hjun, oj, hoj, hdeps⟩ := mem_ready.1 hjr
      have hplain : plainKind oj.op = true ∧ ∀ (k : Nat) ok, ops[k]? = some ok → k ≠ j → Region.waitsFor md ops k j = true ∨ Region.waitsFor md ops j k = true ∨ oj.apart ops ok = true := by
        rcases hfo j oj (by omega) hoj with h1 | h1
        · obtain ⟨_, os', hos', hd⟩ := mem_ready.1 hsr
          have h2 := reach_listed inv.closed _ _ _ h1 (fun o ho e he hb => by obtain rfl : o = os' := Option.some.inj (ho.symm.trans hos'); exact hd e he hb)
          rw [getD_both hjun] at h2
          cases h2
        · exact h1
      obtain ⟨v, hy, hK⟩ := yieldsIn_of_qOp hoj (hall j hjr hjs).2
      refine wpAny_first hoj (Region.noSelect_spec hsel) (fun c a w => hQ c a _ _ w) (f + g) listed a w (fun k ok hk hkj hku hkn => ?_) hjr (plain_yields hplain.1 hC hy)
        (wpAny_of_barT hsel hw hs ht hfo hQ hL f _ _ w (inv.set (by omega) hjr) hC hK)
      rcases hplain.2 k ok hk hkj with h1 | h1 | h1
      · obtain ⟨ok', hok', e, he, hb, hon⟩ := Region.waitsFor_spec h1
        obtain rfl : ok = ok' := Option.some.inj (hk.symm.trans hok')
        exact absurd hon (hkn e he hb)
      · obtain ⟨oj', hoj', e, he, hb, hon⟩ := Region.waitsFor_spec h1
        obtain rfl : oj = oj' := Option.some.inj (hoj.symm.trans hoj')
        have h2 := hdeps e he hb
        rw [hon, getD_both hku] at h2
        cases h2
      · exact h1
    · refine ⟨fun h0 => (by rw [h0] at hjr; cases hjr), fun i hi => ?_⟩
      have his : i ≠ s := fun e => hsr (e ▸ hi)
      obtain ⟨hlt, hq⟩ := hall i hi his
      exact wpOp_of_qOp hC (fun a' w' hC' hK => wpAny_of_barT hsel hw hs ht hfo hQ hL f _ a' w' (inv.set hlt hi) hC' hK) hq

/-- What the kernel reckons of a region, s the place of the one operation. -/
def barBT (md : Region.Mode) (ops : Array Oper) (s : Nat) : Bool :=
  Region.noSelect ops && decide (s < ops.size) &&
  (List.range ops.size).all (fun i => match ops[i]? with | some o => o.after.all (fun e => !Region.binds md e || decide (e.on < i)) | none => true) &&
  (List.range ops.size).all (fun t => decide (t ≤ s) || Region.waitsFor md ops t s) &&
  (List.range s).all (fun i => reachB md ops ops.size s i || (match ops[i]? with
    | some oi => plainKind oi.op && (List.range ops.size).all (fun j => j == i || Region.waitsFor md ops j i || Region.waitsFor md ops i j || (match ops[j]? with | some oj => oi.apart ops oj | none => true))
    | none => true)) &&
  headB md ops s 0 (Array.replicate ops.size false) &&
  Region.seqB md ops (ops.size - s) s (Array.ofFn (n := ops.size) fun i => decide (i.val < s))

theorem listed_at_barT {listed : Array Bool} (inv : AheadT md ops s listed) (hd : HeadDone s listed) : listed = Array.ofFn (n := ops.size) fun i => decide (i.val < s) := by
  apply Array.ext
  · simp [inv.size]
  · intro i h1 h2
    rw [Array.getElem_ofFn]
    have hsz : i < ops.size := by rw [← inv.size]; exact h1
    by_cases his : i < s
    · have := hd i his
      simp [h1] at this
      simp [his, this]
    · have := inv.late i (by omega) hsz
      simp [h1] at this
      simp [his, this]

/-- ONE WALK OF THE TEXT's ORDER UP TO NUMBER s, in every world of the class; from number s on the operations one by one. -/
theorem wp_region_barT {id : Nat} {Q : Exit → Act → World → Prop} {a : Act} {w : World} {l : List Oper} (s : Nat) (hm : P.follows .mixedOrders = true) (hB : barBT .any l.toArray s = true)
    (hQ : ∀ c a d v w, Q (.panic c) (Act.put a d v) w → Q (.panic c) a w) (hC : C { w with drawn := w.drawn + 1 })
    (h : wpQuiet P l.toArray C (fun a' => ∀ w', C w' → wpList P l.toArray Q (l.drop s) a' w') (l.take s) a) : (Code.region id l.toArray true).wp P Q a w := by
  simp only [barBT, Bool.and_eq_true, decide_eq_true_eq] at hB
  obtain ⟨⟨⟨⟨⟨⟨hsel, hs⟩, htopo⟩, hwait⟩, hfree⟩, hhead⟩, hseq⟩ := hB
  have hn : s < l.length := by simpa using hs
  have htl : (l.take s).length = s := by simp; omega
  have ht : Topo .any l.toArray := fun i o ho e he hb => by
    have h1 := List.all_eq_true.1 htopo i (List.mem_range.2 (Array.getElem?_eq_some_iff.1 ho).1)
    simp only [ho] at h1
    have h2 := Array.all_eq_true_iff_forall_mem.1 h1 e he
    simpa [hb] using h2
  have hw : AllWait .any l.toArray s := fun t hst hlt => by
    have h1 := List.all_eq_true.1 hwait t (List.mem_range.2 hlt)
    simp only [Bool.or_eq_true, decide_eq_true_eq] at h1
    rcases h1 with h1 | h1
    · omega
    · exact h1
  have hfo : FreeOnesT .any l.toArray s := fun i oi hi hoi => by
    have h1 := List.all_eq_true.1 hfree i (List.mem_range.2 hi)
    simp only [hoi, Bool.or_eq_true, Bool.and_eq_true] at h1
    rcases h1 with h1 | ⟨h1, h2⟩
    · exact .inl h1
    · refine .inr ⟨h1, fun j oj hoj hji => ?_⟩
      have h3 := List.all_eq_true.1 h2 j (List.mem_range.2 (Array.getElem?_eq_some_iff.1 hoj).1)
      simp only [hoj, Bool.or_eq_true, beq_iff_eq, hji, false_or] at h3
      rcases h3 with (h3 | h3) | h3
      · exact .inl h3
      · exact .inr (.inl h3)
      · exact .inr (.inr h3)
  have inv0 : AheadT .any l.toArray s (Array.replicate l.toArray.size false) := ⟨by simp, fun t _ ht => getD_in (by simpa using ht) (getD_replicate_false _ _), fun i o ho h => by rw [getD_replicate_false] at h; cases h⟩
  have H := wpBar_lexT (md := .any) (C := C) hsel hw hs (l.take s) 0 _ a (fun j hj => by
    have hj' : j < s := by rw [htl] at hj; exact hj
    simp [hj']) (by simpa using htl) inv0 (fun k hk => absurd hk (Nat.not_lt_zero _)) (by rw [htl]; exact hhead) h
  rw [htl] at H
  refine wp_region_any hm ?_
  have hg : s + (l.toArray.size - s) = l.toArray.size := by omega
  rw [← hg]
  have hg' : (Array.replicate (s + (l.toArray.size - s)) false) = Array.replicate l.toArray.size false := by rw [hg]
  rw [hg']
  refine wpAny_of_barT hsel hw hs ht hfo hQ (fun listed a' w' inv hd hC' hL => ?_) s _ a _ inv0 hC H
  have e := listed_at_barT inv hd
  have hdl : (l.drop s).length = l.toArray.size - s := by simp
  have h1 := wpAny_of_seq (md := .any) (Q' := Q) (l.drop s) s listed a' w' (fun j => by simp [List.getElem?_drop]) (by rw [hdl, e]; exact hseq) (hL w' hC')
  rwa [hdl] at h1

end
theorem region_more_barT {P : Program} {id : Nat} {Q : Exit → Act → World → Prop} {a : Act} {w : World} {l : List Oper} (s : Nat) (hm : P.follows .mixedOrders = true) (hB : barBT .any l.toArray s = true)
    (hQ : ∀ c a d v w, Q (.panic c) (Act.put a d v) w → Q (.panic c) a w)
    (h : wpQuiet P l.toArray (fun w' => ∃ x : More w, w' = x.w) (fun a' => ∀ w', Below w.heap.size w w' → wpList P l.toArray Q (l.drop s) a' w') (l.take s) a) : (Code.region id l.toArray true).wp P Q a w := by
  refine wp_region_barT (C := fun w' => ∃ x : More w, w' = x.w) s hm hB hQ ⟨⟨w.drew, (Below.refl _ _).drew⟩, rfl⟩ ?_
  have e : (fun a' => ∀ w', (∃ x : More w, w' = x.w) → wpList P l.toArray Q (l.drop s) a' w') = fun a' => ∀ w', Below w.heap.size w w' → wpList P l.toArray Q (l.drop s) a' w' :=
    funext fun a' => propext ⟨fun k w' hb => k w' ⟨⟨w', hb⟩, rfl⟩, fun k w' ⟨x, hx⟩ => hx ▸ k _ x.hb⟩
  rw [e]
  exact h
end Go.Proofs.YtbpopmbabckojaaGreatDoor.Reg
end
