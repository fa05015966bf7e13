/- Lemmas for the statement's proof, several texts in one: Reg2, B0. -/
import Derived.Deep.Quiet
import Derived.Deep.QuietTactic
import Derived.BigQuiet
import Derived.StillTail
import Derived.Below
import Derived.WalkKit
import Derived.WalkSmall
import Derived.Test.YtbpopmbabckojaaGreatDoorRows
import Derived.Test.YtbpopmbabckojaaGreatDoorShelf
import Derived.WalkSpells
import Derived.WalkLawsBesides
import Derived.BigGuardPart
import Derived.Outline
import Derived.Lib.Hide
import Derived.Handy
import Derived.Deep.MidRow
import Derived.Deep.DeepCutAuto
import Derived.Deep.LoopGhost
import Derived.IntWalk
import Derived.Lib.IndexBytes
set_option linter.unusedVariables false
set_option linter.unusedSimpArgs false
/- Regions that draw their order, two laws of my own: (1) every operation reads or calls what only makes new memory: one walk in the text's order serves all orders; (2) the same ahead of one operation of whatever kind (a store into what was read), with plain copies around it that may come at any time. -/
section
namespace Go.Proofs.YtbpopmbabckojaaGreatDoor.Reg
open Go.RowKit Go

section
variable {P : Program} {ops : Array Oper} {md : Region.Mode} {C : World → Prop} {s : Nat}

/-- Plain copies: what they give hangs on no world. -/
def plainKind : Op → Bool
  | .move _ | .assign _ | .extract _ _ => true
  | _ => false

theorem plain_run {o : Oper} (hp : plainKind o.op = true) {ρ : Operand → Value} {u : Value} {w w1 : World} (h : (execOp ρ o).run P w = .ok (.value u) w1) (w' : World) :
    (execOp ρ o).run P w' = .ok (.value u) w' := by
  obtain ⟨dst, op, type, pos, after, guard⟩ := o
  cases op <;> simp only [plainKind, Bool.false_eq_true] at hp
  case move x => simp [execOp, pure, Sem.run] at h ⊢; exact h.1
  case assign x => simp [execOp, pure, Sem.run] at h ⊢; exact h.1
  case extract t i =>
    simp only [execOp] at h ⊢
    generalize ρ t = tv at h ⊢
    unfold Instr.extract at h ⊢
    cases tv <;> simp [go_sem] at h ⊢
    rename_i vs
    cases hv : vs[i]? <;> simp [hv, go_sem] at h ⊢
    exact h.1

theorem plain_only {o : Oper} (hp : plainKind o.op = true) {ρ : Operand → Value} {n : Next} {w w1 : World} (h : (execOp ρ o).run P w = .ok n w1) : ∃ u, n = .value u := by
  obtain ⟨dst, op, type, pos, after, guard⟩ := o
  cases op <;> simp only [plainKind, Bool.false_eq_true] at hp
  case move x => simp [execOp, pure, Sem.run] at h; exact ⟨_, h.1.symm⟩
  case assign x => simp [execOp, pure, Sem.run] at h; exact ⟨_, h.1.symm⟩
  case extract t i =>
    simp only [execOp] at h
    generalize ρ t = tv at h
    unfold Instr.extract at h
    cases tv <;> simp [go_sem] at h
    rename_i vs
    cases hv : vs[i]? <;> simp [hv, go_sem] at h
    exact ⟨_, h.1.symm⟩

/-- Every operation ahead of number s has come up. -/
def HeadDone (s : Nat) (listed : Array Bool) : Prop := ∀ k, k < s → listed.getD k false = true

/-- Whatever order is picked among the operations ahead of number s. -/
def wpBar (P : Program) (md : Region.Mode) (ops : Array Oper) (C : World → Prop) (s : Nat) (L : Act → Prop) : Nat → Array Bool → Act → Prop
  | 0, listed, a => HeadDone s listed ∧ L a
  | f + 1, listed, a => (∃ k, k < s ∧ listed.getD k false = false) ∧
      ∀ i ∈ Region.ready md ops listed, i ≠ s → i < s ∧ qOp P ops C i (wpBar P md ops C s L f (listed.setIfInBounds i true)) a

/-- What holds of the operations that have come up while number s has not: none from s on. -/
structure Ahead (ops : Array Oper) (s : Nat) (listed : Array Bool) : Prop where
  size : listed.size = ops.size
  late : ∀ t, s ≤ t → t < ops.size → listed.getD t true = false

theorem Ahead.set {listed : Array Bool} {i : Nat} (h : Ahead ops s listed) (hi : i < s) : Ahead ops s (listed.setIfInBounds i true) :=
  ⟨by simp [h.size], fun t ht ht' => by rw [getD_set_ne true (by omega)]; exact h.late t ht ht'⟩

/-- Whoever stands behind number s waits for it. -/
def AllWait (md : Region.Mode) (ops : Array Oper) (s : Nat) : Prop := ∀ t, s < t → t < ops.size → Region.waitsFor md ops t s = true

theorem not_late {listed : Array Bool} (hw : AllWait md ops s) (hs : s < ops.size) (inv : Ahead ops s listed) {j : Nat} (hj : j ∈ Region.ready md ops listed) (hne : j ≠ s) : j < s := by
  rcases Nat.lt_or_ge j s with h | h
  · exact h
  obtain ⟨oj, hoj, e, he, hb, hon⟩ := Region.waitsFor_spec (hw j (by omega) (by obtain ⟨_, o, ho, _⟩ := mem_ready.1 hj; exact (Array.getElem?_eq_some_iff.1 ho).1))
  obtain ⟨_, oj', hoj', hall⟩ := mem_ready.1 hj
  obtain rfl : oj = oj' := Option.some.inj (hoj.symm.trans hoj')
  have h1 := hall e he hb
  rw [hon, getD_both (inv.late s (Nat.le_refl _) hs)] at h1
  cases h1

theorem wpBar_first {L : Act → Prop} {i : Nat} {oi : Oper} {v : Value} (hi : ops[i]? = some oi) (hsel : ∀ (j : Nat) (o : Oper) cs b, ops[j]? = some o → o.op ≠ .select cs b)
    (hw : AllWait md ops s) (hs : s < ops.size) (his : i < s) :
    ∀ (f : Nat) (listed : Array Bool) (a : Act), Ahead ops s listed →
      (∀ j oj, ops[j]? = some oj → j ≠ i → listed.getD j true = false → (∀ e ∈ oj.after, Region.binds md e = true → e.on ≠ i) → oi.apart ops oj = true) →
      i ∈ Region.ready md ops listed → YieldsIn P ops C oi v a →
      wpBar P md ops C s L f (listed.setIfInBounds i true) (a.put oi.dst v) → wpBar P md ops C s L (f + 1) listed a := by
  intro f
  induction f with
  | zero =>
    intro listed a inv _ hr hy H
    have hun := (mem_ready.1 hr).1
    refine ⟨⟨i, his, getD_both hun⟩, fun j hj hjs => ?_⟩
    have hlt := not_late hw hs inv hj hjs
    refine ⟨hlt, ?_⟩
    by_cases hji : j = i
    · subst hji; exact hy.qOp hi H
    · have h1 := H.1 j hlt
      rw [getD_set_ne false (Ne.symm hji), getD_both (mem_ready.1 hj).1] at h1
      cases h1
  | succ f ih =>
    intro listed a inv hfree hr hy H
    have hun := (mem_ready.1 hr).1
    refine ⟨⟨i, his, getD_both hun⟩, fun j hj hjs => ?_⟩
    have hlt := not_late hw hs inv hj hjs
    refine ⟨hlt, ?_⟩
    by_cases hji : j = i
    · subst hji; exact hy.qOp hi H
    · have h1 := (H.2 j (ready_mono hj hji) hjs).2
      obtain ⟨hjun, oj, hoj, hall⟩ := mem_ready.1 hj
      have hnot : ∀ e ∈ oj.after, Region.binds md e = true → e.on ≠ i := fun e he hb heq => by
        have h2 := hall e he hb
        rw [heq, getD_both hun] at h2
        cases h2
      have h2 := qOp_put hoj (hfree j oj hoj hji hjun hnot) (fun cs b => hsel i oi cs b hi) (fun cs b => hsel j oj cs b hoj) hy h1
      refine qOp_mono (fun a' h3 => ih (listed.setIfInBounds j true) a' (inv.set hlt) (fun k ok hk hki hku hkn => ?_) (ready_mono hr (Ne.symm hji)) h3.1 ?_) h2
      · refine hfree k ok hk hki ?_ hkn
        by_cases hjk : j = k
        · subst hjk; exact hjun
        · rw [getD_set_ne true hjk] at hku; exact hku
      · rw [Array.setIfInBounds_comm _ _ hji]
        exact h3.2

/-- The text's order is one that may be picked, and each operation may be taken first at its place. -/
def headB (md : Region.Mode) (ops : Array Oper) : Nat → Nat → Array Bool → Bool
  | 0, _, _ => true
  | n + 1, k, listed => (Region.ready md ops listed).contains k && Region.free md ops listed k && headB md ops n (k + 1) (listed.setIfInBounds k true)

theorem wpBar_lex {L : Act → Prop} (hsel : Region.noSelect ops = true) (hw : AllWait md ops s) (hs : s < ops.size) :
    ∀ (l : List Oper) (k : Nat) (listed : Array Bool) (a : Act), (∀ j, j < l.length → l[j]? = ops[k + j]?) → k + l.length = s → Ahead ops s listed → HeadDone k listed →
      headB md ops l.length k listed = true → wpQuiet P ops C L l a → wpBar P md ops C s L l.length listed a
  | [], k, listed, a, _, hk, _, hd, _, h => by
    obtain rfl : k = s := by simpa using hk
    exact ⟨hd, h⟩
  | o :: l, k, listed, a, hl, hk, inv, hd, hB, h => by
    have h0 : ops[k]? = some o := by simpa using (hl 0 (by simp)).symm
    have hks : k < s := by simp only [List.length_cons] at hk; omega
    simp only [List.length_cons, headB, Bool.and_eq_true] at hB
    obtain ⟨⟨hr, hf⟩, hB'⟩ := hB
    have hq : qOp P ops C k (wpQuiet P ops C L l) a := by unfold qOp; simp only [h0]; exact h
    obtain ⟨v, hy, hK⟩ := yieldsIn_of_qOp h0 hq
    refine wpBar_first h0 (Region.noSelect_spec hsel) hw hs hks l.length listed a inv (Region.free_spec h0 hf) (by simpa using hr) hy ?_
    refine wpBar_lex hsel hw hs l (k + 1) _ _ (fun j hj => by have := hl (j + 1) (by simp; omega); simpa [Nat.add_assoc, Nat.add_comm 1 j] using this)
      (by simp only [List.length_cons] at hk; omega) (inv.set hks) (fun t ht => ?_) hB' hK
    by_cases htk : k = t
    · subst htk
      have : k < listed.size := by rw [inv.size]; omega
      simp [this]
    · rw [getD_set_ne false htk]; exact hd t (by omega)

/-- Whoever an operation waits for stands ahead of it. -/
def Topo (md : Region.Mode) (ops : Array Oper) : Prop := ∀ (i : Nat) o, ops[i]? = some o → ∀ e ∈ o.after, Region.binds md e = true → e.on < i

/-- The first operation that has not come up may come up. -/
theorem least_ready {listed : Array Bool} (ht : Topo md ops) (inv : listed.size = ops.size) : ∀ (k : Nat), k < ops.size → listed.getD k false = false →
    ∃ j, j ≤ k ∧ j ∈ Region.ready md ops listed := by
  intro k
  induction k using Nat.strongRecOn with
  | _ k ih =>
    intro hk hun
    have hgt : listed.getD k true = false := getD_in (by omega) hun
    obtain ⟨o, ho⟩ : ∃ o, ops[k]? = some o := ⟨ops[k], by simp [hk]⟩
    by_cases hall : ∀ e ∈ o.after, Region.binds md e = true → listed.getD e.on false = true
    · exact ⟨k, Nat.le_refl _, mem_ready.2 ⟨hgt, o, ho, hall⟩⟩
    · simp only [Classical.not_forall] at hall
      obtain ⟨e, he, hb, hf⟩ := hall
      have hlt := ht k o ho e he hb
      obtain ⟨j, hj, hr⟩ := ih e.on hlt (by omega) (by simpa using hf)
      exact ⟨j, by omega, hr⟩

/-- Each operation ahead of number s: s waits for it, or it is a plain copy, apart from all that neither waits for it nor it for them. -/
def FreeOnes (md : Region.Mode) (ops : Array Oper) (s : Nat) : Prop := ∀ (i : Nat) oi, i < s → ops[i]? = some oi →
  Region.waitsFor md ops s i = true ∨
  (plainKind oi.op = true ∧ ∀ (j : Nat) oj, ops[j]? = some oj → j ≠ i → Region.waitsFor md ops j i = true ∨ Region.waitsFor md ops i j = true ∨ oi.apart ops oj = true)

theorem plain_yields {o : Oper} {v : Value} {a : Act} (hp : plainKind o.op = true) {w : World} (hC : C w) (h : YieldsIn P ops C o v a) : Yields P ops o v a := by
  rcases h with ⟨hw, hq⟩ | h
  · refine .inl ⟨hw, fun w' => ?_⟩
    have h1 := hq w hC
    unfold Oper.quietAt at h1
    generalize hr : (execOp a.eval o).run P w = r at h1
    cases r with
    | ok n w1 =>
      cases n <;> simp only [Oper.quietUpon] at h1
      case value u => obtain ⟨_, rfl⟩ := h1; exact plain_run hp hr w'
      case skip => obtain ⟨u, hu⟩ := plain_only hp hr; cases hu
      case enter f args => obtain ⟨u, hu⟩ := plain_only hp hr; cases hu
    | halt x w1 => simp only [Oper.quietUpon] at h1
  · exact .inr h

theorem wpAny_of_bar {L : Act → Prop} {Q : Exit → Act → World → Prop} {g : Nat} (hsel : Region.noSelect ops = true) (hw : AllWait md ops s) (hs : s < ops.size) (ht : Topo md ops) (hfo : FreeOnes md ops s)
    (hQ : ∀ c a d v w, Q (.panic c) (Act.put a d v) w → Q (.panic c) a w)
    (hL : ∀ listed a w, Ahead ops s listed → HeadDone s listed → C w → L a → wpAny P md ops Q g listed a w) :
    ∀ (f : Nat) (listed : Array Bool) (a : Act) (w : World), Ahead ops s listed → C w → wpBar P md ops C s L f listed a → wpAny P md ops Q (f + g) listed a w
  | 0, listed, a, w, inv, hC, h => by rw [Nat.zero_add]; exact hL _ _ _ inv h.1 hC h.2
  | f + 1, listed, a, w, inv, hC, h => by
    rw [show f + 1 + g = (f + g) + 1 by omega]
    obtain ⟨⟨k, hks, hun⟩, hall⟩ := h
    obtain ⟨j, hjk, hjr⟩ := least_ready ht inv.size k (by omega) hun
    have hjs : j ≠ s := by omega
    by_cases hsr : s ∈ Region.ready md ops listed
    · -- number s may come up: so the first that has not is a plain copy: it is taken first
      obtain ⟨hjun, oj, hoj, hdeps⟩ := mem_ready.1 hjr
      have hplain : plainKind oj.op = true ∧ ∀ (k : Nat) ok, ops[k]? = some ok → k ≠ j → Region.waitsFor md ops k j = true ∨ Region.waitsFor md ops j k = true ∨ oj.apart ops ok = true := by
        rcases hfo j oj (by omega) hoj with h1 | h1
        · obtain ⟨os, hos, e, he, hb, hon⟩ := Region.waitsFor_spec h1
          obtain ⟨_, os', hos', hd⟩ := mem_ready.1 hsr
          obtain rfl : os = os' := Option.some.inj (hos.symm.trans hos')
          have h2 := hd e he hb
          rw [hon, getD_both hjun] at h2
          cases h2
        · exact h1
      obtain ⟨v, hy, hK⟩ := yieldsIn_of_qOp hoj (hall j hjr hjs).2
      refine wpAny_first hoj (Region.noSelect_spec hsel) (fun c a w => hQ c a _ _ w) (f + g) listed a w (fun k ok hk hkj hku hkn => ?_) hjr (plain_yields hplain.1 hC hy)
        (wpAny_of_bar hsel hw hs ht hfo hQ hL f _ _ w (inv.set (by omega)) hC hK)
      rcases hplain.2 k ok hk hkj with h1 | h1 | h1
      · obtain ⟨ok', hok', e, he, hb, hon⟩ := Region.waitsFor_spec h1
        obtain rfl : ok = ok' := Option.some.inj (hk.symm.trans hok')
        exact absurd hon (hkn e he hb)
      · obtain ⟨oj', hoj', e, he, hb, hon⟩ := Region.waitsFor_spec h1
        obtain rfl : oj = oj' := Option.some.inj (hoj.symm.trans hoj')
        have h2 := hdeps e he hb
        rw [hon, getD_both hku] at h2
        cases h2
      · exact h1
    · refine ⟨fun h0 => (by rw [h0] at hjr; cases hjr), fun i hi => ?_⟩
      have his : i ≠ s := fun e => hsr (e ▸ hi)
      obtain ⟨hlt, hq⟩ := hall i hi his
      exact wpOp_of_qOp hC (fun a' w' hC' hK => wpAny_of_bar hsel hw hs ht hfo hQ hL f _ a' w' (inv.set hlt) hC' hK) hq

/-- What the kernel reckons of a region, s the place of the one operation. -/
def barB (md : Region.Mode) (ops : Array Oper) (s : Nat) : Bool :=
  Region.noSelect ops && decide (s < ops.size) &&
  (List.range ops.size).all (fun i => match ops[i]? with | some o => o.after.all (fun e => !Region.binds md e || decide (e.on < i)) | none => true) &&
  (List.range ops.size).all (fun t => decide (t ≤ s) || Region.waitsFor md ops t s) &&
  (List.range s).all (fun i => Region.waitsFor md ops s i || (match ops[i]? with
    | some oi => plainKind oi.op && (List.range ops.size).all (fun j => j == i || Region.waitsFor md ops j i || Region.waitsFor md ops i j || (match ops[j]? with | some oj => oi.apart ops oj | none => true))
    | none => true)) &&
  headB md ops s 0 (Array.replicate ops.size false) &&
  Region.seqB md ops (ops.size - s) s (Array.ofFn (n := ops.size) fun i => decide (i.val < s))

theorem listed_at_bar {listed : Array Bool} (inv : Ahead ops s listed) (hd : HeadDone s listed) : listed = Array.ofFn (n := ops.size) fun i => decide (i.val < s) := by
  apply Array.ext
  · simp [inv.size]
  · intro i h1 h2
    rw [Array.getElem_ofFn]
    have hsz : i < ops.size := by rw [← inv.size]; exact h1
    by_cases his : i < s
    · have := hd i his
      simp [h1] at this
      simp [his, this]
    · have := inv.late i (by omega) hsz
      simp [h1] at this
      simp [his, this]

/-- ONE WALK OF THE TEXT's ORDER UP TO NUMBER s, in every world of the class; from number s on the operations one by one. -/
theorem wp_region_bar {id : Nat} {Q : Exit → Act → World → Prop} {a : Act} {w : World} {l : List Oper} (s : Nat) (hm : P.follows .mixedOrders = true) (hB : barB .any l.toArray s = true)
    (hQ : ∀ c a d v w, Q (.panic c) (Act.put a d v) w → Q (.panic c) a w) (hC : C { w with drawn := w.drawn + 1 })
    (h : wpQuiet P l.toArray C (fun a' => ∀ w', C w' → wpList P l.toArray Q (l.drop s) a' w') (l.take s) a) : (Code.region id l.toArray true).wp P Q a w := by
  simp only [barB, Bool.and_eq_true, decide_eq_true_eq] at hB
  obtain ⟨⟨⟨⟨⟨⟨hsel, hs⟩, htopo⟩, hwait⟩, hfree⟩, hhead⟩, hseq⟩ := hB
  have hn : s < l.length := by simpa using hs
  have htl : (l.take s).length = s := by simp; omega
  have ht : Topo .any l.toArray := fun i o ho e he hb => by
    have h1 := List.all_eq_true.1 htopo i (List.mem_range.2 (Array.getElem?_eq_some_iff.1 ho).1)
    simp only [ho] at h1
    have h2 := Array.all_eq_true_iff_forall_mem.1 h1 e he
    simpa [hb] using h2
  have hw : AllWait .any l.toArray s := fun t hst hlt => by
    have h1 := List.all_eq_true.1 hwait t (List.mem_range.2 hlt)
    simp only [Bool.or_eq_true, decide_eq_true_eq] at h1
    rcases h1 with h1 | h1
    · omega
    · exact h1
  have hfo : FreeOnes .any l.toArray s := fun i oi hi hoi => by
    have h1 := List.all_eq_true.1 hfree i (List.mem_range.2 hi)
    simp only [hoi, Bool.or_eq_true, Bool.and_eq_true] at h1
    rcases h1 with h1 | ⟨h1, h2⟩
    · exact .inl h1
    · refine .inr ⟨h1, fun j oj hoj hji => ?_⟩
      have h3 := List.all_eq_true.1 h2 j (List.mem_range.2 (Array.getElem?_eq_some_iff.1 hoj).1)
      simp only [hoj, Bool.or_eq_true, beq_iff_eq, hji, false_or] at h3
      rcases h3 with (h3 | h3) | h3
      · exact .inl h3
      · exact .inr (.inl h3)
      · exact .inr (.inr h3)
  have inv0 : Ahead l.toArray s (Array.replicate l.toArray.size false) := ⟨by simp, fun t _ ht => getD_in (by simpa using ht) (getD_replicate_false _ _)⟩
  have H := wpBar_lex (md := .any) (C := C) hsel hw hs (l.take s) 0 _ a (fun j hj => by
    have hj' : j < s := by rw [htl] at hj; exact hj
    simp [hj']) (by simpa using htl) inv0 (fun k hk => absurd hk (Nat.not_lt_zero _)) (by rw [htl]; exact hhead) h
  rw [htl] at H
  refine wp_region_any hm ?_
  have hg : s + (l.toArray.size - s) = l.toArray.size := by omega
  rw [← hg]
  have hg' : (Array.replicate (s + (l.toArray.size - s)) false) = Array.replicate l.toArray.size false := by rw [hg]
  rw [hg']
  refine wpAny_of_bar hsel hw hs ht hfo hQ (fun listed a' w' inv hd hC' hL => ?_) s _ a _ inv0 hC H
  have e := listed_at_bar inv hd
  have hdl : (l.drop s).length = l.toArray.size - s := by simp
  have h1 := wpAny_of_seq (md := .any) (Q' := Q) (l.drop s) s listed a' w' (fun j => by simp [List.getElem?_drop]) (by rw [hdl, e]; exact hseq) (hL w' hC')
  rwa [hdl] at h1

end

/-! ### The class 'what was there is as it was; there may be more' -/

/-- A world behind 'w0' in which all that was there is as it was. -/
structure More (w0 : World) where
  w : World
  hb : Below w0.heap.size w0 w
instance (w0 : World) : Nonempty (More w0) := ⟨⟨w0, Below.refl _ _⟩⟩

theorem More.cell {w0 : World} (x : More w0) (b o : Nat) (h : b < w0.heap.size) : x.w.cell? ⟨b, o, none⟩ = w0.cell? ⟨b, o, none⟩ := x.hb.cell (p := ⟨b, o, none⟩) h
theorem More.frozen {w0 : World} (x : More w0) (b o : Nat) (h : b < w0.heap.size) : x.w.frozen? ⟨b, o, none⟩ = w0.frozen? ⟨b, o, none⟩ := x.hb.frozen (p := ⟨b, o, none⟩) h
attribute [go_sem] More.cell More.frozen

/-- A callee that makes memory, and no more than that, met in a world of the class. -/
theorem Calls.more {P : Program} {f : FuncId} {args : Array Value} {w0 : World} {x : More w0} {v : Value}
    (h : Calls P f args x.w fun e w' => e = .returned v ∧ Below x.w.heap.size x.w w') : Calls P f args x.w fun e w'' => e = .returned v ∧ ∃ y : More w0, w'' = y.w :=
  h.mono fun _ _ ⟨he, hb⟩ => ⟨he, ⟨_, x.hb.trans (hb.mono x.hb.size)⟩, rfl⟩
/-- A callee that leaves the world alone. -/
theorem Calls.more_same {P : Program} {f : FuncId} {args : Array Value} {w0 : World} {x : More w0} {v : Value}
    (h : Calls P f args x.w fun e w' => e = .returned v ∧ x.w = w') : Calls P f args x.w fun e w'' => e = .returned v ∧ ∃ y : More w0, w'' = y.w :=
  h.mono fun _ _ ⟨he, hb⟩ => ⟨he, x, hb.symm⟩

/-- A region whose operations read, and call what makes memory alone. -/
theorem region_more {P : Program} {id : Nat} {Q : Exit → Act → World → Prop} {a : Act} {w : World} {l : List Oper} (hm : P.follows .mixedOrders = true) (hB : Region.lexB .any l.toArray = true)
    (h : wpQuiet P l.toArray (fun w' => ∃ x : More w, w' = x.w) (fun a' => ∀ w', Below w.heap.size w w' → Q .normal a' w') l a) : (Code.region id l.toArray true).wp P Q a w := by
  refine wp_region_quiet (C := fun w' => ∃ x : More w, w' = x.w) hm hB ⟨⟨w.drew, (Below.refl _ _).drew⟩, rfl⟩ ?_
  have e : (fun a' => ∀ w', (∃ x : More w, w' = x.w) → Q .normal a' w') = fun a' => ∀ w', Below w.heap.size w w' → Q .normal a' w' :=
    funext fun a' => propext ⟨fun k w' hb => k w' ⟨⟨w', hb⟩, rfl⟩, fun k w' ⟨x, hx⟩ => hx ▸ k _ x.hb⟩
  rw [e]
  simpa using h

/-- The same up to operation number s (a store, say), from there on one by one. -/
theorem region_more_bar {P : Program} {id : Nat} {Q : Exit → Act → World → Prop} {a : Act} {w : World} {l : List Oper} (s : Nat) (hm : P.follows .mixedOrders = true) (hB : barB .any l.toArray s = true)
    (hQ : ∀ c a d v w, Q (.panic c) (Act.put a d v) w → Q (.panic c) a w)
    (h : wpQuiet P l.toArray (fun w' => ∃ x : More w, w' = x.w) (fun a' => ∀ w', Below w.heap.size w w' → wpList P l.toArray Q (l.drop s) a' w') (l.take s) a) : (Code.region id l.toArray true).wp P Q a w := by
  refine wp_region_bar (C := fun w' => ∃ x : More w, w' = x.w) s hm hB hQ ⟨⟨w.drew, (Below.refl _ _).drew⟩, rfl⟩ ?_
  have e : (fun a' => ∀ w', (∃ x : More w, w' = x.w) → wpList P l.toArray Q (l.drop s) a' w') = fun a' => ∀ w', Below w.heap.size w w' → wpList P l.toArray Q (l.drop s) a' w' :=
    funext fun a' => propext ⟨fun k w' hb => k w' ⟨⟨w', hb⟩, rfl⟩, fun k w' ⟨x, hx⟩ => hx ▸ k _ x.hb⟩
  rw [e]
  exact h

/-! ### A block of one's own whose cells are known -/

/-- Block b holds the values vs, none of them locked. -/
structure Has (w : World) (b : Nat) (vs : List Value) : Prop where
  cell : ∀ i v, vs[i]? = some v → w.cell? ⟨b, i, none⟩ = some v
  free : ∀ i, i < vs.length → w.frozen? ⟨b, i, none⟩ = false
  lt : b < w.heap.size

theorem Has.new (w : World) (vs : List Value) (t : TypeId) : Has (w.alloc (.cells vs.toArray t)) w.heap.size vs :=
  ⟨fun i v h => by rw [World.cell?_alloc_at _ _ _ _ rfl]; simpa using h, fun i h => World.frozen?_alloc_at _ _ _ _ rfl, by simp⟩

theorem Has.at (w : World) (n : Nat) (vs : List Value) (t : TypeId) (hn : n = w.heap.size) : Has (w.alloc (.cells vs.toArray t)) n vs := hn ▸ Has.new w vs t

theorem Has.below {W w' : World} {b : Nat} {vs : List Value} {B : Nat} (h : Has W b vs) (hb : Below B W w') (hB : b < B) : Has w' b vs :=
  ⟨fun i v hv => (hb.cell (p := ⟨b, i, none⟩) hB).trans (h.cell i v hv), fun i hi => (hb.frozen (p := ⟨b, i, none⟩) hB).trans (h.free i hi), Nat.lt_of_lt_of_le h.lt hb.size⟩
theorem Has.call {W w' : World} {b : Nat} {vs : List Value} (h : Has W b vs) (hb : Below W.heap.size W w') : Has w' b vs := h.below hb h.lt

theorem Has.alloc {w : World} {b : Nat} {vs : List Value} (h : Has w b vs) (o : Obj) : Has (w.alloc o) b vs :=
  h.call ((Below.refl _ _).alloc (Nat.le_refl _) o)
theorem Has.drew {w : World} {b : Nat} {vs : List Value} (h : Has w b vs) : Has w.drew b vs := ⟨h.cell, h.free, h.lt⟩

theorem Has.put {w : World} {b : Nat} {vs : List Value} (h : Has w b vs) (i : Nat) (u : Value) : Has (w.setCell ⟨b, i, none⟩ u) b (vs.set i u) := by
  refine ⟨fun j v hj => ?_, fun j hj => ?_, by simpa [World.setCell] using h.lt⟩
  · by_cases hij : i = j
    · subst hij
      rw [List.getElem?_set_self'] at hj
      cases hv : vs[i]? with
      | none => rw [hv] at hj; cases hj
      | some x =>
        rw [hv] at hj
        simp at hj
        subst hj
        exact World.cell?_setCell_same _ _ _ (h.cell i x hv)
    · rw [List.getElem?_set_ne hij] at hj
      rw [World.cell?_setCell_other _ _ _ _ (by intro e; injection e with e1 e2; exact hij e2)]
      exact h.cell j v hj
  · rw [World.frozen?_setCell]
    exact h.free j (by simpa using hj)

theorem Has.other {w : World} {b : Nat} {vs : List Value} (h : Has w b vs) {a : Addr} (ha : a.block ≠ b) (u : Value) : Has (w.setCell a u) b vs := by
  refine ⟨fun j v hj => ?_, fun j hj => ?_, by simpa [World.setCell] using h.lt⟩
  · rw [World.cell?_setCell_other _ _ _ _ (by intro e; rw [e] at ha; exact ha rfl)]
    exact h.cell j v hj
  · rw [World.frozen?_setCell]
    exact h.free j hj

end Go.Proofs.YtbpopmbabckojaaGreatDoor.Reg
end

/- Small words used by all walks of a seat. -/
section
namespace Go.Proofs.YtbpopmbabckojaaGreatDoor.Sp
open Go.RowKit

theorem bAlloc {B : Nat} {a w : World} (hB : B ≤ w.heap.size) (h : Below B a w) (o : Obj) : Below B a (w.alloc o) := h.alloc hB o
theorem bSet {B : Nat} {a w : World} {p : Addr} (hp : B ≤ p.block) (h : Below B a w) (u : Value) : Below B a (w.setCell p u) := h.setCell hp u
theorem bcell {W w1 : World} (hb : Below W.heap.size W w1) : (∀ b o, b < W.heap.size → w1.cell? ⟨b, o, none⟩ = W.cell? ⟨b, o, none⟩) ∧ (∀ b o, b < W.heap.size → w1.frozen? ⟨b, o, none⟩ = W.frozen? ⟨b, o, none⟩) ∧ W.heap.size ≤ w1.heap.size :=
  ⟨fun b o h => hb.cell (p := ⟨b, o, none⟩) h, fun b o h => hb.frozen (p := ⟨b, o, none⟩) h, hb.size⟩
theorem ret_int {k : IntKind} {a b : Int} (h : a = b) : Ending.returned (.int k a) = .returned (.int k b) := by rw [h]
theorem ret_bool {a b : Bool} (h : a = b) : Ending.returned (.bool a) = .returned (.bool b) := by rw [h]
theorem ret_str {a b : List UInt8} (h : a = b) : Ending.returned (.string ⟨a.toArray⟩) = .returned (.string ⟨b.toArray⟩) := by rw [h]

theorem dec_t {p : Prop} [Decidable p] (h : p) : true = decide p := (decide_eq_true h).symm
theorem dec_f {p : Prop} [Decidable p] (h : ¬ p) : false = decide p := (decide_eq_false h).symm
theorem dec_d {p q : Prop} [Decidable p] [Decidable q] (h : p ↔ q) : decide p = decide q := by simp [h]
theorem dec_e {a b : Int} {q : Prop} [Decidable q] (h : a = b ↔ q) : (a == b) = decide q := by rw [Bool.eq_iff_iff]; simp [h]
theorem dec_n {a b : Int} {q : Prop} [Decidable q] (h : a ≠ b ↔ q) : (a != b) = decide q := by rw [Bool.eq_iff_iff, bne_iff_ne, decide_eq_true_iff]; exact h
theorem dec_nd {p q : Prop} [Decidable p] [Decidable q] (h : ¬ p ↔ q) : (!decide p) = decide q := by rw [Bool.eq_iff_iff]; simp [h]
theorem drop_cons (s : ByteArray) (k : Nat) (h : k < s.size) : s.data.toList.drop k = s[k] :: s.data.toList.drop (k + 1) := by
  rw [List.drop_eq_getElem_cons (by simpa using h)]; rfl
theorem of_list (l : List UInt8) : ∃ x : ByteArray, x.data.toList = l := ⟨⟨l.toArray⟩, rfl⟩
theorem size_list {x : ByteArray} {l : List UInt8} (h : x.data.toList = l) : x.size = l.length := by rw [← h]; simp
theorem ba_eq {x : ByteArray} {l : List UInt8} (h : x.data.toList = l) : x = ⟨l.toArray⟩ := by rw [← h]
theorem app_data (x y : ByteArray) : (x ++ y).data.toList = x.data.toList ++ y.data.toList := by
  rw [ByteArray.data_append]; simp
theorem beq_cast (a b : Nat) : ((a : Int) == (b : Int)) = decide (a = b) := by rw [Bool.eq_iff_iff, beq_iff_eq, decide_eq_true_iff]; omega
theorem byte_all (p : UInt8 → Bool) (h : ((List.range 256).all fun n => p (UInt8.ofNat n)) = true) (c : UInt8) : p c = true := by
  rw [List.all_eq_true] at h
  have := h c.toNat (List.mem_range.2 c.toNat_lt)
  rwa [UInt8.ofNat_toNat] at this
theorem hide {p : Prop} (h : p) : Hid p := h
theorem unhide {p : Prop} (h : Hid p) : p := h
theorem empty_case (s : ByteArray) : (s.toList = [] ∧ s.data.toList = []) ∨ (s.toList.isEmpty = false ∧ s.data.toList ≠ []) := by
  rw [Lib.toList_data]
  cases s.data.toList with
  | nil => exact .inl ⟨rfl, rfl⟩
  | cons c t => exact .inr ⟨rfl, by simp⟩
theorem get_bang (s : ByteArray) (i : Nat) (h : i < s.size) : s.get! i = s[i] := by
  have h' : i < s.data.size := h
  unfold ByteArray.get!
  show s.data[i]! = s.data[i]
  exact getElem!_pos s.data i h'
end Go.Proofs.YtbpopmbabckojaaGreatDoor.Sp
end
