/- Lemmas for the statement's proof, several texts in one: Reg2, B0, Mem, B2, Ms, B3, B4. -/
import Derived.Deep.Quiet
import Derived.Deep.QuietTactic
import Derived.BigQuiet
import Derived.StillTail
import Derived.Below
import Derived.WalkKit
import Derived.WalkSmall
import Derived.Test.YtbpopmbabckojaaGreatDoorRows
import Derived.Test.YtbpopmbabckojaaGreatDoorShelf
import Derived.WalkSpells
import Derived.WalkLawsBesides
import Derived.BigGuardPart
import Derived.Outline
import Derived.Lib.Hide
import Derived.Handy
import Derived.Deep.MidRow
import Derived.Deep.DeepCutAuto
import Derived.Deep.LoopGhost
import Derived.IntWalk
import Derived.Lib.IndexBytes
import Derived.Lib.ConvBytes
import Derived.Laws.BytesArg
/- Regions that draw their order, two laws of my own: (1) every operation reads or calls what only makes new memory: one walk in the text's order serves all orders; (2) the same ahead of one operation of whatever kind (a store into what was read), with plain copies around it that may come at any time. -/
namespace Go.Proofs.YtbpopmbabckojaaGreatDoor.Reg
open Go.RowKit Go

section
variable {P : Program} {ops : Array Oper} {md : Region.Mode} {C : World → Prop} {s : Nat}

/-- Plain copies: what they give hangs on no world. -/
def plainKind : Op → Bool
  | .move _ | .assign _ | .extract _ _ => true
  | _ => false

theorem plain_run {o : Oper} (hp : plainKind o.op = true) {ρ : Operand → Value} {u : Value} {w w1 : World} (h : (execOp ρ o).run P w = .ok (.value u) w1) (w' : World) :
    (execOp ρ o).run P w' = .ok (.value u) w' := by
  obtain ⟨dst, op, type, pos, after, guard⟩ := o
  cases op <;> simp only [plainKind, Bool.false_eq_true] at hp
  case move x => simp [execOp, pure, Sem.run] at h ⊢; exact h.1
  case assign x => simp [execOp, pure, Sem.run] at h ⊢; exact h.1
  case extract t i =>
    simp only [execOp] at h ⊢
    generalize ρ t = tv at h ⊢
    unfold Instr.extract at h ⊢
    cases tv <;> simp [go_sem] at h ⊢
    rename_i vs
    cases hv : vs[i]? <;> simp [hv, go_sem] at h ⊢
    exact h.1

theorem plain_only {o : Oper} (hp : plainKind o.op = true) {ρ : Operand → Value} {n : Next} {w w1 : World} (h : (execOp ρ o).run P w = .ok n w1) : ∃ u, n = .value u := by
  obtain ⟨dst, op, type, pos, after, guard⟩ := o
  cases op <;> simp only [plainKind, Bool.false_eq_true] at hp
  case move x => simp [execOp, pure, Sem.run] at h; exact ⟨_, h.1.symm⟩
  case assign x => simp [execOp, pure, Sem.run] at h; exact ⟨_, h.1.symm⟩
  case extract t i =>
    simp only [execOp] at h
    generalize ρ t = tv at h
    unfold Instr.extract at h
    cases tv <;> simp [go_sem] at h
    rename_i vs
    cases hv : vs[i]? <;> simp [hv, go_sem] at h
    exact ⟨_, h.1.symm⟩

/-- Every operation ahead of number s has come up. -/
def HeadDone (s : Nat) (listed : Array Bool) : Prop := ∀ k, k < s → listed.getD k false = true

/-- Whatever order is picked among the operations ahead of number s. -/
def wpBar (P : Program) (md : Region.Mode) (ops : Array Oper) (C : World → Prop) (s : Nat) (L : Act → Prop) : Nat → Array Bool → Act → Prop
  | 0, listed, a => HeadDone s listed ∧ L a
  | f + 1, listed, a => (∃ k, k < s ∧ listed.getD k false = false) ∧
      ∀ i ∈ Region.ready md ops listed, i ≠ s → i < s ∧ qOp P ops C i (wpBar P md ops C s L f (listed.setIfInBounds i true)) a

/-- What holds of the operations that have come up while number s has not: none from s on. -/
structure Ahead (ops : Array Oper) (s : Nat) (listed : Array Bool) : Prop where
  size : listed.size = ops.size
  late : ∀ t, s ≤ t → t < ops.size → listed.getD t true = false

theorem Ahead.set {listed : Array Bool} {i : Nat} (h : Ahead ops s listed) (hi : i < s) : Ahead ops s (listed.setIfInBounds i true) :=
  ⟨by simp [h.size], fun t ht ht' => by rw [getD_set_ne true (by omega)]; exact h.late t ht ht'⟩

/-- Whoever stands behind number s waits for it. -/
def AllWait (md : Region.Mode) (ops : Array Oper) (s : Nat) : Prop := ∀ t, s < t → t < ops.size → Region.waitsFor md ops t s = true

theorem not_late {listed : Array Bool} (hw : AllWait md ops s) (hs : s < ops.size) (inv : Ahead ops s listed) {j : Nat} (hj : j ∈ Region.ready md ops listed) (hne : j ≠ s) : j < s := by
  rcases Nat.lt_or_ge j s with h | h
  · exact h
  obtain ⟨oj, hoj, e, he, hb, hon⟩ := Region.waitsFor_spec (hw j (by omega) (by obtain ⟨_, o, ho, _⟩ := mem_ready.1 hj; exact (Array.getElem?_eq_some_iff.1 ho).1))
  obtain ⟨_, oj', hoj', hall⟩ := mem_ready.1 hj
  obtain rfl : oj = oj' := Option.some.inj (hoj.symm.trans hoj')
  have h1 := hall e he hb
  rw [hon, getD_both (inv.late s (Nat.le_refl _) hs)] at h1
  cases h1

theorem wpBar_first {L : Act → Prop} {i : Nat} {oi : Oper} {v : Value} (hi : ops[i]? = some oi) (hsel : ∀ (j : Nat) (o : Oper) cs b, ops[j]? = some o → o.op ≠ .select cs b)
    (hw : AllWait md ops s) (hs : s < ops.size) (his : i < s) :
    ∀ (f : Nat) (listed : Array Bool) (a : Act), Ahead ops s listed →
      (∀ j oj, ops[j]? = some oj → j ≠ i → listed.getD j true = false → (∀ e ∈ oj.after, Region.binds md e = true → e.on ≠ i) → oi.apart ops oj = true) →
      i ∈ Region.ready md ops listed → YieldsIn P ops C oi v a →
      wpBar P md ops C s L f (listed.setIfInBounds i true) (a.put oi.dst v) → wpBar P md ops C s L (f + 1) listed a := by
  intro f
  induction f with
  | zero =>
    intro listed a inv _ hr hy H
    have hun := (mem_ready.1 hr).1
    refine ⟨⟨i, his, getD_both hun⟩, fun j hj hjs => ?_⟩
    have hlt := not_late hw hs inv hj hjs
    refine ⟨hlt, ?_⟩
    by_cases hji : j = i
    · subst hji; exact hy.qOp hi H
    · have h1 := H.1 j hlt
      rw [getD_set_ne false (Ne.symm hji), getD_both (mem_ready.1 hj).1] at h1
      cases h1
  | succ f ih =>
    intro listed a inv hfree hr hy H
    have hun := (mem_ready.1 hr).1
    refine ⟨⟨i, his, getD_both hun⟩, fun j hj hjs => ?_⟩
    have hlt := not_late hw hs inv hj hjs
    refine ⟨hlt, ?_⟩
    by_cases hji : j = i
    · subst hji; exact hy.qOp hi H
    · have h1 := (H.2 j (ready_mono hj hji) hjs).2
      obtain ⟨hjun, oj, hoj, hall⟩ := mem_ready.1 hj
      have hnot : ∀ e ∈ oj.after, Region.binds md e = true → e.on ≠ i := fun e he hb heq => by
        have h2 := hall e he hb
        rw [heq, getD_both hun] at h2
        cases h2
      have h2 := qOp_put hoj (hfree j oj hoj hji hjun hnot) (fun cs b => hsel i oi cs b hi) (fun cs b => hsel j oj cs b hoj) hy h1
      refine qOp_mono (fun a' h3 => ih (listed.setIfInBounds j true) a' (inv.set hlt) (fun k ok hk hki hku hkn => ?_) (ready_mono hr (Ne.symm hji)) h3.1 ?_) h2
      · refine hfree k ok hk hki ?_ hkn
        by_cases hjk : j = k
        · subst hjk; exact hjun
        · rw [getD_set_ne true hjk] at hku; exact hku
      · rw [Array.setIfInBounds_comm _ _ hji]
        exact h3.2

/-- The text's order is one that may be picked, and each operation may be taken first at its place. -/
def headB (md : Region.Mode) (ops : Array Oper) : Nat → Nat → Array Bool → Bool
  | 0, _, _ => true
  | n + 1, k, listed => (Region.ready md ops listed).contains k && Region.free md ops listed k && headB md ops n (k + 1) (listed.setIfInBounds k true)

theorem wpBar_lex {L : Act → Prop} (hsel : Region.noSelect ops = true) (hw : AllWait md ops s) (hs : s < ops.size) :
    ∀ (l : List Oper) (k : Nat) (listed : Array Bool) (a : Act), (∀ j, j < l.length → l[j]? = ops[k + j]?) → k + l.length = s → Ahead ops s listed → HeadDone k listed →
      headB md ops l.length k listed = true → wpQuiet P ops C L l a → wpBar P md ops C s L l.length listed a
  | [], k, listed, a, _, hk, _, hd, _, h => by
    obtain rfl : k = s := by simpa using hk
    exact ⟨hd, h⟩
  | o :: l, k, listed, a, hl, hk, inv, hd, hB, h => by
    have h0 : ops[k]? = some o := by simpa using (hl 0 (by simp)).symm
    have hks : k < s := by simp only [List.length_cons] at hk; omega
    simp only [List.length_cons, headB, Bool.and_eq_true] at hB
    obtain ⟨⟨hr, hf⟩, hB'⟩ := hB
    have hq : qOp P ops C k (wpQuiet P ops C L l) a := by unfold qOp; simp only [h0]; exact h
    obtain ⟨v, hy, hK⟩ := yieldsIn_of_qOp h0 hq
    refine wpBar_first h0 (Region.noSelect_spec hsel) hw hs hks l.length listed a inv (Region.free_spec h0 hf) (by simpa using hr) hy ?_
    refine wpBar_lex hsel hw hs l (k + 1) _ _ (fun j hj => by have := hl (j + 1) (by simp; omega); simpa [Nat.add_assoc, Nat.add_comm 1 j] using this)
      (by simp only [List.length_cons] at hk; omega) (inv.set hks) (fun t ht => ?_) hB' hK
    by_cases htk : k = t
    · subst htk
      have : k < listed.size := by rw [inv.size]; omega
      simp [this]
    · rw [getD_set_ne false htk]; exact hd t (by omega)

/-- Whoever an operation waits for stands ahead of it. -/
def Topo (md : Region.Mode) (ops : Array Oper) : Prop := ∀ (i : Nat) o, ops[i]? = some o → ∀ e ∈ o.after, Region.binds md e = true → e.on < i

/-- The first operation that has not come up may come up. -/
theorem least_ready {listed : Array Bool} (ht : Topo md ops) (inv : listed.size = ops.size) : ∀ (k : Nat), k < ops.size → listed.getD k false = false →
    ∃ j, j ≤ k ∧ j ∈ Region.ready md ops listed := by
  intro k
  induction k using Nat.strongRecOn with
  | _ k ih =>
    intro hk hun
    have hgt : listed.getD k true = false := getD_in (by omega) hun
    obtain ⟨o, ho⟩ : ∃ o, ops[k]? = some o := ⟨ops[k], by simp [hk]⟩
    by_cases hall : ∀ e ∈ o.after, Region.binds md e = true → listed.getD e.on false = true
    · exact ⟨k, Nat.le_refl _, mem_ready.2 ⟨hgt, o, ho, hall⟩⟩
    · simp only [Classical.not_forall] at hall
      obtain ⟨e, he, hb, hf⟩ := hall
      have hlt := ht k o ho e he hb
      obtain ⟨j, hj, hr⟩ := ih e.on hlt (by omega) (by simpa using hf)
      exact ⟨j, by omega, hr⟩

/-- Each operation ahead of number s: s waits for it, or it is a plain copy, apart from all that neither waits for it nor it for them. -/
def FreeOnes (md : Region.Mode) (ops : Array Oper) (s : Nat) : Prop := ∀ (i : Nat) oi, i < s → ops[i]? = some oi →
  Region.waitsFor md ops s i = true ∨
  (plainKind oi.op = true ∧ ∀ (j : Nat) oj, ops[j]? = some oj → j ≠ i → Region.waitsFor md ops j i = true ∨ Region.waitsFor md ops i j = true ∨ oi.apart ops oj = true)

theorem plain_yields {o : Oper} {v : Value} {a : Act} (hp : plainKind o.op = true) {w : World} (hC : C w) (h : YieldsIn P ops C o v a) : Yields P ops o v a := by
  rcases h with ⟨hw, hq⟩ | h
  · refine .inl ⟨hw, fun w' => ?_⟩
    have h1 := hq w hC
    unfold Oper.quietAt at h1
    generalize hr : (execOp a.eval o).run P w = r at h1
    cases r with
    | ok n w1 =>
      cases n <;> simp only [Oper.quietUpon] at h1
      case value u => obtain ⟨_, rfl⟩ := h1; exact plain_run hp hr w'
      case skip => obtain ⟨u, hu⟩ := plain_only hp hr; cases hu
      case enter f args => obtain ⟨u, hu⟩ := plain_only hp hr; cases hu
    | halt x w1 => simp only [Oper.quietUpon] at h1
  · exact .inr h

theorem wpAny_of_bar {L : Act → Prop} {Q : Exit → Act → World → Prop} {g : Nat} (hsel : Region.noSelect ops = true) (hw : AllWait md ops s) (hs : s < ops.size) (ht : Topo md ops) (hfo : FreeOnes md ops s)
    (hQ : ∀ c a d v w, Q (.panic c) (Act.put a d v) w → Q (.panic c) a w)
    (hL : ∀ listed a w, Ahead ops s listed → HeadDone s listed → C w → L a → wpAny P md ops Q g listed a w) :
    ∀ (f : Nat) (listed : Array Bool) (a : Act) (w : World), Ahead ops s listed → C w → wpBar P md ops C s L f listed a → wpAny P md ops Q (f + g) listed a w
  | 0, listed, a, w, inv, hC, h => by rw [Nat.zero_add]; exact hL _ _ _ inv h.1 hC h.2
  | f + 1, listed, a, w, inv, hC, h => by
    rw [show f + 1 + g = (f + g) + 1 by omega]
    obtain ⟨⟨k, hks, hun⟩, hall⟩ := h
    obtain ⟨j, hjk, hjr⟩ := least_ready ht inv.size k (by omega) hun
    have hjs : j ≠ s := by omega
    by_cases hsr : s ∈ Region.ready md ops listed
    · -- number s may come up: so the first that has not is a plain copy: it is taken first
      obtain ⟨hjun, oj, hoj, hdeps⟩ := mem_ready.1 hjr
      have hplain : plainKind oj.op = true ∧ ∀ (k : Nat) ok, ops[k]? = some ok → k ≠ j → Region.waitsFor md ops k j = true ∨ Region.waitsFor md ops j k = true ∨ oj.apart ops ok = true := by
        rcases hfo j oj (by omega) hoj with h1 | h1
        · obtain ⟨os, hos, e, he, hb, hon⟩ := Region.waitsFor_spec h1
          obtain ⟨_, os', hos', hd⟩ := mem_ready.1 hsr
          obtain rfl : os = os' := Option.some.inj (hos.symm.trans hos')
          have h2 := hd e he hb
          rw [hon, getD_both hjun] at h2
          cases h2
        · exact h1
      obtain ⟨v, hy, hK⟩ := yieldsIn_of_qOp hoj (hall j hjr hjs).2
      refine wpAny_first hoj (Region.noSelect_spec hsel) (fun c a w => hQ c a _ _ w) (f + g) listed a w (fun k ok hk hkj hku hkn => ?_) hjr (plain_yields hplain.1 hC hy)
        (wpAny_of_bar hsel hw hs ht hfo hQ hL f _ _ w (inv.set (by omega)) hC hK)
      rcases hplain.2 k ok hk hkj with h1 | h1 | h1
      · obtain ⟨ok', hok', e, he, hb, hon⟩ := Region.waitsFor_spec h1
        obtain rfl : ok = ok' := Option.some.inj (hk.symm.trans hok')
        exact absurd hon (hkn e he hb)
      · obtain ⟨oj', hoj', e, he, hb, hon⟩ := Region.waitsFor_spec h1
        obtain rfl : oj = oj' := Option.some.inj (hoj.symm.trans hoj')
        have h2 := hdeps e he hb
        rw [hon, getD_both hku] at h2
        cases h2
      · exact h1
    · refine ⟨fun h0 => (by rw [h0] at hjr; cases hjr), fun i hi => ?_⟩
      have his : i ≠ s := fun e => hsr (e ▸ hi)
      obtain ⟨hlt, hq⟩ := hall i hi his
      exact wpOp_of_qOp hC (fun a' w' hC' hK => wpAny_of_bar hsel hw hs ht hfo hQ hL f _ a' w' (inv.set hlt) hC' hK) hq

/-- What the kernel reckons of a region, s the place of the one operation. -/
def barB (md : Region.Mode) (ops : Array Oper) (s : Nat) : Bool :=
  Region.noSelect ops && decide (s < ops.size) &&
  (List.range ops.size).all (fun i => match ops[i]? with | some o => o.after.all (fun e => !Region.binds md e || decide (e.on < i)) | none => true) &&
  (List.range ops.size).all (fun t => decide (t ≤ s) || Region.waitsFor md ops t s) &&
  (List.range s).all (fun i => Region.waitsFor md ops s i || (match ops[i]? with
    | some oi => plainKind oi.op && (List.range ops.size).all (fun j => j == i || Region.waitsFor md ops j i || Region.waitsFor md ops i j || (match ops[j]? with | some oj => oi.apart ops oj | none => true))
    | none => true)) &&
  headB md ops s 0 (Array.replicate ops.size false) &&
  Region.seqB md ops (ops.size - s) s (Array.ofFn (n := ops.size) fun i => decide (i.val < s))

theorem listed_at_bar {listed : Array Bool} (inv : Ahead ops s listed) (hd : HeadDone s listed) : listed = Array.ofFn (n := ops.size) fun i => decide (i.val < s) := by
  apply Array.ext
  · simp [inv.size]
  · intro i h1 h2
    rw [Array.getElem_ofFn]
    have hsz : i < ops.size := by rw [← inv.size]; exact h1
    by_cases his : i < s
    · have := hd i his
      simp [h1] at this
      simp [his, this]
    · have := inv.late i (by omega) hsz
      simp [h1] at this
      simp [his, this]

/-- ONE WALK OF THE TEXT's ORDER UP TO NUMBER s, in every world of the class; from number s on the operations one by one. -/
theorem wp_region_bar {id : Nat} {Q : Exit → Act → World → Prop} {a : Act} {w : World} {l : List Oper} (s : Nat) (hm : P.follows .mixedOrders = true) (hB : barB .any l.toArray s = true)
    (hQ : ∀ c a d v w, Q (.panic c) (Act.put a d v) w → Q (.panic c) a w) (hC : C { w with drawn := w.drawn + 1 })
    (h : wpQuiet P l.toArray C (fun a' => ∀ w', C w' → wpList P l.toArray Q (l.drop s) a' w') (l.take s) a) : (Code.region id l.toArray true).wp P Q a w := by
  simp only [barB, Bool.and_eq_true, decide_eq_true_eq] at hB
  obtain ⟨⟨⟨⟨⟨⟨hsel, hs⟩, htopo⟩, hwait⟩, hfree⟩, hhead⟩, hseq⟩ := hB
  have hn : s < l.length := by simpa using hs
  have htl : (l.take s).length = s := by simp; omega
  have ht : Topo .any l.toArray := fun i o ho e he hb => by
    have h1 := List.all_eq_true.1 htopo i (List.mem_range.2 (Array.getElem?_eq_some_iff.1 ho).1)
    simp only [ho] at h1
    have h2 := Array.all_eq_true_iff_forall_mem.1 h1 e he
    simpa [hb] using h2
  have hw : AllWait .any l.toArray s := fun t hst hlt => by
    have h1 := List.all_eq_true.1 hwait t (List.mem_range.2 hlt)
    simp only [Bool.or_eq_true, decide_eq_true_eq] at h1
    rcases h1 with h1 | h1
    · omega
    · exact h1
  have hfo : FreeOnes .any l.toArray s := fun i oi hi hoi => by
    have h1 := List.all_eq_true.1 hfree i (List.mem_range.2 hi)
    simp only [hoi, Bool.or_eq_true, Bool.and_eq_true] at h1
    rcases h1 with h1 | ⟨h1, h2⟩
    · exact .inl h1
    · refine .inr ⟨h1, fun j oj hoj hji => ?_⟩
      have h3 := List.all_eq_true.1 h2 j (List.mem_range.2 (Array.getElem?_eq_some_iff.1 hoj).1)
      simp only [hoj, Bool.or_eq_true, beq_iff_eq, hji, false_or] at h3
      rcases h3 with (h3 | h3) | h3
      · exact .inl h3
      · exact .inr (.inl h3)
      · exact .inr (.inr h3)
  have inv0 : Ahead l.toArray s (Array.replicate l.toArray.size false) := ⟨by simp, fun t _ ht => getD_in (by simpa using ht) (getD_replicate_false _ _)⟩
  have H := wpBar_lex (md := .any) (C := C) hsel hw hs (l.take s) 0 _ a (fun j hj => by
    have hj' : j < s := by rw [htl] at hj; exact hj
    simp [hj']) (by simpa using htl) inv0 (fun k hk => absurd hk (Nat.not_lt_zero _)) (by rw [htl]; exact hhead) h
  rw [htl] at H
  refine wp_region_any hm ?_
  have hg : s + (l.toArray.size - s) = l.toArray.size := by omega
  rw [← hg]
  have hg' : (Array.replicate (s + (l.toArray.size - s)) false) = Array.replicate l.toArray.size false := by rw [hg]
  rw [hg']
  refine wpAny_of_bar hsel hw hs ht hfo hQ (fun listed a' w' inv hd hC' hL => ?_) s _ a _ inv0 hC H
  have e := listed_at_bar inv hd
  have hdl : (l.drop s).length = l.toArray.size - s := by simp
  have h1 := wpAny_of_seq (md := .any) (Q' := Q) (l.drop s) s listed a' w' (fun j => by simp [List.getElem?_drop]) (by rw [hdl, e]; exact hseq) (hL w' hC')
  rwa [hdl] at h1

end

/-! ### The class 'what was there is as it was; there may be more' -/

/-- A world behind 'w0' in which all that was there is as it was. -/
structure More (w0 : World) where
  w : World
  hb : Below w0.heap.size w0 w
instance (w0 : World) : Nonempty (More w0) := ⟨⟨w0, Below.refl _ _⟩⟩

theorem More.cell {w0 : World} (x : More w0) (b o : Nat) (h : b < w0.heap.size) : x.w.cell? ⟨b, o, none⟩ = w0.cell? ⟨b, o, none⟩ := x.hb.cell (p := ⟨b, o, none⟩) h
theorem More.frozen {w0 : World} (x : More w0) (b o : Nat) (h : b < w0.heap.size) : x.w.frozen? ⟨b, o, none⟩ = w0.frozen? ⟨b, o, none⟩ := x.hb.frozen (p := ⟨b, o, none⟩) h
attribute [go_sem] More.cell More.frozen

/-- A callee that makes memory, and no more than that, met in a world of the class. -/
theorem Calls.more {P : Program} {f : FuncId} {args : Array Value} {w0 : World} {x : More w0} {v : Value}
    (h : Calls P f args x.w fun e w' => e = .returned v ∧ Below x.w.heap.size x.w w') : Calls P f args x.w fun e w'' => e = .returned v ∧ ∃ y : More w0, w'' = y.w :=
  h.mono fun _ _ ⟨he, hb⟩ => ⟨he, ⟨_, x.hb.trans (hb.mono x.hb.size)⟩, rfl⟩
/-- A callee that leaves the world alone. -/
theorem Calls.more_same {P : Program} {f : FuncId} {args : Array Value} {w0 : World} {x : More w0} {v : Value}
    (h : Calls P f args x.w fun e w' => e = .returned v ∧ x.w = w') : Calls P f args x.w fun e w'' => e = .returned v ∧ ∃ y : More w0, w'' = y.w :=
  h.mono fun _ _ ⟨he, hb⟩ => ⟨he, x, hb.symm⟩

/-- A region whose operations read, and call what makes memory alone. -/
theorem region_more {P : Program} {id : Nat} {Q : Exit → Act → World → Prop} {a : Act} {w : World} {l : List Oper} (hm : P.follows .mixedOrders = true) (hB : Region.lexB .any l.toArray = true)
    (h : wpQuiet P l.toArray (fun w' => ∃ x : More w, w' = x.w) (fun a' => ∀ w', Below w.heap.size w w' → Q .normal a' w') l a) : (Code.region id l.toArray true).wp P Q a w := by
  refine wp_region_quiet (C := fun w' => ∃ x : More w, w' = x.w) hm hB ⟨⟨w.drew, (Below.refl _ _).drew⟩, rfl⟩ ?_
  have e : (fun a' => ∀ w', (∃ x : More w, w' = x.w) → Q .normal a' w') = fun a' => ∀ w', Below w.heap.size w w' → Q .normal a' w' :=
    funext fun a' => propext ⟨fun k w' hb => k w' ⟨⟨w', hb⟩, rfl⟩, fun k w' ⟨x, hx⟩ => hx ▸ k _ x.hb⟩
  rw [e]
  simpa using h

/-- The same up to operation number s (a store, say), from there on one by one. -/
theorem region_more_bar {P : Program} {id : Nat} {Q : Exit → Act → World → Prop} {a : Act} {w : World} {l : List Oper} (s : Nat) (hm : P.follows .mixedOrders = true) (hB : barB .any l.toArray s = true)
    (hQ : ∀ c a d v w, Q (.panic c) (Act.put a d v) w → Q (.panic c) a w)
    (h : wpQuiet P l.toArray (fun w' => ∃ x : More w, w' = x.w) (fun a' => ∀ w', Below w.heap.size w w' → wpList P l.toArray Q (l.drop s) a' w') (l.take s) a) : (Code.region id l.toArray true).wp P Q a w := by
  refine wp_region_bar (C := fun w' => ∃ x : More w, w' = x.w) s hm hB hQ ⟨⟨w.drew, (Below.refl _ _).drew⟩, rfl⟩ ?_
  have e : (fun a' => ∀ w', (∃ x : More w, w' = x.w) → wpList P l.toArray Q (l.drop s) a' w') = fun a' => ∀ w', Below w.heap.size w w' → wpList P l.toArray Q (l.drop s) a' w' :=
    funext fun a' => propext ⟨fun k w' hb => k w' ⟨⟨w', hb⟩, rfl⟩, fun k w' ⟨x, hx⟩ => hx ▸ k _ x.hb⟩
  rw [e]
  exact h

/-! ### A block of one's own whose cells are known -/

/-- Block b holds the values vs, none of them locked. -/
structure Has (w : World) (b : Nat) (vs : List Value) : Prop where
  cell : ∀ i v, vs[i]? = some v → w.cell? ⟨b, i, none⟩ = some v
  free : ∀ i, i < vs.length → w.frozen? ⟨b, i, none⟩ = false
  lt : b < w.heap.size

theorem Has.new (w : World) (vs : List Value) (t : TypeId) : Has (w.alloc (.cells vs.toArray t)) w.heap.size vs :=
  ⟨fun i v h => by rw [World.cell?_alloc_at _ _ _ _ rfl]; simpa using h, fun i h => World.frozen?_alloc_at _ _ _ _ rfl, by simp⟩

theorem Has.at (w : World) (n : Nat) (vs : List Value) (t : TypeId) (hn : n = w.heap.size) : Has (w.alloc (.cells vs.toArray t)) n vs := hn ▸ Has.new w vs t

theorem Has.below {W w' : World} {b : Nat} {vs : List Value} {B : Nat} (h : Has W b vs) (hb : Below B W w') (hB : b < B) : Has w' b vs :=
  ⟨fun i v hv => (hb.cell (p := ⟨b, i, none⟩) hB).trans (h.cell i v hv), fun i hi => (hb.frozen (p := ⟨b, i, none⟩) hB).trans (h.free i hi), Nat.lt_of_lt_of_le h.lt hb.size⟩
theorem Has.call {W w' : World} {b : Nat} {vs : List Value} (h : Has W b vs) (hb : Below W.heap.size W w') : Has w' b vs := h.below hb h.lt

theorem Has.alloc {w : World} {b : Nat} {vs : List Value} (h : Has w b vs) (o : Obj) : Has (w.alloc o) b vs :=
  h.call ((Below.refl _ _).alloc (Nat.le_refl _) o)
theorem Has.drew {w : World} {b : Nat} {vs : List Value} (h : Has w b vs) : Has w.drew b vs := ⟨h.cell, h.free, h.lt⟩

theorem Has.put {w : World} {b : Nat} {vs : List Value} (h : Has w b vs) (i : Nat) (u : Value) : Has (w.setCell ⟨b, i, none⟩ u) b (vs.set i u) := by
  refine ⟨fun j v hj => ?_, fun j hj => ?_, by simpa [World.setCell] using h.lt⟩
  · by_cases hij : i = j
    · subst hij
      rw [List.getElem?_set_self'] at hj
      cases hv : vs[i]? with
      | none => rw [hv] at hj; cases hj
      | some x =>
        rw [hv] at hj
        simp at hj
        subst hj
        exact World.cell?_setCell_same _ _ _ (h.cell i x hv)
    · rw [List.getElem?_set_ne hij] at hj
      rw [World.cell?_setCell_other _ _ _ _ (by intro e; injection e with e1 e2; exact hij e2)]
      exact h.cell j v hj
  · rw [World.frozen?_setCell]
    exact h.free j (by simpa using hj)

theorem Has.other {w : World} {b : Nat} {vs : List Value} (h : Has w b vs) {a : Addr} (ha : a.block ≠ b) (u : Value) : Has (w.setCell a u) b vs := by
  refine ⟨fun j v hj => ?_, fun j hj => ?_, by simpa [World.setCell] using h.lt⟩
  · rw [World.cell?_setCell_other _ _ _ _ (by intro e; rw [e] at ha; exact ha rfl)]
    exact h.cell j v hj
  · rw [World.frozen?_setCell]
    exact h.free j hj

end Go.Proofs.YtbpopmbabckojaaGreatDoor.Reg

/- Small words used by all walks of a seat. -/
namespace Go.Proofs.YtbpopmbabckojaaGreatDoor.Sp
open Go.RowKit

theorem bAlloc {B : Nat} {a w : World} (hB : B ≤ w.heap.size) (h : Below B a w) (o : Obj) : Below B a (w.alloc o) := h.alloc hB o
theorem bSet {B : Nat} {a w : World} {p : Addr} (hp : B ≤ p.block) (h : Below B a w) (u : Value) : Below B a (w.setCell p u) := h.setCell hp u
theorem bcell {W w1 : World} (hb : Below W.heap.size W w1) : (∀ b o, b < W.heap.size → w1.cell? ⟨b, o, none⟩ = W.cell? ⟨b, o, none⟩) ∧ (∀ b o, b < W.heap.size → w1.frozen? ⟨b, o, none⟩ = W.frozen? ⟨b, o, none⟩) ∧ W.heap.size ≤ w1.heap.size :=
  ⟨fun b o h => hb.cell (p := ⟨b, o, none⟩) h, fun b o h => hb.frozen (p := ⟨b, o, none⟩) h, hb.size⟩
theorem ret_int {k : IntKind} {a b : Int} (h : a = b) : Ending.returned (.int k a) = .returned (.int k b) := by rw [h]
theorem ret_bool {a b : Bool} (h : a = b) : Ending.returned (.bool a) = .returned (.bool b) := by rw [h]
theorem ret_str {a b : List UInt8} (h : a = b) : Ending.returned (.string ⟨a.toArray⟩) = .returned (.string ⟨b.toArray⟩) := by rw [h]

theorem dec_t {p : Prop} [Decidable p] (h : p) : true = decide p := (decide_eq_true h).symm
theorem dec_f {p : Prop} [Decidable p] (h : ¬ p) : false = decide p := (decide_eq_false h).symm
theorem dec_d {p q : Prop} [Decidable p] [Decidable q] (h : p ↔ q) : decide p = decide q := by simp [h]
theorem dec_e {a b : Int} {q : Prop} [Decidable q] (h : a = b ↔ q) : (a == b) = decide q := by rw [Bool.eq_iff_iff]; simp [h]
theorem dec_n {a b : Int} {q : Prop} [Decidable q] (h : a ≠ b ↔ q) : (a != b) = decide q := by rw [Bool.eq_iff_iff, bne_iff_ne, decide_eq_true_iff]; exact h
theorem dec_nd {p q : Prop} [Decidable p] [Decidable q] (h : ¬ p ↔ q) : (!decide p) = decide q := by rw [Bool.eq_iff_iff]; simp [h]
theorem drop_cons (s : ByteArray) (k : Nat) (h : k < s.size) : s.data.toList.drop k = s[k] :: s.data.toList.drop (k + 1) := by
  rw [List.drop_eq_getElem_cons (by simpa using h)]; rfl
theorem of_list (l : List UInt8) : ∃ x : ByteArray, x.data.toList = l := ⟨⟨l.toArray⟩, rfl⟩
theorem size_list {x : ByteArray} {l : List UInt8} (h : x.data.toList = l) : x.size = l.length := by rw [← h]; simp
theorem ba_eq {x : ByteArray} {l : List UInt8} (h : x.data.toList = l) : x = ⟨l.toArray⟩ := by rw [← h]
theorem app_data (x y : ByteArray) : (x ++ y).data.toList = x.data.toList ++ y.data.toList := by
  rw [ByteArray.data_append]; simp
theorem beq_cast (a b : Nat) : ((a : Int) == (b : Int)) = decide (a = b) := by rw [Bool.eq_iff_iff, beq_iff_eq, decide_eq_true_iff]; omega
theorem byte_all (p : UInt8 → Bool) (h : ((List.range 256).all fun n => p (UInt8.ofNat n)) = true) (c : UInt8) : p c = true := by
  rw [List.all_eq_true] at h
  have := h c.toNat (List.mem_range.2 c.toNat_lt)
  rwa [UInt8.ofNat_toNat] at this
theorem hide {p : Prop} (h : p) : Hid p := h
theorem unhide {p : Prop} (h : Hid p) : p := h
theorem empty_case (s : ByteArray) : (s.toList = [] ∧ s.data.toList = []) ∨ (s.toList.isEmpty = false ∧ s.data.toList ≠ []) := by
  rw [Lib.toList_data]
  cases s.data.toList with
  | nil => exact .inl ⟨rfl, rfl⟩
  | cons c t => exact .inr ⟨rfl, by simp⟩
theorem get_bang (s : ByteArray) (i : Nat) (h : i < s.size) : s.get! i = s[i] := by
  have h' : i < s.data.size := h
  unfold ByteArray.get!
  show s.data[i]! = s.data[i]
  exact getElem!_pos s.data i h'
end Go.Proofs.YtbpopmbabckojaaGreatDoor.Sp

/- Memory: a text made into bytes, bytes made into a text. -/
namespace Go.Proofs.YtbpopmbabckojaaGreatDoor.Mem
open Go.RowKit

def bytesV (l : List UInt8) : List Value := l.map fun c => .int .u8 c.toNat
theorem bytesV_len (l : List UInt8) : (bytesV l).length = l.length := by simp [bytesV]
theorem bytesV_get (l : List UInt8) (i : Nat) (h : i < l.length) : (bytesV l)[i]? = some (.int .u8 l[i].toNat) := by simp [bytesV, h]
theorem bytesV_set (l : List UInt8) (i : Nat) (c : UInt8) : (bytesV l).set i (.int .u8 c.toNat) = bytesV (l.set i c) := by simp [bytesV, List.map_set]

theorem below_bytes (w : World) (e : TypeId) (s : ByteArray) : Below w.heap.size w (Lib.bytesWorld w e s) :=
  ⟨rfl, rfl, rfl, by rw [Lib.bytesWorld_size]; omega, fun i hi => Lib.bytesWorld_at_old w e s i hi⟩

theorem size_cells (w : World) (e : TypeId) (s : ByteArray) : s.size ≤ (Lib.bytesCells w e s).size := by
  unfold Lib.bytesCells
  rw [Array.size_append, Array.size_map]
  show s.data.size ≤ _
  omega

theorem has_bytes (w : World) (e : TypeId) (s : ByteArray) : Reg.Has (Lib.bytesWorld w e s) w.heap.size (bytesV s.data.toList) := by
  refine ⟨fun i v h => ?_, fun i h => ?_, by rw [Lib.bytesWorld_size]; omega⟩
  · have hi : i < s.data.toList.length := by
      have := (List.getElem?_eq_some_iff.1 h).1
      rwa [bytesV_len] at this
    rw [Lib.bytesWorld_cell w e s i (by simpa using hi), ← h, bytesV_get _ _ hi]
    simp only [List.getD, List.getElem?_eq_getElem hi, Option.getD_some]
  · rw [bytesV_len] at h
    have hi : i < s.size := by simpa using h
    have := size_cells w e s
    simp only [World.frozen?, Lib.bytesWorld_at_new]
    simp
    omega

variable {P : Program} {ops : Array Oper} {rest : List Oper} {o : Oper} {a : Act} {w : World} {Q : Exit → Act → World → Prop}

theorem wpList_bytes (hgd : o.guard = none) (src dst e : TypeId) (x : Operand) (ho : o.op = .convert src dst x) (s : ByteArray) (hx : a.eval x = .string s)
    (hs : P.underlying src = some .string) (hd : P.underlying dst = some (.slice e)) (he : P.underlying e = some (.int .u8))
    (h : ∀ cap w1, Reg.Has w1 w.heap.size (bytesV s.data.toList) → Below w.heap.size w w1 → wpList P ops Q rest (a.put o.dst (.slice (some ⟨w.heap.size, 0, none⟩) s.size cap)) w1) :
    wpList P ops Q (o :: rest) a w := by
  refine wpList_plain hgd fun K hK => ?_
  unfold Oper.wp execOp
  simp only [ho, hx, Sem.run_bind, Sem.run_pure, Result.andThen_ok, Lib.run_convert_string_bytes w src dst e s hs hd he]
  exact hK _ _ (h _ _ (has_bytes w e s) (below_bytes w e s))

theorem text_of (l : List UInt8) : strOfNums (l.map fun c => ((c.toNat : Nat) : Int)) = ⟨l.toArray⟩ := by
  unfold strOfNums
  congr 2
  rw [List.map_map]
  have : (fun n : Int => UInt8.ofNat n.toNat) ∘ (fun c : UInt8 => ((c.toNat : Nat) : Int)) = id := by
    funext c
    simp
  rw [this, List.map_id]

theorem run_text (src e : TypeId) (dst : TypeId) (hs : P.underlying src = some (.slice e)) (he : P.underlying e = some (.int .u8)) (hd : P.underlying dst = some .string) (b off cap : Nat) (l : List UInt8)
    (hc : ∀ i v, (bytesV l)[i]? = some v → w.cell? ⟨b, off + i, none⟩ = some v) :
    (convert src dst (.slice (some ⟨b, off, none⟩) l.length cap)).run P w = .ok (.string ⟨l.toArray⟩) w := by
  rw [run_convert_bytes_arg w src e hs he b off l.length cap (l.map fun c => ((c.toNat : Nat) : Int)) (by simp) (fun i hi => ?_) dst hd, text_of]
  rw [hc i _ (bytesV_get l i hi)]
  simp [List.getD, hi]

theorem wpList_text (hgd : o.guard = none) (src dst e : TypeId) (x : Operand) (ho : o.op = .convert src dst x) (b n cap : Nat) (l : List UInt8) (hx : a.eval x = .slice (some ⟨b, 0, none⟩) n cap)
    (hs : P.underlying src = some (.slice e)) (hd : P.underlying dst = some .string) (he : P.underlying e = some (.int .u8)) (hn : l.length = n) (hb : Reg.Has w b (bytesV l))
    (h : wpList P ops Q rest (a.put o.dst (.string ⟨l.toArray⟩)) w) :
    wpList P ops Q (o :: rest) a w := by
  refine wpList_plain hgd fun K hK => ?_
  subst hn
  have hr := run_text (P := P) (w := w) src e dst hs he hd b 0 cap l (fun i v hv => by rw [Nat.zero_add]; exact hb.cell i v hv)
  unfold Oper.wp execOp
  simp only [ho, hx, Sem.run_bind, Sem.run_pure, Result.andThen_ok, hr]
  exact hK _ _ h

theorem results_cell1 {fn : Func} {t : Tmp} {ty : TypeId} (h : fn.results = #[.cell t ty]) {tmps : Array Value} {ad : Addr} {v : Value} (ht : tmps.getD t undef = .pointer (some ad)) (hl : (loadVar ty ad).run P w = .ok v w) :
    (results fn tmps).run P w = .ok v w := by
  unfold results
  rw [h]
  have ht1 := ht
  rw [Array.getD_eq_getD_getElem?] at ht1
  simp [ht1, asAddr, hl]
theorem results_cell2 {fn : Func} {t u : Tmp} {ty : TypeId} (h : fn.results = #[.cell t ty, .tmp u]) {tmps : Array Value} {ad : Addr} {v : Value} (ht : tmps.getD t undef = .pointer (some ad)) (hl : (loadVar ty ad).run P w = .ok v w) :
    (results fn tmps).run P w = .ok (.tuple #[v, tmps.getD u undef]) w := by
  unfold results
  rw [h]
  have ht1 := ht
  rw [Array.getD_eq_getD_getElem?] at ht1
  simp [ht1, asAddr, hl]
theorem results_tmp4 {fn : Func} {t u v x : Tmp} (h : fn.results = #[.tmp t, .tmp u, .tmp v, .tmp x]) (tmps : Array Value) (P : Program) (w : World) :
    (results fn tmps).run P w = .ok (.tuple #[tmps.getD t undef, tmps.getD u undef, tmps.getD v undef, tmps.getD x undef]) w := by simp [results, h]
end Go.Proofs.YtbpopmbabckojaaGreatDoor.Mem

/- Lower of the program and of the reference; Same of both. -/
namespace Go.Proofs.YtbpopmbabckojaaGreatDoor.Sp
open Go.RowKit

def lowB (c : UInt8) : UInt8 := if 65 ≤ c.toNat ∧ c.toNat ≤ 90 then c + 32 else c
def lower (l : List UInt8) : List UInt8 := l.map lowB
def lowTo (k : Nat) (l : List UInt8) : List UInt8 := (l.take k).map lowB ++ l.drop k

theorem lowB_nat (c : UInt8) (h : 65 ≤ c.toNat ∧ c.toNat ≤ 90) : (lowB c).toNat = c.toNat + 32 := by
  unfold lowB; rw [if_pos h, UInt8.toNat_add]; have : (32 : UInt8).toNat = 32 := rfl; omega
theorem lowB_same (c : UInt8) (h : ¬ (65 ≤ c.toNat ∧ c.toNat ≤ 90)) : lowB c = c := by unfold lowB; rw [if_neg h]
theorem lowTo_len (k : Nat) (l : List UInt8) : (lowTo k l).length = l.length := by
  unfold lowTo; rw [List.length_append, List.length_map, List.length_take, List.length_drop]; omega
theorem lowTo_zero (l : List UInt8) : lowTo 0 l = l := by simp [lowTo]
theorem lowTo_all (l : List UInt8) : lowTo l.length l = lower l := by simp [lowTo, lower]
theorem lowTo_at (k : Nat) (s : ByteArray) (h : k < s.size) : (Mem.bytesV (lowTo k s.data.toList))[k]? = some (.int .u8 s[k].toNat) := by
  have h' : k < s.data.toList.length := by simpa using h
  have hl : ((s.data.toList.take k).map lowB).length = k := by rw [List.length_map, List.length_take]; omega
  have hg : (lowTo k s.data.toList)[k]? = some s[k] := by
    unfold lowTo
    rw [List.getElem?_append_right (by omega), hl, Nat.sub_self, drop_cons s k h]
    rfl
  unfold Mem.bytesV
  rw [List.getElem?_map, hg]
  rfl
theorem lowTo_next (k : Nat) (s : ByteArray) (h : k < s.size) (n : Int) (hn : n = (lowB s[k]).toNat) : (Mem.bytesV (lowTo k s.data.toList)).set k (.int .u8 n) = Mem.bytesV (lowTo (k + 1) s.data.toList) := by
  have h' : k < s.data.toList.length := by simpa using h
  have hl : ((s.data.toList.take k).map lowB).length = k := by rw [List.length_map, List.length_take]; omega
  rw [hn, Mem.bytesV_set]
  congr 1
  unfold lowTo
  rw [List.set_append_right _ _ (by omega), hl, Nat.sub_self, drop_cons s k h, List.set_cons_zero, List.take_succ_eq_append_getElem h', List.map_append, List.append_assoc]
  rfl
theorem lowTo_skip (k : Nat) (s : ByteArray) (h : k < s.size) (hs : lowB s[k] = s[k]) : lowTo k s.data.toList = lowTo (k + 1) s.data.toList := by
  have h' : k < s.data.toList.length := by simpa using h
  unfold lowTo
  rw [drop_cons s k h, List.take_succ_eq_append_getElem h', List.map_append, List.append_assoc]
  congr 1
  simp only [List.map_cons, List.map_nil, List.cons_append, List.nil_append]
  rw [show s.data.toList[k] = s[k] from rfl, hs]

theorem rlower_any (s : ByteArray) (hs : s.size ≤ 9223372036854775807) (w : World) :
    Calls Tryz.prog 73 #[.string s] w fun e w' => e = .returned (.string ⟨(lower s.data.toList).toArray⟩) ∧ Below w.heap.size w w' := by
  go_enter Tryz.func73, Tryz.ntmps73
  go_wp2_with (refine Mem.wpList_bytes rfl 9 66 5 _ rfl _ rfl Tryz.underlying9 Tryz.underlying66 Tryz.underlying5 ?_; intro cap w1 HB hb)
  go_loopw [4] (fun i wr => ∃ k : Nat, k ≤ s.size ∧ i = .int .i64 k ∧ Reg.Has wr w.heap.size (Mem.bytesV (lowTo k s.data.toList)) ∧ Below w.heap.size w wr) (fun i _ => s.size - (intOf i).toNat)
  case atStart => exact ⟨0, Nat.zero_le _, rfl, by rw [lowTo_zero]; exact HB, hb⟩
  case round =>
    clear HB hb
    obtain ⟨k, hk, rfl, HB, hb⟩ := hrel
    by_cases hlt : k < s.size
    · have c0 := HB.cell k _ (lowTo_at k s hlt)
      have f0 := HB.free k (by rw [Mem.bytesV_len, lowTo_len]; simpa using hlt)
      have zB := HB.lt
      go_wp2
      · have hr : 65 ≤ s[k].toNat ∧ s[k].toNat ≤ 90 := by omega
        go_roundw
        case rel =>
          exact ⟨k + 1, by omega, by go_num, by rw [← lowTo_next k s hlt ((s[k].toNat : Int) + 32) (by rw [lowB_nat _ hr]; omega)]; exact HB.put k _, hb.setCell (by simp) _⟩
        case measure => simp [intOf]; omega
      all_goals
        go_roundw
        case rel =>
          exact ⟨k + 1, by omega, by go_num, by rw [← lowTo_skip k s hlt (lowB_same _ (by omega))]; exact HB, hb⟩
        case measure => simp [intOf]; omega
    · have hke : k = s.size := by omega
      subst hke
      go_wp2_with (refine Mem.wpList_text rfl 66 9 5 _ rfl _ _ _ (lowTo s.size s.data.toList) rfl Tryz.underlying66 Tryz.underlying9 Tryz.underlying5 (by rw [lowTo_len]; simp) HB ?_)
      go_ret
      exact ⟨ret_str (by rw [← lowTo_all]; simp), hb⟩

theorem lower_any (s : ByteArray) (hs : s.size ≤ 9223372036854775807) (w : World) :
    Calls Tryz.prog 115 #[.string s] w fun e w' => e = .returned (.string ⟨(lower s.data.toList).toArray⟩) ∧ Below w.heap.size w w' := by
  go_enter Tryz.func115, Tryz.ntmps115
  go_wp2_with (refine Mem.wpList_bytes rfl 9 66 5 _ rfl _ rfl Tryz.underlying9 Tryz.underlying66 Tryz.underlying5 ?_; intro cap w1 HB hb)
  go_loopw [10] (fun i wr => ∃ k : Nat, k ≤ s.size ∧ i = .int .i64 k ∧ Reg.Has wr w.heap.size (Mem.bytesV (lowTo k s.data.toList)) ∧ Below w.heap.size w wr) (fun i _ => s.size - (intOf i).toNat)
  case atStart => exact ⟨0, Nat.zero_le _, rfl, by rw [lowTo_zero]; exact HB, hb⟩
  case round =>
    clear HB hb
    obtain ⟨k, hk, rfl, HB, hb⟩ := hrel
    by_cases hlt : k < s.size
    · have c0 := HB.cell k _ (lowTo_at k s hlt)
      have f0 := HB.free k (by rw [Mem.bytesV_len, lowTo_len]; simpa using hlt)
      have zB := HB.lt
      go_wp2
      · have hr : 65 ≤ s[k].toNat ∧ s[k].toNat ≤ 90 := by omega
        go_roundw
        case rel =>
          exact ⟨k + 1, by omega, by go_num, by rw [← lowTo_next k s hlt ((s[k].toNat : Int) + 97 - 65) (by rw [lowB_nat _ hr]; omega)]; exact HB.put k _, hb.setCell (by simp) _⟩
        case measure => simp [intOf]; omega
      all_goals
        go_roundw
        case rel =>
          exact ⟨k + 1, by omega, by go_num, by rw [← lowTo_skip k s hlt (lowB_same _ (by omega))]; exact HB, hb⟩
        case measure => simp [intOf]; omega
    · have hke : k = s.size := by omega
      subst hke
      go_wp2_with (refine Mem.wpList_text rfl 66 9 5 _ rfl _ _ _ (lowTo s.size s.data.toList) rfl Tryz.underlying66 Tryz.underlying9 Tryz.underlying5 (by rw [lowTo_len]; simp) HB ?_)
      go_ret
      exact ⟨ret_str (by rw [← lowTo_all]; simp), hb⟩

theorem lower_size (s : ByteArray) : (⟨(lower s.data.toList).toArray⟩ : ByteArray).size = s.size := by
  show (lower s.data.toList).toArray.size = s.size
  rw [List.size_toArray]; unfold lower; rw [List.length_map]; simp

def same (a b : List UInt8) : Bool := lower a == lower b
theorem same_any (a b : ByteArray) (ha : a.size ≤ 9223372036854775807) (hb : b.size ≤ 9223372036854775807) (w : World) :
    Calls Tryz.prog 94 #[.string a, .string b] w fun e w' => e = .returned (.bool (same a.data.toList b.data.toList)) ∧ Below w.heap.size w w' := by
  go_enter Tryz.func94, Tryz.ntmps94
  go_wp2_with fail
  refine (lower_any a ha _).mono ?_; rintro e w1 ⟨rfl, hb1⟩
  go_wp2_with fail
  refine (lower_any b hb _).mono ?_; rintro e w2 ⟨rfl, hb2⟩
  go_wp2
  go_ret
  exact ⟨ret_bool (by unfold same; rfl), hb1.trans (hb2.mono hb1.size)⟩

theorem rsame_any (a b : ByteArray) (ha : a.size ≤ 9223372036854775807) (hb : b.size ≤ 9223372036854775807) (w : World) :
    Calls Tryz.prog 49 #[.string a, .string b] w fun e w' => e = .returned (.bool (same a.data.toList b.data.toList)) ∧ Below w.heap.size w w' := by
  go_enter Tryz.func49, Tryz.ntmps49
  go_wp2_with fail
  refine (rlower_any a ha _).mono ?_; rintro e w1 ⟨rfl, hb1⟩
  go_wp2_with fail
  refine (rlower_any b hb _).mono ?_; rintro e w2 ⟨rfl, hb2⟩
  go_wp2
  go_ret
  exact ⟨ret_bool (by unfold same; rfl), hb1.trans (hb2.mono hb1.size)⟩

end Go.Proofs.YtbpopmbabckojaaGreatDoor.Sp

/- A message's eight cells. -/
namespace Go.Proofs.YtbpopmbabckojaaGreatDoor.Sp
open Go.RowKit

/-- a message's eight cells -/
def msgV (me ta : ByteArray) (st : Int) (re : ByteArray) (mi : Int) (fs : Value) (bo : ByteArray) (tr : Value) : Array Value := #[.string me, .string ta, .int .i64 st, .string re, .int .i64 mi, fs, .string bo, tr]
end Go.Proofs.YtbpopmbabckojaaGreatDoor.Sp

/- token.table: what each byte is. -/
namespace Go.Proofs.YtbpopmbabckojaaGreatDoor.Sp
open Go.RowKit

theorem below_setCells {B : Nat} {a : World} (b : Nat) (hB : B ≤ b) : ∀ (vs : List Value) (o : Nat) (w : World), Below B a w → Below B a (w.setCells b o vs)
  | [], _, _, h => h
  | v :: vs, o, _, h => below_setCells b hB vs (o + 1) _ (h.setCell (p := ⟨b, o, none⟩) hB v)
theorem has_setCells {w : World} {b n : Nat} {vs : List Value} (hn : n = vs.length) (ht : w.there b 0 n) (hlt : b < w.heap.size) (hs : ∀ o (w : World), (w.setCells b o vs).heap.size = w.heap.size) : Reg.Has (w.setCells b 0 vs) b vs := by
  subst hn
  refine ⟨fun i v hv => ?_, fun i hi => ?_, by rw [hs]; exact hlt⟩
  · have := World.rangeAt_setCells_same w b 0 vs ht i v hv
    rwa [Nat.zero_add] at this
  · rw [World.frozen?_setCells]
    have := (ht i hi).2
    rwa [Nat.zero_add] at this
theorem size_setCells (b : Nat) : ∀ (vs : List Value) (o : Nat) (w : World), (w.setCells b o vs).heap.size = w.heap.size
  | [], _, _ => rfl
  | v :: vs, o, w => by
    show ((w.setCell ⟨b, o, none⟩ v).setCells b (o + 1) vs).heap.size = _
    rw [size_setCells b vs (o + 1)]
    simp [World.setCell]
theorem has_range {w : World} {b : Nat} {vs : List Value} (h : Reg.Has w b vs) : w.rangeAt b 0 vs := fun j v hv => by rw [Nat.zero_add]; exact h.cell j v hv
theorem has_there {w : World} {b : Nat} {vs : List Value} (h : Reg.Has w b vs) : w.there b 0 vs.length := fun j hj => by
  rw [Nat.zero_add]
  exact ⟨by rw [h.cell j _ (List.getElem?_eq_getElem hj)]; rfl, h.free j hj⟩

def signs : List UInt8 := [33, 35, 36, 37, 38, 39, 42, 43, 45, 46, 94, 95, 96, 124, 126]
def idx (k : Nat) : Int := Lib.indexByte signs k.toUInt8
/-- a token's byte -/
def tB (k : Nat) : Bool := (decide (48 ≤ k) && decide (k ≤ 57)) || (decide (97 ≤ k) && decide (k ≤ 122)) || (decide (65 ≤ k) && decide (k ≤ 90)) || decide (0 ≤ idx k)
/-- a value's byte -/
def cB (k : Nat) : Bool := decide (k = 9) || (decide (32 ≤ k) && decide (k ≤ 126)) || decide (128 ≤ k)
def kindOf (k : Nat) : Int := (if tB k then 1 else 0) + (if cB k then 2 else 0)
/-- the table behind k rounds -/
@[irreducible] def tbl (k : Nat) : List Value := (List.range 256).map fun i => .int .u8 (if i < k then kindOf i else 0)
def tblArr : Array Value := (tbl 256).toArray
def zeroArr : Array Value := (tbl 0).toArray

theorem tbl_get (k i : Nat) (h : i < 256) : (tbl k)[i]? = some (.int .u8 (if i < k then kindOf i else 0)) := by
  unfold tbl
  rw [List.getElem?_map, List.getElem?_range h]
  rfl
theorem tbl_len (k : Nat) : (tbl k).length = 256 := by simp [tbl]
theorem tbl_set (k : Nat) (h : k < 256) : (tbl k).set k (.int .u8 (kindOf k)) = tbl (k + 1) := by
  apply List.ext_getElem?
  intro i
  by_cases hi : i < 256
  · by_cases hik : k = i
    · subst hik
      rw [List.getElem?_set_self (by rw [tbl_len]; exact h), tbl_get _ _ h, if_pos (by omega)]
    · rw [List.getElem?_set_ne hik, tbl_get _ _ hi, tbl_get _ _ hi]
      have e : (i < k) = (i < k + 1) := by apply propext; omega
      rw [show (if i < k then kindOf i else 0) = (if i < k + 1 then kindOf i else 0) by split <;> split <;> first | rfl | omega]
  · rw [List.getElem?_eq_none (by rw [List.length_set, tbl_len]; omega), List.getElem?_eq_none (by rw [tbl_len]; omega)]
theorem tbl_same (k : Nat) (h : k < 256) (h0 : kindOf k = 0) : tbl k = tbl (k + 1) := by
  rw [← tbl_set k h, h0]
  apply List.ext_getElem?
  intro i
  by_cases hik : k = i
  · subst hik
    rw [List.getElem?_set_self (by rw [tbl_len]; exact h), tbl_get _ _ h, if_neg (by omega)]
  · rw [List.getElem?_set_ne hik]
theorem zero_value (w : World) : (zeroValue 154).run Tryz.prog w = .ok (.agg zeroArr) w := by kernel_rfl

theorem idx_any (k : Nat) (w : World) : Calls Tryz.prog 147 #[.string ⟨#[33, 35, 36, 37, 38, 39, 42, 43, 45, 46, 94, 95, 96, 124, 126]⟩, .int .u8 (k : Int)] w fun e w' => e = .returned (.int .i64 (idx k)) ∧ w = w' := by
  refine (Tryz.strings_IndexByte _ _ _).mono ?_
  rintro e w' ⟨rfl, rfl⟩
  exact ⟨by rw [Int.toNat_natCast]; rfl, rfl⟩

theorem or1 : bits BinOp.or IntKind.u8 0 1 = 1 := by kernel_rfl
theorem or2 : bits BinOp.or IntKind.u8 0 2 = 2 := by kernel_rfl
theorem or3 : bits BinOp.or IntKind.u8 1 2 = 3 := by kernel_rfl
theorem kind_of {k : Nat} {t c : Bool} {n : Int} (ht : tB k = t) (hc : cB k = c) (hn : n = (if t then 1 else 0) + (if c then 2 else 0)) : kindOf k = n := by
  unfold kindOf; rw [ht, hc, hn]
theorem tB_yes {k : Nat} (h : (48 ≤ k ∧ k ≤ 57) ∨ (97 ≤ k ∧ k ≤ 122) ∨ (65 ≤ k ∧ k ≤ 90) ∨ 0 ≤ idx k) : tB k = true := by
  unfold tB; simp only [Bool.or_eq_true, Bool.and_eq_true, decide_eq_true_eq]; omega
theorem tB_no {k : Nat} (h : ¬ ((48 ≤ k ∧ k ≤ 57) ∨ (97 ≤ k ∧ k ≤ 122) ∨ (65 ≤ k ∧ k ≤ 90) ∨ 0 ≤ idx k)) : tB k = false := by
  rw [← Bool.not_eq_true]; unfold tB; simp only [Bool.or_eq_true, Bool.and_eq_true, decide_eq_true_eq]; omega
theorem cB_yes {k : Nat} (h : k = 9 ∨ (32 ≤ k ∧ k ≤ 126) ∨ 128 ≤ k) : cB k = true := by
  unfold cB; simp only [Bool.or_eq_true, Bool.and_eq_true, decide_eq_true_eq]; omega
theorem cB_no {k : Nat} (h : ¬ (k = 9 ∨ (32 ≤ k ∧ k ≤ 126) ∨ 128 ≤ k)) : cB k = false := by
  rw [← Bool.not_eq_true]; unfold cB; simp only [Bool.or_eq_true, Bool.and_eq_true, decide_eq_true_eq]; omega


theorem tB_iff (k : Nat) : tB k = true ↔ ((48 ≤ k ∧ k ≤ 57) ∨ (97 ≤ k ∧ k ≤ 122) ∨ (65 ≤ k ∧ k ≤ 90) ∨ 0 ≤ idx k) := by
  unfold tB; simp only [Bool.or_eq_true, Bool.and_eq_true, decide_eq_true_eq]; omega
theorem cB_iff (k : Nat) : cB k = true ↔ (k = 9 ∨ (32 ≤ k ∧ k ≤ 126) ∨ 128 ≤ k) := by
  unfold cB; simp only [Bool.or_eq_true, Bool.and_eq_true, decide_eq_true_eq]; omega
theorem eq_t {b : Bool} (h : b = true) : Value.bool true = .bool b := by rw [h]
theorem eq_tB {k : Nat} {p : Prop} [Decidable p] (h : p ↔ ((48 ≤ k ∧ k ≤ 57) ∨ (97 ≤ k ∧ k ≤ 122) ∨ (65 ≤ k ∧ k ≤ 90) ∨ 0 ≤ idx k)) : Value.bool (decide p) = .bool (tB k) := by
  congr 1; rw [Bool.eq_iff_iff, decide_eq_true_iff, tB_iff]; exact h
theorem eq_cB {k : Nat} {p : Prop} [Decidable p] (h : p ↔ (k = 9 ∨ (32 ≤ k ∧ k ≤ 126) ∨ 128 ≤ k)) : Value.bool (decide p) = .bool (cB k) := by
  congr 1; rw [Bool.eq_iff_iff, decide_eq_true_iff, cB_iff]; exact h

set_option maxRecDepth 100000 in
set_option maxHeartbeats 4000000 in
theorem table_any (w : World) : Calls Tryz.prog 131 #[] w fun e w' => e = .returned (.agg tblArr) ∧ Below w.heap.size w w' := by
  have hz := zero_value
  go_enter Tryz.func131, Tryz.ntmps131
  go_wp2_with fail
  have HB := Reg.Has.at w w.heap.size (tbl 0) 154 rfl
  have hbel : Below w.heap.size w (w.alloc (.cells zeroArr 154)) := (Below.refl _ _).alloc (Nat.le_refl _) _
  go_loopg [3] 256 (fun g i wr => ∃ k : Nat, k + g = 256 ∧ i = .int .i64 k ∧ Reg.Has wr w.heap.size (tbl k) ∧ Below w.heap.size w wr)
  case atStart => exact ⟨0, by omega, rfl, HB, hbel⟩
  case round =>
    clear HB hbel hz
    obtain ⟨k, hk, rfl, HB, bel⟩ := hrel
    by_cases hlt : k < 256
    · obtain ⟨g', rfl⟩ : ∃ g', gk = g' + 1 := ⟨gk - 1, by omega⟩
      have c0 := HB.cell k _ (tbl_get k k hlt)
      have f0 := HB.free k (by rw [tbl_len]; exact hlt)
      rw [if_neg (by omega)] at c0
      have zB := HB.lt
      go_upto_region 5 with fail
      go_cut [34] (fun t wc => t = .bool (tB k) ∧ wr = wc)
      case first =>
        clear c0 f0 zB HB bel
        go_wp2_with (go_at_call 147; refine (idx_any _ _).mono ?_; rintro e w' ⟨rfl, rfl⟩)
        all_goals go_meet
        all_goals refine ⟨?_, rfl⟩
        all_goals first | (with_reducible refine eq_t ?_; rw [tB_iff]; omega) | (with_reducible refine eq_tB ?_; omega)
      case rest =>
        obtain ⟨rfl, rfl⟩ := hcut
        cases ht : tB k
        · go_upto_region 7 with fail
          go_cut [53] (fun t wc => t = .bool (cB k) ∧ wr = wc)
          case first =>
            clear c0 f0 zB HB bel ht
            go_wp2_with fail
            all_goals go_meet
            all_goals refine ⟨?_, rfl⟩
            all_goals first | (with_reducible refine eq_t ?_; rw [cB_iff]; omega) | (with_reducible refine eq_cB ?_; omega)
          case rest =>
            obtain ⟨rfl, rfl⟩ := hcut
            have o2 := or2
            cases hc : cB k
            · go_wp2
              go_roundg g'
              case measure => omega
              case rel => exact ⟨k + 1, by omega, by go_num, by rw [← tbl_same k hlt (kind_of ht hc rfl)]; exact HB, bel⟩
            · go_wp2
              go_roundg g'
              case measure => omega
              case rel => exact ⟨k + 1, by omega, by go_num, by rw [← tbl_set k hlt, kind_of ht hc (n := 2) rfl]; exact HB.put k _, bel.setCell (by simp) _⟩
        · have o1 := or1
          have o3 := or3
          go_upto_region 7 with fail
          go_cut [53] (fun t wc => t = .bool (cB k) ∧ wr.setCell ⟨w.heap.size, k, none⟩ (.int .u8 1) = wc)
          case first =>
            clear c0 f0 zB HB bel ht
            go_wp2_with fail
            all_goals go_meet
            all_goals refine ⟨?_, rfl⟩
            all_goals first | (with_reducible refine eq_t ?_; rw [cB_iff]; omega) | (with_reducible refine eq_cB ?_; omega)
          case rest =>
            obtain ⟨rfl, rfl⟩ := hcut
            cases hc : cB k
            · go_wp2
              go_roundg g'
              case measure => omega
              case rel => exact ⟨k + 1, by omega, by go_num, by rw [← tbl_set k hlt, kind_of ht hc (n := 1) rfl]; exact HB.put k _, bel.setCell (by simp) _⟩
            · go_wp2
              go_roundg g'
              case measure => omega
              case rel =>
                refine ⟨k + 1, by omega, by go_num, ?_, (bel.setCell (by simp) _).setCell (by simp) _⟩
                rw [← tbl_set k hlt, kind_of ht hc (n := 3) rfl]
                have H8 := (HB.put k (.int .u8 1)).put k (.int .u8 3)
                rw [List.set_set] at H8
                exact H8
    · have hke : k = 256 := by omega
      subst hke
      have hi : (Tryz.prog.info? 154).map (·.size) = some (tbl 256).length := by rw [tbl_len]; kernel_rfl
      have hi2 : (Tryz.prog.info? 154).map (·.size) = some tblArr.size := by unfold tblArr; rw [List.size_toArray]; exact hi
      have hr := has_range HB
      have ht : wr.there w.heap.size 0 tblArr.size := by have := has_there HB; unfold tblArr; rw [List.size_toArray]; exact this
      have ho : tblArr.all (·.oneCell') = true := by kernel_rfl
      have HI := Lib.hid hi
      have HI2 := Lib.hid hi2
      have HR := hide hr
      have HT := hide ht
      have HO := Lib.hid ho
      clear hi hi2 hr ht ho
      go_wp2_with (first
        | (refine wpList_load_mid rfl 154 _ rfl w.heap.size 0 rfl (tbl 256) _ (unhide HR) Tryz.underlying154 rfl HI.out ?_)
        | (refine wpList_store_mid rfl 154 _ _ rfl w.heap.size 0 tblArr rfl rfl (unhide HT) HI2.out HO.out ?_))
      have hra := World.rangeAt_setCells_same wr w.heap.size 0 tblArr.toList (unhide HT)
      have hl := run_loadVar_mid (P := Tryz.prog) (wr.setCells w.heap.size 0 tblArr.toList) w.heap.size 0 154 tblArr.toList _ hra Tryz.underlying154 rfl HI2.out
      have e : tblArr.toList.toArray = tblArr := rfl
      rw [e] at hl
      exact bodyPost_ret (Mem.results_cell1 (ad := ⟨w.heap.size, 0, none⟩) Tryz.results131 rfl hl) rfl ⟨rfl, below_setCells _ (Nat.le_refl _) _ _ _ bel⟩
end Go.Proofs.YtbpopmbabckojaaGreatDoor.Sp

/- token.all, Token, Same; start.seen, version, Request. -/
namespace Go.Proofs.YtbpopmbabckojaaGreatDoor.Sp
open Go.RowKit

/-! ### plain -/
def tch (c : UInt8) : Bool := tB c.toNat
def chr (c : UInt8) : Bool := cB c.toNat
def allS (q : UInt8 → Bool) (l : List UInt8) : Bool := l.all q
def tokenS (l : List UInt8) : Bool := !l.isEmpty && allS tch l
theorem tblArr_size : tblArr.size = 256 := by unfold tblArr; rw [List.size_toArray, tbl_len]
theorem kind_and1 (c : UInt8) : bits BinOp.and IntKind.u8 (kindOf c.toNat) 1 = if tch c then 1 else 0 := by
  unfold tch kindOf
  cases tB c.toNat <;> cases cB c.toNat <;> kernel_rfl
theorem kind_and2 (c : UInt8) : bits BinOp.and IntKind.u8 (kindOf c.toNat) 2 = if chr c then 2 else 0 := by
  unfold chr kindOf
  cases tB c.toNat <;> cases cB c.toNat <;> kernel_rfl

theorem all_take {q : UInt8 → Bool} (s : ByteArray) (k : Nat) (h : k < s.size) : (s.data.toList.take (k + 1)).all q = ((s.data.toList.take k).all q && q s[k]) := by
  rw [List.take_succ_eq_append_getElem (by simpa using h), List.all_append]
  simp only [List.all_cons, List.all_nil, Bool.and_true]
  rfl
theorem all_no {q : UInt8 → Bool} (s : ByteArray) (k : Nat) (h : k < s.size) (hq : q s[k] = false) : s.data.toList.all q = false := by
  rw [List.all_eq_false]
  exact ⟨s[k], by rw [show s[k] = s.data.toList[k]'(by simpa using h) from rfl]; exact List.getElem_mem _, by rw [hq]; decide⟩

set_option maxRecDepth 100000 in
set_option maxHeartbeats 1000000 in
theorem all_any (s : ByteArray) (hs : s.size ≤ 9223372036854775807) (kind : Int) (q : UInt8 → Bool) (hq : ∀ c : UInt8, bits BinOp.and IntKind.u8 (kindOf c.toNat) kind = if q c then kind else 0) (hk : (kind == 0) = false) (w : World) :
    Calls Tryz.prog 110 #[.string s, .int .u8 kind] w fun e w' => e = .returned (.bool (allS q s.data.toList)) ∧ Below w.heap.size w w' := by
  have HQ := Lib.hid hq
  clear hq
  have hz := zero_value
  go_enter Tryz.func110, Tryz.ntmps110
  go_wp2_with fail
  refine (table_any _).mono ?_; rintro e w1 ⟨rfl, hb1⟩
  have hi2 : (Tryz.prog.info? 154).map (·.size) = some tblArr.size := by rw [tblArr_size]; kernel_rfl
  have H0 := Reg.Has.at w1 w1.heap.size (tbl 0) 154 rfl
  have ht : (w1.alloc (.cells zeroArr 154)).there w1.heap.size 0 tblArr.size := by have := has_there H0; rw [tblArr_size]; rw [tbl_len] at this; exact this
  have ho : tblArr.all (·.oneCell') = true := by kernel_rfl
  have HS : Reg.Has ((w1.alloc (.cells zeroArr 154)).setCells w1.heap.size 0 tblArr.toList) w1.heap.size (tbl 256) := has_setCells (vs := tbl 256) (by rw [tblArr_size, tbl_len]) ht H0.lt (fun o w => size_setCells _ _ _ _)
  have hbel : Below w.heap.size w ((w1.alloc (.cells zeroArr 154)).setCells w1.heap.size 0 tblArr.toList) := below_setCells _ hb1.size _ _ _ (hb1.alloc hb1.size _)
  have HI2 := Lib.hid hi2
  have HT := hide ht
  have HO := Lib.hid ho
  clear hi2 ht ho H0
  go_wp2_with (refine wpList_store_mid rfl 154 _ _ rfl w1.heap.size 0 tblArr rfl rfl (unhide HT) HI2.out HO.out ?_)
  generalize (w1.alloc (.cells zeroArr 154)).setCells w1.heap.size 0 tblArr.toList = w2 at *
  generalize w1.heap.size = b at *
  clear hz HI2 HT HO hb1
  go_loop [10] (fun n => ∃ k : Nat, k ≤ s.size ∧ n = .int .i64 k ∧ (s.data.toList.take k).all q = true) (fun n => s.size - (intOf n).toNat)
  case atStart => exact ⟨0, Nat.zero_le _, rfl, rfl⟩
  case round =>
    obtain ⟨k, hk, rfl, hall⟩ := hrel
    have HA := Lib.hid hall
    clear hall
    by_cases hlt : k < s.size
    · have hc := s[k].toNat_lt
      have c0 := HS.cell s[k].toNat _ (tbl_get 256 _ (by omega))
      rw [if_pos (by omega)] at c0
      have hN := Lib.hid (all_no (q := q) s k hlt)
      have hT := Lib.hid (all_take (q := q) s k hlt)
      have hq := HQ.out s[k]
      cases hqk : q s[k]
      · rw [hqk] at hq
        simp only [Bool.false_eq_true, if_false] at hq
        go_wp2
        go_ret
        exact ⟨ret_bool (by unfold allS; exact (hN.out hqk).symm), hbel⟩
      · rw [hqk] at hq
        simp only [if_true] at hq
        go_wp2
        go_round
        case rel => exact ⟨k + 1, by omega, by go_num, by rw [hT.out, HA.out, hqk]; rfl⟩
        case measure => simp [intOf]; omega
    · have hke : k = s.size := by omega
      subst hke
      go_wp2
      go_ret
      refine ⟨ret_bool ?_, hbel⟩
      have := HA.out
      rw [List.take_of_length_le (by simp)] at this
      unfold allS
      exact this.symm

theorem token_any (s : ByteArray) (hs : s.size ≤ 9223372036854775807) (w : World) :
    Calls Tryz.prog 89 #[.string s] w fun e w' => e = .returned (.bool (tokenS s.data.toList)) ∧ Below w.heap.size w w' := by
  by_cases he : s.toList = []
  · have he2 : s.data.toList = [] := by rwa [Lib.toList_data] at he
    go_enter Tryz.func89, Tryz.ntmps89
    go_wp2_with fail
    go_ret
    exact ⟨ret_bool (by unfold tokenS; rw [he2]; rfl), Below.refl _ _⟩
  · have he2 : s.data.toList ≠ [] := by rwa [Lib.toList_data] at he
    have he3 : s.toList.isEmpty = false := by cases hh : s.toList <;> simp_all
    have HE := Lib.hid he2
    clear he he2
    go_enter Tryz.func89, Tryz.ntmps89
    go_wp2_with fail
    refine (all_any s hs 1 tch kind_and1 rfl _).mono ?_; rintro e w1 ⟨rfl, hb1⟩
    go_wp2
    go_ret
    exact ⟨ret_bool (by unfold tokenS; cases hl : s.data.toList with
      | nil => exact absurd hl HE.out
      | cons c t => rfl), hb1⟩
end Go.Proofs.YtbpopmbabckojaaGreatDoor.Sp
