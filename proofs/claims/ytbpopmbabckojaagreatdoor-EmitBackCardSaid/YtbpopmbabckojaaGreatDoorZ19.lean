/- Lemmas for the statement's proof, several texts in one: Reg3. -/
import Derived.Test.YtbpopmbabckojaaGreatDoorZ01
import Derived.OrdersHeld
set_option linter.unusedVariables false
set_option linter.unusedSimpArgs false
/- Regions that draw their order and hold calls that make memory: reads are taken as early as may be, everything else one by one, each in the world at hand. -/
section
namespace Go.Proofs.YtbpopmbabckojaaGreatDoor.Reg
open Go.RowKit Go

section
variable {P : Program} {ops : Array Oper} {md : Region.Mode} {S : World → Prop} {Q : Exit → Act → World → Prop}

/-- What hands back a value, whatever it is, and enters no function. -/
def readKind : Op → Bool
  | .move _ | .assign _ | .pick _ _ _ | .load _ _ | .binOp _ _ _ _ _ | .unOp _ _ _ | .fieldAddr _ _ _ | .field _ _ _ | .indexAddr _ _ _ | .index _ _ _ | .extract _ _ | .slice _ _ _ _ _ => true
  | .call c => match c.callee with
    | .builtin .len => true
    | _ => false
  | _ => false

theorem v_only {s : Sem Value} {w w1 : World} {n : Next} (h : (do pure (Next.value (← s)) : Sem Next).run P w = .ok n w1) : ∃ u, n = .value u := by
  rw [Sem.run_bind] at h
  cases hs : s.run P w with
  | ok u w2 =>
    rw [hs] at h
    simp [Result.andThen, Sem.run_pure] at h
    exact ⟨u, h.1.symm⟩
  | halt x w2 =>
    rw [hs] at h
    simp [Result.andThen] at h

theorem read_only {o : Oper} (hp : readKind o.op = true) {ρ : Operand → Value} {n : Next} {w w1 : World} (h : (execOp ρ o).run P w = .ok n w1) : ∃ u, n = .value u := by
  obtain ⟨dst, op, type, pos, after, guard⟩ := o
  cases op <;> simp only [readKind, Bool.false_eq_true] at hp
  case move x => exact v_only (P := P) (s := pure (ρ x)) h
  case assign x => exact v_only (P := P) (s := pure (ρ x)) h
  case pick c a b => exact v_only (P := P) (s := do pure (if ← asBool (ρ c) then ρ a else ρ b)) (by simpa [execOp] using h)
  case load t a => exact v_only h
  case binOp op t x y z => exact v_only h
  case unOp op t x => exact v_only h
  case fieldAddr a b c => exact v_only h
  case field a b c => exact v_only h
  case indexAddr a b c => exact v_only h
  case index a b c => exact v_only h
  case extract a b => exact v_only h
  case slice a b c d e => exact v_only h
  case call c =>
    obtain ⟨callee, args, at_⟩ := c
    cases callee <;> simp only [Bool.false_eq_true] at hp
    rename_i b
    cases b <;> simp only [Bool.false_eq_true] at hp
    simp only [execOp, resolve, pure_bind, invoke, builtin] at h
    exact v_only h

/-- What is quiet and a read yields. -/
theorem read_yields {o : Oper} {v : Value} {a : Act} (hp : readKind o.op = true) (h : YieldsIn P ops S o v a) : YieldsIf P ops S o v a := by
  rcases h with ⟨hw, hq⟩ | h
  · refine .inl ⟨hw, fun w hS => ?_⟩
    have h1 := hq w hS
    unfold Oper.quietAt at h1
    generalize hr : (execOp a.eval o).run P w = r at h1
    cases r with
    | ok n w1 =>
      obtain ⟨u, rfl⟩ := read_only hp hr
      simp only [Oper.quietUpon] at h1
      obtain ⟨rfl, rfl⟩ := h1
      rfl
    | halt x w1 => simp only [Oper.quietUpon] at h1
  · exact .inr h

/-- What is asked behind one operation, no way out but the plain one. -/
def Then (S : World → Prop) (K : Act → World → Prop) (e : Exit) (a : Act) (w : World) : Prop := e = .normal ∧ S w ∧ K a w

/-- The walk in the order of the list. -/
def wpMix (P : Program) (ops : Array Oper) (S : World → Prop) (Q : Exit → Act → World → Prop) : List Oper → Act → World → Prop
  | [], a, w => Q .normal a w
  | o :: l, a, w => if readKind o.op = true then ∃ v, YieldsIf P ops S o v a ∧ wpMix P ops S Q l (a.put o.dst v) w else wpList P ops (Then S (wpMix P ops S Q l)) [o] a w

theorem wpOp_of_then {i : Nat} {o : Oper} {K : Act → World → Prop} {a : Act} {w : World} (hi : ops[i]? = some o) (h : wpList P ops (Then S K) [o] a w) : wpOp P ops Q i (fun a' w' => S w' ∧ K a' w') a w := by
  unfold wpOp
  simp only [hi]
  simp only [wpList] at h
  split
  · rename_i hw
    simp only [hw, if_true] at h
    rcases h with h | ⟨_, h⟩
    · refine .inl ?_
      unfold Oper.wp at *
      generalize (execOp a.eval o).run P w = r at *
      cases r with
      | ok n w' =>
        cases n <;> simp only [Oper.upon] at h ⊢
        case value u => exact h.2
        case skip => exact h.2
        case defer d => exact h.2
        case enter f args =>
          refine Calls.mono h fun e w'' he => ?_
          cases e with
          | returned u => exact he.2
          | panicked c => obtain ⟨he, _⟩ := he; cases he
          | outgrown => obtain ⟨_, _, he, _⟩ := he; cases he
        case row row args => exact Rows.mono h fun u w'' he => he.2
      | halt x w' =>
        cases x <;> simp only [Oper.upon] at h ⊢
        case panic u => obtain ⟨he, _⟩ := h; cases he
    · obtain ⟨_, _, he, _⟩ := h
      cases he
  · rename_i hw
    simp only [hw] at h
    exact h.2

/-- The order π may be walked: a read may come up and is apart from all others; whatever else comes up alone. -/
def mixB (md : Region.Mode) (ops : Array Oper) : List Nat → Array Bool → Bool
  | [], listed => (Region.ready md ops listed).isEmpty
  | i :: π, listed => (match ops[i]? with
    | some o => if readKind o.op then (Region.ready md ops listed).contains i && Region.free md ops listed i else decide (Region.ready md ops listed = [i])
    | none => false) && mixB md ops π (listed.setIfInBounds i true)
def pickL (l : List Oper) : List Nat → List Oper
  | [] => []
  | i :: π => match l[i]? with
    | some o => o :: pickL l π
    | none => pickL l π

theorem wpAnyH_mix {l : List Oper} (hsel : Region.noSelect l.toArray = true) (hQ : ∀ c a d v w, Q (.panic c) (Act.put a d v) w → Q (.panic c) a w) :
    ∀ (π : List Nat) (f : Nat) (listed : Array Bool) (a : Act) (w : World), mixB md l.toArray π listed = true → S w → π.length ≤ f → wpMix P l.toArray S Q (pickL l π) a w → wpAnyH P md l.toArray Q S f listed a w
  | [], f, listed, a, w, hB, _, _, h => wpAnyH_done (by simpa [mixB] using hB) h f
  | i :: π, 0, _, _, _, _, _, hl, _ => absurd hl (by simp)
  | i :: π, f + 1, listed, a, w, hB, hS, hl, h => by
    simp only [mixB, Bool.and_eq_true] at hB
    obtain ⟨hB, hB'⟩ := hB
    cases hi : l.toArray[i]? with
    | none => simp [hi] at hB
    | some o =>
      simp only [hi] at hB
      have hi' : l[i]? = some o := by simpa using hi
      simp only [pickL, hi', wpMix] at h
      by_cases hr : readKind o.op = true
      · simp only [hr, if_true, Bool.and_eq_true] at hB h
        obtain ⟨v, hy, h⟩ := h
        exact wpAnyH_take hi hsel hB.2 hB.1 (fun c a w => hQ c a _ _ w) hy hS (wpAnyH_mix hsel hQ π f _ _ w hB' hS (by simpa using hl) h)
      · simp only [hr, Bool.false_eq_true, if_false, decide_eq_true_eq] at hB h
        refine wpAnyH_all hB (by simp) fun j hj => ?_
        rw [List.mem_singleton] at hj
        subst hj
        exact wpOp_mono (fun a' w' h' => ⟨h'.1, wpAnyH_mix hsel hQ π f _ _ w' hB' h'.1 (by simpa using hl) h'.2⟩) (wpOp_of_then hi h)

theorem region_mix {id : Nat} {a : Act} {w : World} {l : List Oper} (π : List Nat) (hm : P.follows .mixedOrders = true) (hsel : Region.noSelect l.toArray = true) (hB : mixB .any l.toArray π (Array.replicate l.toArray.size false) = true) (hn : π.length ≤ l.toArray.size)
    (hQ : ∀ c a d v w, Q (.panic c) (Act.put a d v) w → Q (.panic c) a w) (h : wpMix P l.toArray (fun w' => ∃ x : More w, w' = x.w) Q (pickL l π) a w.drew) : (Code.region id l.toArray true).wp P Q a w :=
  wp_region_held hm (wpAnyH_mix hsel hQ π _ _ a _ hB ⟨⟨w.drew, (Below.refl _ _).drew⟩, rfl⟩ hn h)

/-- .. a part of the order at a time. -/
def mixP (md : Region.Mode) (ops : Array Oper) : List Nat → Array Bool → Bool
  | [], _ => true
  | i :: π, listed => (match ops[i]? with
    | some o => if readKind o.op then (Region.ready md ops listed).contains i && Region.free md ops listed i else decide (Region.ready md ops listed = [i])
    | none => false) && mixP md ops π (listed.setIfInBounds i true)
def lay (listed : Array Bool) (π : List Nat) : Array Bool := π.foldl (fun l i => l.setIfInBounds i true) listed
theorem mixB_app {π2 : List Nat} : ∀ {π1 : List Nat} {listed : Array Bool}, mixP md ops π1 listed = true → mixB md ops π2 (lay listed π1) = true → mixB md ops (π1 ++ π2) listed = true
  | [], _, _, h => h
  | i :: π1, listed, h1, h2 => by
    simp only [mixP, Bool.and_eq_true] at h1
    show mixB md ops (i :: (π1 ++ π2)) listed = true
    simp only [mixB, Bool.and_eq_true]
    exact ⟨h1.1, mixB_app h1.2 h2⟩
/-- the regions of a text that draw their order -/
def regs : Code → List (List Oper)
  | .region _ ops d => if d then [ops.toList] else []
  | .seq a b => regs a ++ regs b
  | .cond _ a b => regs a ++ regs b
  | .block _ b => regs b
  | .loop b => regs b
  | .scope b => regs b
  | .rangeFunc _ _ a b => regs a ++ regs b
  | _ => []
def regOf (f : Func) (k : Nat) : List Oper := ((f.body.map regs).getD []).getD k []
theorem region_mix2 {id : Nat} {a : Act} {w : World} {l : List Oper} (l0 : List Oper) (π : List Nat) (hm : P.follows .mixedOrders = true) (hl : l = l0) (hsel : Region.noSelect l0.toArray = true) (hB : mixB .any l0.toArray π (Array.replicate l0.toArray.size false) = true) (hn : π.length ≤ l0.toArray.size)
    (hQ : ∀ c a d v w, Q (.panic c) (Act.put a d v) w → Q (.panic c) a w) (h : wpMix P l.toArray (fun w' => ∃ x : More w, w' = x.w) Q (pickL l π) a w.drew) : (Code.region id l.toArray true).wp P Q a w := by
  subst hl
  exact region_mix π hm hsel hB hn hQ h

/-- Some reads in a row. -/
theorem mix_reads {L : Act → Prop} : ∀ {l1 l2 : List Oper} {a : Act} {w : World}, (l1.all fun o => readKind o.op) = true → wpQuiet P ops S L l1 a → (∀ a', L a' → wpMix P ops S Q l2 a' w) → wpMix P ops S Q (l1 ++ l2) a w
  | [], _, a, _, _, h, k => k a h
  | o :: l1, l2, a, w, hr, h, k => by
    simp only [List.all_cons, Bool.and_eq_true] at hr
    have hq : ∃ v, YieldsIn P ops S o v a ∧ wpQuiet P ops S L l1 (a.put o.dst v) := by
      simp only [wpQuiet] at h
      by_cases hw : Region.wanted o (yielded ops a.tmps) = true
      · simp only [hw, if_true] at h
        obtain ⟨v, h1, h2⟩ := h
        exact ⟨v, .inl ⟨hw, h1⟩, h2⟩
      · simp only [hw] at h
        exact ⟨undef, .inr ⟨by simpa using hw, rfl⟩, h⟩
    obtain ⟨v, hy, h⟩ := hq
    show wpMix P ops S Q (o :: (l1 ++ l2)) a w
    simp only [wpMix, hr.1, if_true]
    exact ⟨v, read_yields hr.1 hy, mix_reads hr.2 h k⟩
theorem mix_one {o : Oper} {l : List Oper} {a : Act} {w : World} (hr : readKind o.op = false) (h : wpList P ops (Then S (wpMix P ops S Q l)) [o] a w) : wpMix P ops S Q (o :: l) a w := by
  simp only [wpMix, hr, Bool.false_eq_true, if_false]
  exact h
theorem mix_take {l : List Oper} {a : Act} {w : World} (n : Nat) (hr : ((l.take n).all fun o => readKind o.op) = true) (h : wpQuiet P ops S (fun a' => wpMix P ops S Q (l.drop n) a' w) (l.take n) a) : wpMix P ops S Q l a w := by
  have := mix_reads (Q := Q) (w := w) hr h (fun _ k => k)
  rwa [List.take_append_drop] at this
theorem mix_nil {a : Act} {w : World} (h : Q .normal a w) : wpMix P ops S Q [] a w := h
end
end Go.Proofs.YtbpopmbabckojaaGreatDoor.Reg
end
