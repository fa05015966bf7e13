/- slices.IndexFunc, slices.DeleteFunc, slices.Clone on fields. -/
import Derived.Test.YtfohhhdebinikaaGreatDoorC5
namespace Go.Proofs.YtfohhhdebinikaaGreatDoor.Sp
open Go.RowKit Sl

/-- Below B all is as it was, but for the one block 'row'. -/
structure Aft (B : Nat) (row : Option Nat) (w w' : World) : Prop where
  os : w'.os = w.os
  tape : w'.tape = w.tape
  output : w'.output = w.output
  size : w.heap.size ≤ w'.heap.size
  block : ∀ k, k < B → some k ≠ row → w'.heap[k]? = w.heap[k]?
theorem Aft.refl (B : Nat) (row : Option Nat) (w : World) : Aft B row w w := ⟨rfl, rfl, rfl, Nat.le_refl _, fun _ _ _ => rfl⟩
theorem Aft.trans {B : Nat} {row : Option Nat} {a b c : World} (h : Aft B row a b) (k : Aft B row b c) : Aft B row a c :=
  ⟨k.os.trans h.os, k.tape.trans h.tape, k.output.trans h.output, Nat.le_trans h.size k.size, fun i hi hr => (k.block i hi hr).trans (h.block i hi hr)⟩
theorem Aft.of_below {B : Nat} {row : Option Nat} {a b : World} (h : Below B a b) : Aft B row a b := ⟨h.os, h.tape, h.output, h.size, fun k hk _ => h.block k hk⟩
theorem Aft.of_grown {B : Nat} {row : Option Nat} {a b : World} (h : a.grownBy b row) (hB : B ≤ a.heap.size) : Aft B row a b := ⟨h.os, h.tape, h.output, h.size, fun k hk hr => h.block k (by omega) hr⟩
theorem Aft.below {B : Nat} {a b : World} (h : Aft B none a b) : Below B a b := ⟨h.os, h.tape, h.output, h.size, fun k hk => h.block k hk (by simp)⟩

/-- A function value that takes a field and says yes or no; it may keep a state of its own, in one block below B. -/
structure Clo (g : FuncId) (cap : Array Value) (B : Nat) (row : Option Nat) {σ : Type} (I : World → σ → Prop) (step : σ → Fld → Bool × σ) : Prop where
  turn : ∀ w w' s, I w s → Below B w w' → I w' s
  call : ∀ (w : World) (s : σ) (f : Fld), I w s → f.1.size ≤ 2000 → B ≤ w.heap.size → Calls Tryz.prog g (#[.agg #[.string f.1, .string f.2]] ++ cap) w fun e w' => e = .returned (.bool (step s f).1) ∧ I w' (step s f).2 ∧ w.grownBy w' row
  rowlt : ∀ T, row = some T → T < B

section
variable {σ : Type} (step : σ → Fld → Bool × σ)
/-- the state behind these fields -/
def runS (s : σ) (L : List Fld) : σ := L.foldl (fun s f => (step s f).2) s
/-- what is kept -/
def keepF (s : σ) : List Fld → List Fld
  | [] => []
  | f :: t => if (step s f).1 = true then keepF (step s f).2 t else f :: keepF (step s f).2 t
/-- the first place where it says yes -/
def firstF (s : σ) : List Fld → Option Nat
  | [] => none
  | f :: t => if (step s f).1 = true then some 0 else (firstF (step s f).2 t).map (· + 1)
theorem runS_take (s : σ) (L : List Fld) (k : Nat) (h : k < L.length) : runS step s (L.take (k + 1)) = (step (runS step s (L.take k)) L[k]).2 := by
  unfold runS
  rw [List.take_succ_eq_append_getElem h, List.foldl_append]; rfl
end

theorem Clo.row {σ : Type} {step : σ → Fld → Bool × σ} {g : FuncId} {cap : Array Value} {B : Nat} {row : Option Nat} {I : World → σ → Prop} (hC : Clo g cap B row I step) {w w' : World} {e : TypeId} {sz : Nat} {v : Value} {n : Nat} {xs : List Value} (h : w.ownsRow B e sz v n xs) (hg : w.grownBy w' row) : w'.ownsRow B e sz v n xs := by
  refine h.kept hg ?_
  cases hv : v.ownBlock with
  | none => exact .inl rfl
  | some k =>
    refine .inr fun e => ?_
    have h1 := row_base h k hv
    have h2 := hC.rowlt k e.symm
    omega

set_option maxHeartbeats 2000000 in
set_option maxRecDepth 100000 in
theorem index_any {σ : Type} (step : σ → Fld → Bool × σ) (g : FuncId) (cap : Array Value) (B : Nat) (row : Option Nat) (I : World → σ → Prop) (hC : Clo g cap B row I step)
    (eg : ∀ args w, (callFunc g args).run Tryz.prog w = .ok (.enter g args) w)
    (v : Value) (L : List Fld) (hL : L.length ≤ 1000000) (hf : ∀ f ∈ L, f.1.size ≤ 2000) (s : σ) (w : World) (hv : w.ownsRow B 30 2 v L.length (fldV L)) (hI : I w s) (hB : B ≤ w.heap.size) :
    Calls Tryz.prog 54 #[v, .func (.func g) #[] cap] w fun e w' =>
      (e = .returned (.int .i64 (-1)) ∧ (∀ k (h : k < L.length), (step (runS step s (L.take k)) L[k]).1 = false) ∧ I w' (runS step s L) ∨
        ∃ k, ∃ h : k < L.length, e = .returned (.int .i64 k) ∧ (∀ j (h : j < k) (h2 : j < L.length), (step (runS step s (L.take j)) L[j]).1 = false) ∧ (step (runS step s (L.take k)) L[k]).1 = true ∧ I w' (runS step s (L.take (k + 1)))) ∧
      w'.ownsRow B 30 2 v L.length (fldV L) ∧ Aft B row w w' := by
  obtain ⟨ao, cp, rfl⟩ := (Rd.own hv).form
  have HV := hide hv
  have HF := hide hf
  have HI := hide hI
  have HC := hide hC
  clear hv hf hI hC
  go_enter Tryz.func54, Tryz.ntmps54
  go_wp2_with fail
  go_loopw [8] (fun i wr => ∃ k : Nat, i = .int .i64 k ∧ k ≤ L.length ∧ (∀ j (h : j < k) (h2 : j < L.length), (step (runS step s (L.take j)) L[j]).1 = false) ∧ I wr (runS step s (L.take k)) ∧ wr.ownsRow B 30 2 (.slice ao L.length cp) L.length (fldV L) ∧ Aft B row w wr) (fun i _ => L.length - (intOf i).toNat)
  case atStart => exact ⟨0, rfl, Nat.zero_le _, fun j h => absurd h (Nat.not_lt_zero _), unhide HI, unhide HV, Aft.refl _ _ _⟩
  case round =>
    obtain ⟨k, rfl, hk, hall, hI, hown, haft⟩ := hrel
    have HA := hide hall
    have HI2 := hide hI
    have HO := hide hown
    rcases Nat.lt_or_ge k L.length with hlt | hge
    · obtain ⟨b, off, rfl, hb, d1, d2⟩ := fld_cells (Rd.own hown) rfl k hlt
      have hc := hide ((unhide HC).call wr _ L[k] hI ((unhide HF) _ (List.getElem_mem _)) (Nat.le_trans hB haft.size))
      clear hall hI hown
      cases hst : (step (runS step s (L.take k)) L[k]).1
      · go_wp2_with (go_at_fn g; refine (unhide hc).mono ?_; rintro e w2 ⟨rfl, hi2, hg2⟩; have H2 := hide hi2; have G2 := hide hg2; clear hi2 hg2)
        go_roundw
        case rel =>
          refine ⟨k + 1, by go_num, by omega, fun j h h2 => ?_, by rw [runS_take step s L k hlt]; exact unhide H2, (unhide HC).row (unhide HO) (unhide G2), haft.trans (Aft.of_grown (unhide G2) (Nat.le_trans hB haft.size))⟩
          rcases Nat.lt_or_ge j k with hj | hj
          · exact unhide HA j hj h2
          · have : j = k := by omega
            subst this; exact hst
        case measure => simp [intOf]; omega
      · go_wp2_with (go_at_fn g; refine (unhide hc).mono ?_; rintro e w2 ⟨rfl, hi2, hg2⟩; have H2 := hide hi2; have G2 := hide hg2; clear hi2 hg2)
        go_ret
        exact ⟨.inr ⟨k, hlt, rfl, fun j h h2 => unhide HA j h h2, hst, by rw [runS_take step s L k hlt]; exact unhide H2⟩, (unhide HC).row (unhide HO) (unhide G2), haft.trans (Aft.of_grown (unhide G2) (Nat.le_trans hB haft.size))⟩
    · have hT : L.take k = L := List.take_of_length_le hge
      have HT := Lib.hid hT
      clear hT hall hI hown
      go_wp2_with fail
      go_ret
      exact ⟨.inl ⟨rfl, fun j h => unhide HA j (by omega) h, by have := unhide HI2; rw [HT.out] at this; exact this⟩, unhide HO, haft⟩
end Go.Proofs.YtfohhhdebinikaaGreatDoor.Sp
