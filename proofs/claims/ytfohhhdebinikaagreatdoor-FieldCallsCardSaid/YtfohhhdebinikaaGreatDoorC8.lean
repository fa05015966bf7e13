/- slices.DeleteFunc on fields. -/
import Derived.Test.YtfohhhdebinikaaGreatDoorC7
import Derived.Lib.SliceRun
namespace Go.Proofs.YtfohhhdebinikaaGreatDoor.Sp
open Go.RowKit Sl

section
variable {σ : Type} (step : σ → Fld → Bool × σ)
theorem keepF_app (s : σ) (A B : List Fld) : keepF step s (A ++ B) = keepF step s A ++ keepF step (runS step s A) B := by
  induction A generalizing s with
  | nil => rfl
  | cons f t ih =>
    rw [List.cons_append, keepF, keepF, ih]
    have : runS step s (f :: t) = runS step (step s f).2 t := rfl
    rw [this]
    by_cases h : (step s f).1 = true
    · rw [if_pos h, if_pos h]
    · rw [if_neg h, if_neg h]; rfl
theorem keepF_take (s : σ) (L : List Fld) (k : Nat) (h : k < L.length) : keepF step s (L.take (k + 1)) = keepF step s (L.take k) ++ if (step (runS step s (L.take k)) L[k]).1 = true then [] else [L[k]] := by
  rw [List.take_succ_eq_append_getElem h, keepF_app]
  congr 1
theorem keepF_none (s : σ) (L : List Fld) : ∀ k, k ≤ L.length → (∀ j (h : j < k) (h2 : j < L.length), (step (runS step s (L.take j)) L[j]).1 = false) → keepF step s (L.take k) = L.take k
  | 0, _, _ => by simp [keepF]
  | k + 1, hk, h => by
    rw [keepF_take step s L k (by omega), keepF_none s L k (by omega) (fun j hj h2 => h j (by omega) h2), if_neg (by rw [h k (by omega) (by omega)]; decide), List.take_succ_eq_append_getElem (by omega)]
theorem keepF_len (s : σ) (L : List Fld) : (keepF step s L).length ≤ L.length := by
  induction L generalizing s with
  | nil => simp [keepF]
  | cons f t ih =>
    rw [keepF]
    split
    · have := ih (step s f).2; simp; omega
    · have := ih (step s f).2; simp; omega
theorem keepF_mem (s : σ) (L : List Fld) : ∀ f ∈ keepF step s L, f ∈ L := by
  induction L generalizing s with
  | nil => simp [keepF]
  | cons f t ih =>
    rw [keepF]
    intro x hx
    split at hx
    · exact List.mem_cons_of_mem _ (ih _ x hx)
    · rcases List.mem_cons.1 hx with rfl | hx
      · exact List.mem_cons_self
      · exact List.mem_cons_of_mem _ (ih _ x hx)
end

theorem own_setCells {B : Nat} {e : TypeId} {sz : Nat} {g n cap : Nat} : ∀ (l : List Value) (o : Nat) (w : World) (xs : List Value), w.ownsRow B e sz (.slice (some ⟨g, 0, none⟩) n cap) n xs →
    ∃ ys, ys.take o = xs.take o ∧ (w.setCells g o l).ownsRow B e sz (.slice (some ⟨g, 0, none⟩) n cap) n ys ∧ w.grownBy (w.setCells g o l) (some g)
  | [], o, w, xs, h => ⟨xs, rfl, h, rfl, rfl, rfl, Nat.le_refl _, fun _ _ _ => rfl⟩
  | v :: r, o, w, xs, h => by
    obtain ⟨h1, h2⟩ := h.stored o v
    obtain ⟨ys, e1, h3, h4⟩ := own_setCells r (o + 1) (w.setCell ⟨g, o, none⟩ v) _ h1
    refine ⟨ys, ?_, h3, h4.os.trans h2.os, h4.tape.trans h2.tape, h4.output.trans h2.output, Nat.le_trans h2.size h4.size, fun k hk hne => (h4.block k (Nat.lt_of_lt_of_le hk h2.size) hne).trans (h2.block k hk hne)⟩
    have e2 := congrArg (List.take o) e1
    rw [List.take_take, List.take_take, Nat.min_eq_left (Nat.le_succ o)] at e2
    rw [e2, List.take_set_of_le (Nat.le_refl _)]

theorem own_cut {w : World} {B : Nat} {e : TypeId} {sz : Nat} {g n cap i : Nat} {xs : List Value} (h : w.ownsRow B e sz (.slice (some ⟨g, 0, none⟩) n cap) n xs) (hi : i ≤ n) :
    w.ownsRow B e sz (.slice (some ⟨g, 0, none⟩) i cap) i (xs.take (i * sz)) := by
  rcases h with ⟨hl, ⟨h', _⟩ | ⟨g', cap', cur, h', hb, hg, hnc, hcm, hcs, ht⟩⟩
  · cases h'
  · cases h'
    have hm : i * sz ≤ n * sz := Nat.mul_le_mul_right _ hi
    refine ⟨by rw [List.length_take, hl]; omega, .inr ⟨g, cap, cur, rfl, hb, hg, Nat.le_trans hi hnc, hcm, hcs, ?_⟩⟩
    rw [← ht, List.take_take, Nat.min_eq_left hm]

theorem fldV_take (L : List Fld) (i : Nat) : (fldV L).take (i * 2) = fldV (L.take i) := by
  induction L generalizing i with
  | nil => simp [fldV]
  | cons f t ih =>
    cases i with
    | zero => rw [Nat.zero_mul, List.take_zero, List.take_zero]; rfl
    | succ i =>
      rw [List.take_succ_cons]
      have e1 : (i + 1) * 2 = i * 2 + 2 := by omega
      have e2 : ∀ f : Fld, ∀ l, fldV (f :: l) = Value.string f.1 :: Value.string f.2 :: fldV l := fun f l => by unfold fldV; rw [List.flatMap_cons]; rfl
      rw [e1, e2, e2, List.take_succ_cons, List.take_succ_cons, ih]
theorem fldV_set (L : List Fld) (i : Nat) (f : Fld) : ((fldV L).set (i * 2) (.string f.1)).set (i * 2 + 1) (.string f.2) = fldV (L.set i f) := by
  have e2 : ∀ f : Fld, ∀ l, fldV (f :: l) = Value.string f.1 :: Value.string f.2 :: fldV l := fun f l => by unfold fldV; rw [List.flatMap_cons]; rfl
  induction L generalizing i with
  | nil => simp [fldV]
  | cons x t ih =>
    cases i with
    | zero => rw [Nat.zero_mul, List.set_cons_zero, e2, e2, List.set_cons_zero]; rfl
    | succ i =>
      have e1 : (i + 1) * 2 = i * 2 + 2 := by omega
      rw [e1, List.set_cons_succ, e2, e2, ← ih]
      rfl

section
variable {P : Program} {ops : Array Oper} {rest : List Oper} {o : Oper} {a : Act} {w : World} {Q : Exit → Act → World → Prop}
theorem run_clear {ty : TypeId} (t e : TypeId) (z : Value) (ht : P.underlying t = some (.slice e)) (hz : ∀ w, (zeroValue e).run P w = .ok z w)
    (hz1 : ∀ u ∈ z.cells.toList, u.oneCell' = true) (hz2 : 0 < z.cells.size) (b off n c : Nat) (hn : 0 < n) (hc : ∀ j, j < n * z.cells.size → (w.cell? ⟨b, off + j, none⟩).isSome = true) (hf : ∀ j, j < n * z.cells.size → w.frozen? ⟨b, off + j, none⟩ = false) :
    ∃ l, (Builtin.clear_ #[t] ty #[.slice (some ⟨b, off, none⟩) n c]).run P w = .ok (.tuple #[]) (w.setCells b off l) := by
  have hlen : (Builtin.zeroCells z.cells n).toList.length = n * z.cells.size := by simp [Builtin.zeroCells]
  have h1 : ∀ u ∈ (Builtin.zeroCells z.cells n).toList, u.oneCell' = true := by
    intro u hu
    simp only [Builtin.zeroCells, Array.toList_map, List.mem_map] at hu
    obtain ⟨i, _, rfl⟩ := hu
    have hi : i % z.cells.size < z.cells.size := Nat.mod_lt _ hz2
    rw [getElem!_pos z.cells _ hi]
    exact hz1 _ (Array.mem_toList_iff.2 (Array.getElem_mem hi))
  have hst := run_storeCells_cells (P := P) b off (Builtin.zeroCells z.cells n).toList 0 w (by rw [hlen]; simpa using hc) (by rw [hlen]; simpa using hf) h1
  simp only [Nat.add_zero] at hst
  obtain ⟨m, rfl⟩ : ∃ m, n = m + 1 := ⟨n - 1, by omega⟩
  exact ⟨(Builtin.zeroCells z.cells (m + 1)).toList, by simp [Builtin.clear_, run_underlying ht, hz, hst]⟩
end
end Go.Proofs.YtfohhhdebinikaaGreatDoor.Sp
