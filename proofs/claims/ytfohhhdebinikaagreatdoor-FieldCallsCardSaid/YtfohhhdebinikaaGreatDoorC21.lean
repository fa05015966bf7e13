/- A message that came in is opened. -/
import Derived.Test.YtfohhhdebinikaaGreatDoorF3
import Derived.ProofKit
import Derived.OpenShut
import Derived.Deep.SlicePairs
import Derived.SizedLaws
import Derived.Lib.SmallJoins
namespace Go.Proofs.YtfohhhdebinikaaGreatDoor.Sp
open Go.ChangeShapes Go.WideShapes Go.ChangeAt Go.RowKit Go.Deep Sl Go.Joins

theorem wAll {H : Type} {P : Program} {e : TypeId} {d : DataW H} {n : Nat} : ∀ {l : List (DataW H)}, d ∈ l → n ∈ d.weights P e → n ∈ DataW.weightsAll P e l
  | x :: r, h, hn => by
    simp only [DataW.weightsAll, List.mem_append]
    rcases List.mem_cons.1 h with rfl | h
    · exact .inl hn
    · exact .inr (wAll h hn)

theorem fields_of {H : Type} {enc : TypeId × Value → H} {W : World} {v : Value} {fuel : Nat} {x : DataW H × List MemPlace}
    (h : DataW.trod enc Tryz.prog W 0 (fun _ => true) true fuel 22 [v] = some x) (hw : ∀ n ∈ x.1.weights Tryz.prog 22, n ≤ reachBytes) :
    ∃ L : List Fld, L.length ≤ 9223372036854775807 ∧ (∀ f ∈ L, f.1.size ≤ 1000000000000000 ∧ f.2.size ≤ 1000000000000000) ∧ Rd W v L.length 2 (fldV L) := by
  rcases open_slice_pairs Tryz.underlying22 Tryz.underlying30 (by kernel_rfl) rfl rfl (by kernel_rfl) (by kernel_rfl) h with ⟨hcs, _⟩ | ⟨a, len, cap, m, n, V0, V1, D0, D1, P0, P1, hcs, _, hlc, hm, hmm, rfl, hi⟩
  · simp at hcs
    subst hcs
    exact ⟨[], by simp, by simp, Rd.nil W 2⟩
  · simp at hcs
    subst hcs
    simp only [if_true] at hmm
    subst hmm
    have each : ∀ i, i < len → ∃ f : Fld, (W.cell? (a.add (i * 2)) = some (.string f.1) ∧ W.cell? (a.add (i * 2 + 1)) = some (.string f.2)) ∧ f.1.size ≤ 1000000000000000 ∧ f.2.size ≤ 1000000000000000 := fun i hi' => by
      obtain ⟨h0, h1, t0, t1⟩ := hi i (by omega)
      obtain ⟨s0, e0, q0, _⟩ := DataW.trod_string Tryz.underlying9 t0
      obtain ⟨s1, e1, q1, _⟩ := DataW.trod_string Tryz.underlying9 t1
      simp only [List.cons.injEq, and_true, Prod.mk.injEq] at e0 e1 q0 q1
      have hmem : DataW.agg [D0 i, D1 i] ∈ (List.range len).map fun i => DataW.agg [D0 i, D1 i] := List.mem_map.2 ⟨i, List.mem_range.2 hi', rfl⟩
      have hsub : ∀ q, q ∈ (DataW.agg [D0 i, D1 i]).weights Tryz.prog 30 → q ≤ reachBytes := fun q hq => hw q (by
        simp only [DataW.weights, Tryz.underlying22, List.mem_cons, List.mem_append]
        exact .inr (.inl (wAll hmem hq)))
      have hz : ∀ k, k ≤ reachBytes → k ≤ 1000000000000000 := fun k hk => by unfold reachBytes at hk; omega
      refine ⟨(s0, s1), ⟨by rw [h0, e0], by rw [h1, e1]⟩, ?_, ?_⟩
      · have := hz _ (hsub s0.data.toList.length (by simp [DataW.weights, Tryz.underlying30, DataW.weightsEach, q0.1]))
        simpa using this
      · have := hz _ (hsub s1.data.toList.length (by simp [DataW.weights, Tryz.underlying30, DataW.weightsEach, q1.1]))
        simpa using this
    obtain ⟨f, hf'⟩ := choose_lt each
    refine ⟨(List.range len).map f, by simp; unfold maxLen at hm; omega, fun x hx => ?_, ?_⟩
    · obtain ⟨i, hi', rfl⟩ := List.mem_map.1 hx
      exact (hf' i (List.mem_range.1 hi')).2
    · refine ⟨some a, m, by simp, by simpa using hlc, (fun h => by cases h), fldV_len _, fun hne => ?_⟩
      have hpos : 0 < len := by
        rcases Nat.eq_zero_or_pos len with h0 | h0
        · subst h0; simp [fldV] at hne
        · exact h0
      have h0 := (hf' 0 hpos).1.1
      obtain ⟨b, off, spot⟩ := a
      have hspot : spot = none := by simpa [Addr.add] using World.cell?_spot h0
      subst hspot
      refine ⟨b, off, rfl, by have := World.block_lt_of_cell? W _ h0; simpa [Addr.add] using this, fun i u hu => ?_⟩
      have hlen : ((List.range len).map f).length = len := by simp
      have hil : i < len * 2 := by
        have := (List.getElem?_eq_some_iff.1 hu).1
        rw [fldV_len, hlen] at this
        exact this
      have hg := fldV_get ((List.range len).map f) (i / 2) (by rw [hlen]; omega)
      have hc := (hf' (i / 2) (by omega)).1
      simp only [List.getElem_map, List.getElem_range] at hg
      rcases Nat.mod_two_eq_zero_or_one i with hp | hp
      · have e : i / 2 * 2 = i := by omega
        rw [e] at hg hc
        rw [hg.1] at hu
        cases hu
        have := hc.1
        rwa [Addr.add_mid] at this
      · have e : i / 2 * 2 + 1 = i := by omega
        rw [e] at hg hc
        rw [hg.2] at hu
        cases hu
        have := hc.2
        rwa [Addr.add_mid] at this

set_option maxRecDepth 100000 in
theorem fieldsP_of {H : Type} {enc : TypeId × Value → H} {W : World} {v : Value} {d : DataW H} {p : List MemPlace} {b0 : Nat} (hv : Value.okWide Tryz.prog W .any b0 22 v) (h : DataW.Trod enc Tryz.prog W 0 (fun _ => true) true 22 v d p) (hw : ∀ n ∈ d.weights Tryz.prog 22, n ≤ reachBytes) :
    ∃ L : List Fld, L.length ≤ 9223372036854775807 ∧ (∀ f ∈ L, f.1.size ≤ 1000000000000000 ∧ f.2.size ≤ 1000000000000000) ∧ Rd W v L.length 2 (fldV L) := by
  obtain ⟨ao, ln, cp, rfl⟩ := okWide_slice Tryz.underlying22 hv
  obtain ⟨fuel, hf⟩ := h
  have hf2 : DataW.trod enc Tryz.prog W 0 (fun _ => true) true fuel 22 [.slice ao ln cp] = some (d, p) := hf
  exact fields_of (x := (d, p)) hf2 hw
end Go.Proofs.YtfohhhdebinikaaGreatDoor.Sp
