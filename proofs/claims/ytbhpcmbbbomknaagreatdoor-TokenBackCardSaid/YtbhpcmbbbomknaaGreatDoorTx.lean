/- A slice of texts that came in is opened. -/
import Derived.Test.YtbhpcmbbbomknaaGreatDoorS0
import Derived.ProofKit
import Derived.OpenShut
import Derived.Deep.SlicePairs
import Derived.SizedLaws
import Derived.Lib.SmallJoins
import Derived.Deep.Slices
namespace Go.Proofs.YtbhpcmbbbomknaaGreatDoor.Sp
open Go.ChangeShapes Go.WideShapes Go.ChangeAt Go.RowKit Go.Deep Sl Go.Joins

theorem wAll {H : Type} {P : Program} {e : TypeId} {d : DataW H} {n : Nat} : ∀ {l : List (DataW H)}, d ∈ l → n ∈ d.weights P e → n ∈ DataW.weightsAll P e l
  | x :: r, h, hn => by
    simp only [DataW.weightsAll, List.mem_append]
    rcases List.mem_cons.1 h with rfl | h
    · exact .inl hn
    · exact .inr (wAll h hn)

set_option maxRecDepth 100000 in
theorem texts_of {H : Type} {enc : TypeId × Value → H} {W : World} {b0 : Nat} {v : Value} {d : DataW H} {p : List MemPlace} (hv : Value.okWide Tryz.prog W .any b0 29 v)
    (h : DataW.Trod enc Tryz.prog W 0 (fun _ => true) true 29 v d p) (hw : ∀ n ∈ d.weights Tryz.prog 29, n ≤ reachBytes) :
    ∃ A : List ByteArray, A.length ≤ 9223372036854775807 ∧ (∀ x ∈ A, x.size ≤ 1000000000000000) ∧ Rd W v A.length 1 (strV A) := by
  obtain ⟨ao, ln, cp, rfl⟩ := okWide_slice Tryz.underlying29 hv
  obtain ⟨fuel, hf⟩ := h
  have hf' : DataW.trod enc Tryz.prog W 0 (fun _ => true) true fuel 29 [.slice ao ln cp] = some (d, p) := hf
  rcases open_slice1 Tryz.underlying29 (by kernel_rfl) hf' with ⟨hcs, _⟩ | ⟨a, len, cap, m, n, V, D, Pl, hcs, _, hlc, hm, hmm, hx, hi⟩
  · simp at hcs
    obtain ⟨rfl, rfl, rfl⟩ := hcs
    exact ⟨[], by simp, by simp, Rd.nil W 1⟩
  · simp at hcs
    obtain ⟨rfl, rfl, rfl⟩ := hcs
    simp only [if_true] at hmm
    subst hmm
    simp only [Prod.mk.injEq] at hx
    have each : ∀ i, i < ln → ∃ s : ByteArray, W.cell? (a.add i) = some (.string s) ∧ s.size ≤ 1000000000000000 := fun i hi' => by
      obtain ⟨h0, t0⟩ := hi i (by omega)
      obtain ⟨s0, e0, q0, _⟩ := DataW.trod_string Tryz.underlying9 t0
      simp only [List.cons.injEq, and_true, Prod.mk.injEq] at e0 q0
      have hmem : D i ∈ (List.range ln).map D := List.mem_map.2 ⟨i, List.mem_range.2 hi', rfl⟩
      have hsub : ∀ q, q ∈ (D i).weights Tryz.prog 9 → q ≤ reachBytes := fun q hq => hw q (by
        rw [hx.1]
        simp only [DataW.weights, Tryz.underlying29, List.mem_cons, List.mem_append]
        exact .inr (.inl (wAll hmem hq)))
      refine ⟨s0, by rw [h0, e0], ?_⟩
      have := hsub s0.data.toList.length (by simp [DataW.weights, q0.1])
      have h9 : s0.data.toList.length = s0.size := by simp
      unfold reachBytes at this
      omega
    obtain ⟨f, hf'⟩ := choose_lt each
    refine ⟨(List.range ln).map f, by simp; unfold maxLen at hm; omega, fun x hx => ?_, ?_⟩
    · obtain ⟨i, hi', rfl⟩ := List.mem_map.1 hx
      exact (hf' i (List.mem_range.1 hi')).2
    · refine ⟨some a, m, by simp, by simpa using hlc, (fun h => by cases h), strV_len _, fun hne => ?_⟩
      have hpos : 0 < ln := by
        rcases Nat.eq_zero_or_pos ln with h0 | h0
        · subst h0; simp [strV] at hne
        · exact h0
      have h0 := (hf' 0 hpos).1
      obtain ⟨b, off, spot⟩ := a
      have hspot : spot = none := by simpa [Addr.add] using World.cell?_spot h0
      subst hspot
      refine ⟨b, off, rfl, by have := World.block_lt_of_cell? W _ h0; simpa [Addr.add] using this, fun i u hu => ?_⟩
      have hlen : ((List.range ln).map f).length = ln := by simp
      have hil : i < ln := by
        have := (List.getElem?_eq_some_iff.1 hu).1
        rw [strV_len, hlen] at this
        omega
      have hg := strV_get ((List.range ln).map f) i (by rw [hlen]; omega)
      rw [hg] at hu
      cases hu
      have := (hf' i hil).1
      rw [Addr.add_mid] at this
      simpa using this
end Go.Proofs.YtbhpcmbbbomknaaGreatDoor.Sp
