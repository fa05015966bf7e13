/- A message that came in is opened. -/
import Derived.Test.YtmmldoleillelaaDoorC20
import Derived.ProofKit
import Derived.OpenShut
import Derived.Deep.SlicePairs
import Derived.SizedLaws
import Derived.Lib.SmallJoins
namespace Go.Proofs.YtmmldoleillelaaDoor.Sp
open Go.ChangeShapes Go.WideShapes Go.ChangeAt Go.RowKit Go.Deep Sl Go.Joins

theorem wAll {H : Type} {P : Program} {e : TypeId} {d : DataW H} {n : Nat} : ∀ {l : List (DataW H)}, d ∈ l → n ∈ d.weights P e → n ∈ DataW.weightsAll P e l
  | x :: r, h, hn => by
    simp only [DataW.weightsAll, List.mem_append]
    rcases List.mem_cons.1 h with rfl | h
    · exact .inl hn
    · exact .inr (wAll h hn)

theorem fields_of {H : Type} {enc : TypeId × Value → H} {W : World} {v : Value} {fuel : Nat} {x : DataW H × List MemPlace}
    (h : DataW.trod enc Tryd.prog W 0 (fun _ => true) true fuel 22 [v] = some x) (hw : ∀ n ∈ x.1.weights Tryd.prog 22, n ≤ reachBytes) :
    ∃ L : List Fld, L.length ≤ 9223372036854775807 ∧ (∀ f ∈ L, f.1.size ≤ 1000000000000000 ∧ f.2.size ≤ 1000000000000000) ∧ Rd W v L.length 2 (fldV L) := by
  rcases open_slice_pairs Tryd.underlying22 Tryd.underlying35 (by kernel_rfl) rfl rfl (by kernel_rfl) (by kernel_rfl) h with ⟨hcs, _⟩ | ⟨a, len, cap, m, n, V0, V1, D0, D1, P0, P1, hcs, _, hlc, hm, hmm, rfl, hi⟩
  · simp at hcs
    subst hcs
    exact ⟨[], by simp, by simp, Rd.nil W 2⟩
  · simp at hcs
    subst hcs
    simp only [if_true] at hmm
    subst hmm
    have each : ∀ i, i < len → ∃ f : Fld, (W.cell? (a.add (i * 2)) = some (.string f.1) ∧ W.cell? (a.add (i * 2 + 1)) = some (.string f.2)) ∧ f.1.size ≤ 1000000000000000 ∧ f.2.size ≤ 1000000000000000 := fun i hi' => by
      obtain ⟨h0, h1, t0, t1⟩ := hi i (by omega)
      obtain ⟨s0, e0, q0, _⟩ := DataW.trod_string Tryd.underlying9 t0
      obtain ⟨s1, e1, q1, _⟩ := DataW.trod_string Tryd.underlying9 t1
      simp only [List.cons.injEq, and_true, Prod.mk.injEq] at e0 e1 q0 q1
      have hmem : DataW.agg [D0 i, D1 i] ∈ (List.range len).map fun i => DataW.agg [D0 i, D1 i] := List.mem_map.2 ⟨i, List.mem_range.2 hi', rfl⟩
      have hsub : ∀ q, q ∈ (DataW.agg [D0 i, D1 i]).weights Tryd.prog 35 → q ≤ reachBytes := fun q hq => hw q (by
        simp only [DataW.weights, Tryd.underlying22, List.mem_cons, List.mem_append]
        exact .inr (.inl (wAll hmem hq)))
      have hz : ∀ k, k ≤ reachBytes → k ≤ 1000000000000000 := fun k hk => by unfold reachBytes at hk; omega
      refine ⟨(s0, s1), ⟨by rw [h0, e0], by rw [h1, e1]⟩, ?_, ?_⟩
      · have := hz _ (hsub s0.data.toList.length (by simp [DataW.weights, Tryd.underlying35, DataW.weightsEach, q0.1]))
        simpa using this
      · have := hz _ (hsub s1.data.toList.length (by simp [DataW.weights, Tryd.underlying35, DataW.weightsEach, q1.1]))
        simpa using this
    obtain ⟨f, hf'⟩ := choose_lt each
    refine ⟨(List.range len).map f, by simp; unfold maxLen at hm; omega, fun x hx => ?_, ?_⟩
    · obtain ⟨i, hi', rfl⟩ := List.mem_map.1 hx
      exact (hf' i (List.mem_range.1 hi')).2
    · refine ⟨some a, m, by simp, by simpa using hlc, (fun h => by cases h), fldV_len _, fun hne => ?_⟩
      have hpos : 0 < len := by
        rcases Nat.eq_zero_or_pos len with h0 | h0
        · subst h0; simp [fldV] at hne
        · exact h0
      have h0 := (hf' 0 hpos).1.1
      obtain ⟨b, off, spot⟩ := a
      have hspot : spot = none := by simpa [Addr.add] using World.cell?_spot h0
      subst hspot
      refine ⟨b, off, rfl, by have := World.block_lt_of_cell? W _ h0; simpa [Addr.add] using this, fun i u hu => ?_⟩
      have hlen : ((List.range len).map f).length = len := by simp
      have hil : i < len * 2 := by
        have := (List.getElem?_eq_some_iff.1 hu).1
        rw [fldV_len, hlen] at this
        exact this
      have hg := fldV_get ((List.range len).map f) (i / 2) (by rw [hlen]; omega)
      have hc := (hf' (i / 2) (by omega)).1
      simp only [List.getElem_map, List.getElem_range] at hg
      rcases Nat.mod_two_eq_zero_or_one i with hp | hp
      · have e : i / 2 * 2 = i := by omega
        rw [e] at hg hc
        rw [hg.1] at hu
        cases hu
        have := hc.1
        rwa [Addr.add_mid] at this
      · have e : i / 2 * 2 + 1 = i := by omega
        rw [e] at hg hc
        rw [hg.2] at hu
        cases hu
        have := hc.2
        rwa [Addr.add_mid] at this

theorem array8 {α : Type} {cs : Array α} (h : cs.size = 8) : ∃ a b c d e f g i, cs = #[a, b, c, d, e, f, g, i] := by
  obtain ⟨l⟩ := cs
  match l, h with
  | [a, b, c, d, e, f, g, i], _ => exact ⟨a, b, c, d, e, f, g, i, rfl⟩
set_option maxRecDepth 100000 in
theorem msg_of {H : Type} {enc : TypeId × Value → H} {W : World} {b0 : Nat} {v : Value} {d : DataW H} {p : List MemPlace} (hv : Value.okWide Tryd.prog W .any b0 24 v)
    (h : DataW.Trod enc Tryd.prog W 0 (fun _ => true) true 24 v d p) (hw : ∀ n ∈ d.weights Tryd.prog 24, n ≤ reachBytes) :
    ∃ (me ta re bo : ByteArray) (st mi : Int) (fs tr : Value) (F T : List Fld), v = .agg (msgV me ta st re mi fs bo tr) ∧ me.size ≤ 9223372036854775807 ∧ ta.size ≤ 9223372036854775807 ∧ re.size ≤ 9223372036854775807 ∧ bo.size ≤ 9223372036854775807 ∧
      F.length ≤ 9223372036854775807 ∧ T.length ≤ 9223372036854775807 ∧ (∀ f ∈ F, f.1.size ≤ 1000000000000000 ∧ f.2.size ≤ 1000000000000000) ∧ (∀ f ∈ T, f.1.size ≤ 1000000000000000 ∧ f.2.size ≤ 1000000000000000) ∧ Rd W fs F.length 2 (fldV F) ∧ Rd W tr T.length 2 (fldV T) := by
  obtain ⟨cs, rfl, hsz⟩ := okWide_struct Tryd.underlying24 hv
  obtain ⟨c0, c1, c2, c3, c4, c5, c6, c7, rfl⟩ := array8 (hsz.trans (by kernel_rfl))
  obtain ⟨fuel, hf⟩ := h
  obtain ⟨xs, n, _, hx, _, hlen, hfs⟩ := DataW.trod_struct Tryd.underlying24 hf
  match xs, hlen with
  | [y0, y1, y2, y3, y4, y5, y6, y7], _ =>
    have k9 : Tryd.prog.cellsOf 9 = 1 := by kernel_rfl
    have k3 : Tryd.prog.cellsOf 3 = 1 := by kernel_rfl
    have k22 : Tryd.prog.cellsOf 22 = 1 := by kernel_rfl
    have g0 := hfs 0 _ rfl
    have g1 := hfs 1 _ rfl
    have g2 := hfs 2 _ rfl
    have g3 := hfs 3 _ rfl
    have g4 := hfs 4 _ rfl
    have g5 := hfs 5 _ rfl
    have g6 := hfs 6 _ rfl
    have g7 := hfs 7 _ rfl
    simp [Value.cells, k9, k3, k22] at g0 g1 g2 g3 g4 g5 g6 g7
    obtain ⟨me, e0, _, z0⟩ := DataW.trod_string Tryd.underlying9 g0
    obtain ⟨ta, e1, _, z1⟩ := DataW.trod_string Tryd.underlying9 g1
    obtain ⟨st, e2, _, _⟩ := DataW.trod_int Tryd.underlying3 g2
    obtain ⟨re, e3, _, z3⟩ := DataW.trod_string Tryd.underlying9 g3
    obtain ⟨mi, e4, _, _⟩ := DataW.trod_int Tryd.underlying3 g4
    obtain ⟨bo, e6, _, z6⟩ := DataW.trod_string Tryd.underlying9 g6
    simp only [Prod.mk.injEq] at hx
    have hwe : ∀ (j : Nat) (t : TypeId) (y : DataW H), ([9, 9, 3, 9, 3, 22, 9, 22] : List TypeId)[j]? = some t → ([y0.1, y1.1, y2.1, y3.1, y4.1, y5.1, y6.1, y7.1] : List (DataW H))[j]? = some y → ∀ q ∈ y.weights Tryd.prog t, q ≤ reachBytes := by
      intro j t y ht hy q hq
      refine hw q ?_
      rw [hx.1]
      simp only [DataW.weights, Tryd.underlying24]
      exact DataW.weights_mem_each (ts := [9, 9, 3, 9, 3, 22, 9, 22]) ht hy q hq
    obtain ⟨F, hF1, hF2, hF3⟩ := fields_of g5 (hwe 5 _ _ rfl rfl)
    obtain ⟨T, hT1, hT2, hT3⟩ := fields_of g7 (hwe 7 _ _ rfl rfl)
    unfold maxLen at z0 z1 z3 z6
    simp only [List.cons.injEq, and_true] at e0 e1 e2 e3 e4 e6
    exact ⟨me, ta, re, bo, st, mi, c5, c7, F, T, by rw [e0, e1, e2, e3, e4, e6]; rfl, by omega, by omega, by omega, by omega, hF1, hT1, hF2, hT2, hF3, hT3⟩
end Go.Proofs.YtmmldoleillelaaDoor.Sp
