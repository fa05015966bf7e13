/- A message that came in is opened, its version's bounds told; the table of powers out of the row's condition. -/
import Derived.Test.YtmmldoleillelaaDoorC21
import Derived.Test.YtmmldoleillelaaDoorE8
import Derived.LaidSub
namespace Go.Proofs.YtmmldoleillelaaDoor.Sp
open Go.ChangeShapes Go.WideShapes Go.ChangeAt Go.RowKit Go.Deep Sl Go.Joins

set_option maxRecDepth 100000 in
theorem msg_of2 {H : Type} {enc : TypeId × Value → H} {W : World} {b0 : Nat} {v : Value} {d : DataW H} {p : List MemPlace} (hv : Value.okWide Tryd.prog W .any b0 24 v)
    (h : DataW.Trod enc Tryd.prog W 0 (fun _ => true) true 24 v d p) (hw : ∀ n ∈ d.weights Tryd.prog 24, n ≤ reachBytes) :
    ∃ (me ta re bo : ByteArray) (st mi : Int) (fs tr : Value) (F T : List Fld), v = .agg (msgV me ta st re mi fs bo tr) ∧ me.size ≤ 9223372036854775807 ∧ ta.size ≤ 9223372036854775807 ∧ re.size ≤ 9223372036854775807 ∧ bo.size ≤ 9223372036854775807 ∧
      F.length ≤ 9223372036854775807 ∧ T.length ≤ 9223372036854775807 ∧ (∀ f ∈ F, f.1.size ≤ 1000000000000000 ∧ f.2.size ≤ 1000000000000000) ∧ (∀ f ∈ T, f.1.size ≤ 1000000000000000 ∧ f.2.size ≤ 1000000000000000) ∧ Rd W fs F.length 2 (fldV F) ∧ Rd W tr T.length 2 (fldV T) ∧ -9223372036854775808 ≤ mi ∧ mi ≤ 9223372036854775807 := by
  obtain ⟨cs, rfl, hsz⟩ := okWide_struct Tryd.underlying24 hv
  obtain ⟨c0, c1, c2, c3, c4, c5, c6, c7, rfl⟩ := array8 (hsz.trans (by kernel_rfl))
  obtain ⟨fuel, hf⟩ := h
  obtain ⟨xs, n, _, hx, _, hlen, hfs⟩ := DataW.trod_struct Tryd.underlying24 hf
  match xs, hlen with
  | [y0, y1, y2, y3, y4, y5, y6, y7], _ =>
    have k9 : Tryd.prog.cellsOf 9 = 1 := by kernel_rfl
    have k3 : Tryd.prog.cellsOf 3 = 1 := by kernel_rfl
    have k22 : Tryd.prog.cellsOf 22 = 1 := by kernel_rfl
    have g0 := hfs 0 _ rfl
    have g1 := hfs 1 _ rfl
    have g2 := hfs 2 _ rfl
    have g3 := hfs 3 _ rfl
    have g4 := hfs 4 _ rfl
    have g5 := hfs 5 _ rfl
    have g6 := hfs 6 _ rfl
    have g7 := hfs 7 _ rfl
    simp [Value.cells, k9, k3, k22] at g0 g1 g2 g3 g4 g5 g6 g7
    obtain ⟨me, e0, _, z0⟩ := DataW.trod_string Tryd.underlying9 g0
    obtain ⟨ta, e1, _, z1⟩ := DataW.trod_string Tryd.underlying9 g1
    obtain ⟨st, e2, _, _⟩ := DataW.trod_int Tryd.underlying3 g2
    obtain ⟨re, e3, _, z3⟩ := DataW.trod_string Tryd.underlying9 g3
    obtain ⟨mi, e4, _, wmi⟩ := DataW.trod_int Tryd.underlying3 g4
    obtain ⟨bo, e6, _, z6⟩ := DataW.trod_string Tryd.underlying9 g6
    simp only [Prod.mk.injEq] at hx
    have hwe : ∀ (j : Nat) (t : TypeId) (y : DataW H), ([9, 9, 3, 9, 3, 22, 9, 22] : List TypeId)[j]? = some t → ([y0.1, y1.1, y2.1, y3.1, y4.1, y5.1, y6.1, y7.1] : List (DataW H))[j]? = some y → ∀ q ∈ y.weights Tryd.prog t, q ≤ reachBytes := by
      intro j t y ht hy q hq
      refine hw q ?_
      rw [hx.1]
      simp only [DataW.weights, Tryd.underlying24]
      exact DataW.weights_mem_each (ts := [9, 9, 3, 9, 3, 22, 9, 22]) ht hy q hq
    obtain ⟨F, hF1, hF2, hF3⟩ := fields_of g5 (hwe 5 _ _ rfl rfl)
    obtain ⟨T, hT1, hT2, hT3⟩ := fields_of g7 (hwe 7 _ _ rfl rfl)
    unfold maxLen at z0 z1 z3 z6
    have wl : -9223372036854775808 ≤ mi ∧ mi ≤ 9223372036854775807 := by
      have h := wmi
      simp only [Lit.wf, Bool.and_eq_true, decide_eq_true_eq] at h
      exact h
    simp only [List.cons.injEq, and_true] at e0 e1 e2 e3 e4 e6
    exact ⟨me, ta, re, bo, st, mi, c5, c7, F, T, by rw [e0, e1, e2, e3, e4, e6]; rfl, by omega, by omega, by omega, by omega, hF1, hT1, hF2, hT2, hF3, hT3, wl.1, wl.2⟩

def pow10Row : List (String × DataW Unit) := [("internal/strconv.uint64pow10", Lib.tabData .u64 Lib.pow10Tab)]
theorem pow10_of {W : World} {l : List (String × DataW Unit)} (hl : (l.filter fun x => x.1 == "internal/strconv.uint64pow10") = pow10Row) (h : laidMet Tryd.prog l W) : Pow10 W := by
  have h2 := laidMet.filter (fun x => x.1 == "internal/strconv.uint64pow10") h
  rw [hl] at h2
  exact Lib.tabIs_of_head (g := 0) (by kernel_rfl) (by kernel_rfl) Tryd.underlying101 Tryd.underlying83 (by kernel_rfl) (by kernel_rfl) h2
end Go.Proofs.YtmmldoleillelaaDoor.Sp
