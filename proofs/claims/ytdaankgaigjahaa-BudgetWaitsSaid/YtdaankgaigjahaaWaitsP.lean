/- PROVED: for every configuration, budget and two times, the law BudgetWaits returns true (two steps of time add as much as one; more time, or one more request, never leaves less), and its arguments read as before. Conditions: none. -/
import Derived.Test.YtdaankgaigjahaaWaitsW
import Derived.Test.YtdaankgaigjahaaFrame
import Derived.Lib.SmallJoins
namespace Go.Proofs.Ytdaankgaigjahaa.Waits
open Go.ChangeShapes Go.WideShapes Go.ChangeAt Go.RowKit Go.Joins Go.Proofs.Ytdaankgaigjahaa.Bud

theorem own : ownKnob Try.prog.godebug = none := by kernel_rfl
theorem cellsC : Try.prog.cellsOf 23 = 3 := by kernel_rfl
theorem cellsB : Try.prog.cellsOf 30 = 2 := by kernel_rfl

set_option maxRecDepth 100000 in
theorem budgetWaits_lifted (os : Os) (started : os.Started) (H : Type) (enc : TypeId × Value → H) :
    ReturnsInHanded {} Try.checked os 4 .any (Rows.budgetWaitsSpec.pre6 enc Try.prog Try.f4 Rows.budgetWaitsRow.domain false) (Rows.budgetWaitsSpec.post enc Try.prog Try.f4 false true false false) := by
  refine returnsInHanded_of_change (C := Try.checked) own started (by kernel_rfl) Try.func4
    (ChangeSpec.witness6 (enc := enc) (C := Try.checked) false ⟨#[], #[.agg #[.int .i64 0, .int .i64 0, .int .i64 0], .agg #[.int .i64 0, .int .i64 0], .int .i64 0, .int .i64 0], []⟩ 8 (by kernel_rfl) (by kernel_rfl) (by kernel_rfl) (by kernel_rfl)) ?_
  intro W base args ds gs before hval0 hW hcnd _
  have hval : ∀ (j : Nat) t v, Try.f4.params[j]? = some t → args[j]? = some v → Value.okWide Try.prog W .any base t v := hval0
  have hW' := hW
  obtain ⟨p, q, hA0, hV, rfl, hfz, hnd⟩ := hW
  have hA : DataW.TrodAll enc Try.prog W 0 (fun _ => true) true Try.f4.params.toList args.toList ds p := hA0
  rw [Try.params4] at hA hval
  clear hA0 hval0
  obtain ⟨v0, vs0, d0, ds0, p0, q0, hargs, rfl, rfl, h0, r0⟩ := trodAll_cons hA
  obtain ⟨v1, vs1, d1, ds1, p1, q1, rfl, rfl, rfl, h1, r1⟩ := trodAll_cons r0
  obtain ⟨v2, vs2, d2, ds2, p2, q2, rfl, rfl, rfl, h2, r2⟩ := trodAll_cons r1
  obtain ⟨v3, vs3, d3, ds3, p3, q3, rfl, rfl, rfl, h3, r3⟩ := trodAll_cons r2
  obtain ⟨rfl, rfl, rfl⟩ := trodAll_nil r3
  obtain rfl : args = #[v0, v1, v2, v3] := by cases args; simp_all
  obtain ⟨c0, c1, c2, y0, y1, y2, n0, rfl, rfl, rfl, g0, g1, g2⟩ := open_agg3 Try.underlying23 (by kernel_rfl) cellsC (hval 0 23 v0 rfl rfl) h0
  obtain ⟨r, e0, rfl, wr⟩ := DataW.trod_int Try.underlying3 g0
  obtain ⟨s, e1, rfl, ws⟩ := DataW.trod_int Try.underlying3 g1
  obtain ⟨m, e2, rfl, wm⟩ := DataW.trod_int Try.underlying3 g2
  simp only [List.cons.injEq, and_true] at e0 e1 e2
  subst e0 e1 e2
  obtain ⟨k0, k1, x0, x1, n1, rfl, rfl, rfl, j0, j1⟩ := open_agg2 Try.underlying30 (by kernel_rfl) cellsB (hval 1 30 v1 rfl rfl) h1
  obtain ⟨v, i0, rfl, wv⟩ := DataW.trod_int Try.underlying3 j0
  obtain ⟨a, i1, rfl, wa⟩ := DataW.trod_int Try.underlying2 j1
  simp only [List.cons.injEq, and_true] at i0 i1
  subst i0 i1
  obtain ⟨t, rfl, rfl, rfl, wt⟩ := open_int Try.underlying2 (hval 2 2 v2 rfl rfl) h2
  obtain ⟨u, rfl, rfl, rfl, wu⟩ := open_int Try.underlying2 (hval 3 2 v3 rfl rfl) h3
  refine (waits_law r s m v a t u W).mono fun e W' ⟨he, hb⟩ => ?_
  subst he
  exact ⟨_, rfl, Frame.law_post hW' rfl (by kernel_rfl) (by rw [Try.params4]; intro t ht; simp only [List.mem_cons, List.not_mem_nil, or_false] at ht; rcases ht with (rfl | rfl | rfl | rfl) <;> exact ⟨by kernel_rfl, of_decide_eq_true (by kernel_rfl)⟩) (by kernel_rfl) Try.underlying4 rfl rfl rfl hb⟩

theorem budgetWaits_holds : Rows.BudgetWaitsSaid :=
  OpenClaim.holds_of_wide 4 Try.f4 rfl rfl rfl rfl rfl rfl rfl ⟨rfl, rfl, rfl, rfl, rfl⟩ rfl rfl rfl rfl rfl (by kernel_rfl) Try.func4 (by kernel_rfl)
    (of_decide_eq_true (by kernel_rfl)) (by unfold Func.isWrapper; first | (rw [if_pos (by decide +kernel)]; kernel_rfl) | (rw [if_neg (by decide +kernel)]; exact ⟨rfl, rfl⟩))
    (fun os started H enc _ => budgetWaits_lifted os started H enc)
#print axioms budgetWaits_holds
end Go.Proofs.Ytdaankgaigjahaa.Waits
