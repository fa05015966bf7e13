/- PROVED: for every configuration, two amounts and every list of requests and retries, the law BudgetMore returns true (with more at first there is never less later, and no fewer retries; with nothing at all a retry is refused), and its arguments read as before. Conditions: none. -/
import Derived.Test.YtdaankgaigjahaaMoreW
import Derived.Test.YtdaankgaigjahaaActsO
import Derived.Test.YtdaankgaigjahaaFrame
import Derived.Lib.SmallJoins
namespace Go.Proofs.Ytdaankgaigjahaa.More
open Go.ChangeShapes Go.WideShapes Go.ChangeAt Go.RowKit Go.Joins Go.Proofs.Ytdaankgaigjahaa.Bud

theorem own : ownKnob Try.prog.godebug = none := by kernel_rfl
theorem cellsC : Try.prog.cellsOf 23 = 3 := by kernel_rfl

theorem more_long (r s m a b : Int) (ao : Option Addr) (len cap : Nat) (hl : 100 < len) (hm : len ≤ 9223372036854775807) (w : World) :
    Calls Try.prog 3 #[.agg #[.int .i64 r, .int .i64 s, .int .i64 m], .int .i64 a, .int .i64 b, .slice ao len cap] w fun e w' => e = .returned (.bool true) ∧ Below w.heap.size w w' := by
  go_enter Try.func3, Try.ntmps3
  go_wp2_with fail
  refine (lives_any _).mono ?_; rintro e w1 ⟨rfl, hb1⟩
  have bel : Below w.heap.size w w1 := (by repeat (first | (with_reducible exact Below.refl _ _) | (with_reducible assumption) | (with_reducible refine Below.drew ?_) | (with_reducible refine below_drewN ?_ _) | ((with_reducible refine bAlloc ?_ ?_ _); focus (first | omega | (simp; done) | (simp; omega))) | ((with_reducible refine bSet ?_ ?_ _); focus (first | omega | (simp; done) | (simp; omega))) | (refine Below.trans ?_ (Below.mono (by with_reducible assumption) (by first | omega | (simp; done) | (simp; omega))))))
  clear hb1
  go_wp2_with fail
  go_ret
  exact ⟨rfl, bel⟩

theorem more_bad (r s m a b : Int) (kc : ¬ okC r s m) (ao : Option Addr) (len cap : Nat) (hl : len ≤ 100) (w : World) :
    Calls Try.prog 3 #[.agg #[.int .i64 r, .int .i64 s, .int .i64 m], .int .i64 a, .int .i64 b, .slice ao len cap] w fun e w' => e = .returned (.bool true) ∧ Below w.heap.size w w' := by
  have hck := chk_no kc
  go_enter Try.func3, Try.ntmps3
  go_wp2_with fail
  refine (lives_any _).mono ?_; rintro e w1 ⟨rfl, hb1⟩
  have bel : Below w.heap.size w w1 := (by repeat (first | (with_reducible exact Below.refl _ _) | (with_reducible assumption) | (with_reducible refine Below.drew ?_) | (with_reducible refine below_drewN ?_ _) | ((with_reducible refine bAlloc ?_ ?_ _); focus (first | omega | (simp; done) | (simp; omega))) | ((with_reducible refine bSet ?_ ?_ _); focus (first | omega | (simp; done) | (simp; omega))) | (refine Below.trans ?_ (Below.mono (by with_reducible assumption) (by first | omega | (simp; done) | (simp; omega))))))
  have HC := (Reg.Has.at w w.heap.size [.int .i64 r, .int .i64 s, .int .i64 m] 23 rfl).call hb1
  clear hb1
  have p1 := HC.cell 0 _ rfl; have q1 := HC.cell 1 _ rfl; have r1 := HC.cell 2 _ rfl; have u1 := HC.free 0 (by simp); have v1 := HC.free 1 (by simp); have x1 := HC.free 2 (by simp); have z1 := HC.lt
  go_wp2_with fail
  refine (check_any _ _ _ _).mono ?_; rintro e w2 ⟨rfl, hb2⟩
  rw [hck]
  replace bel := bel.trans (hb2.mono bel.size)
  go_wp2_with fail
  go_ret
  exact ⟨rfl, bel⟩

set_option maxRecDepth 100000 in
theorem budgetMore_lifted (os : Os) (started : os.Started) (H : Type) (enc : TypeId × Value → H) :
    ReturnsInHanded {} Try.checked os 3 .any (Rows.budgetMoreSpec.pre6 enc Try.prog Try.f3 Rows.budgetMoreRow.domain false) (Rows.budgetMoreSpec.post enc Try.prog Try.f3 false true false false) := by
  refine returnsInHanded_of_change (C := Try.checked) own started (by kernel_rfl) Try.func3
    (ChangeSpec.witness6 (enc := enc) (C := Try.checked) false ⟨#[], #[.agg #[.int .i64 0, .int .i64 0, .int .i64 0], .int .i64 0, .int .i64 0, .slice none 0 0], []⟩ 8 (by kernel_rfl) (by kernel_rfl) (by kernel_rfl) (by kernel_rfl)) ?_
  intro W base args ds gs before hval0 hW hcnd _
  have hval : ∀ (j : Nat) t v, Try.f3.params[j]? = some t → args[j]? = some v → Value.okWide Try.prog W .any base t v := hval0
  have hW' := hW
  obtain ⟨p, q, hA0, hV, rfl, hfz, hnd⟩ := hW
  have hA : DataW.TrodAll enc Try.prog W 0 (fun _ => true) true Try.f3.params.toList args.toList ds p := hA0
  rw [Try.params3] at hA hval
  clear hA0 hval0
  obtain ⟨v0, vs0, d0, ds0, p0, q0, hargs, rfl, rfl, h0, r0⟩ := trodAll_cons hA
  obtain ⟨v1, vs1, d1, ds1, p1, q1, rfl, rfl, rfl, h1, r1⟩ := trodAll_cons r0
  obtain ⟨v2, vs2, d2, ds2, p2, q2, rfl, rfl, rfl, h2, r2⟩ := trodAll_cons r1
  obtain ⟨v3, vs3, d3, ds3, p3, q3, rfl, rfl, rfl, h3, r3⟩ := trodAll_cons r2
  obtain ⟨rfl, rfl, rfl⟩ := trodAll_nil r3
  obtain rfl : args = #[v0, v1, v2, v3] := by cases args; simp_all
  obtain ⟨c0, c1, c2, y0, y1, y2, n0, rfl, rfl, rfl, g0, g1, g2⟩ := open_agg3 Try.underlying23 (by kernel_rfl) cellsC (hval 0 23 v0 rfl rfl) h0
  obtain ⟨r, e0, rfl, wr⟩ := DataW.trod_int Try.underlying3 g0
  obtain ⟨s, e1, rfl, ws⟩ := DataW.trod_int Try.underlying3 g1
  obtain ⟨m, e2, rfl, wm⟩ := DataW.trod_int Try.underlying3 g2
  simp only [List.cons.injEq, and_true] at e0 e1 e2
  subst e0 e1 e2
  obtain ⟨a, rfl, rfl, rfl, wa⟩ := open_int Try.underlying3 (hval 1 3 v1 rfl rfl) h1
  obtain ⟨b, rfl, rfl, rfl, wb⟩ := open_int Try.underlying3 (hval 2 3 v2 rfl rfl) h2
  obtain ⟨ao, len, cap, rfl⟩ := okWide_slice Try.underlying24 (hval 3 24 v3 rfl rfl)
  obtain ⟨L, hL, hlm, hAc⟩ := acts_of h3
  have walk : Calls Try.prog 3 #[.agg #[.int .i64 r, .int .i64 s, .int .i64 m], .int .i64 a, .int .i64 b, .slice ao len cap] W fun e w' => e = .returned (.bool true) ∧ Below W.heap.size W w' := by
    by_cases hl : len ≤ 100
    · by_cases kc : okC r s m
      · exact more_main r s m a b kc _ L (by omega) W hAc
      · exact more_bad r s m a b kc ao len cap hl W
    · exact more_long r s m a b ao len cap (by omega) hlm W
  refine walk.mono fun e W' ⟨he, hb⟩ => ?_
  subst he
  exact ⟨_, rfl, Frame.law_post hW' rfl (by kernel_rfl) (by rw [Try.params3]; intro t ht; simp only [List.mem_cons, List.not_mem_nil, or_false] at ht; rcases ht with (rfl | rfl | rfl | rfl) <;> exact ⟨by kernel_rfl, of_decide_eq_true (by kernel_rfl)⟩) (by kernel_rfl) Try.underlying4 rfl rfl rfl hb⟩

theorem budgetMore_holds : Rows.BudgetMoreSaid :=
  OpenClaim.holds_of_wide 3 Try.f3 rfl rfl rfl rfl rfl rfl rfl ⟨rfl, rfl, rfl, rfl, rfl⟩ rfl rfl rfl rfl rfl (by kernel_rfl) Try.func3 (by kernel_rfl)
    (of_decide_eq_true (by kernel_rfl)) (by unfold Func.isWrapper; first | (rw [if_pos (by decide +kernel)]; kernel_rfl) | (rw [if_neg (by decide +kernel)]; exact ⟨rfl, rfl⟩))
    (fun os started H enc _ => budgetMore_lifted os started H enc)
#print axioms budgetMore_holds
end Go.Proofs.Ytdaankgaigjahaa.More
