/- PROVED: for every configuration and every list of requests and retries, the law BudgetPays returns true (no more retries than Most, requests and seconds pay for; a budget is never above Most nor below 0; a retry that is refused could not be paid), and its arguments read as before. Conditions: none. -/
import Derived.Test.YtdaankgaigjahaaPaysW
import Derived.Test.YtdaankgaigjahaaActsO
import Derived.Test.YtdaankgaigjahaaFrame
import Derived.Lib.SmallJoins
namespace Go.Proofs.Ytdaankgaigjahaa.Pays
open Go.ChangeShapes Go.WideShapes Go.ChangeAt Go.RowKit Go.Joins Go.Proofs.Ytdaankgaigjahaa.Bud

theorem own : ownKnob Try.prog.godebug = none := by kernel_rfl
theorem cellsC : Try.prog.cellsOf 23 = 3 := by kernel_rfl

theorem pays_long (r s m : Int) (ao : Option Addr) (len cap : Nat) (hl : 100 < len) (hm : len ≤ 9223372036854775807) (w : World) :
    Calls Try.prog 7 #[.agg #[.int .i64 r, .int .i64 s, .int .i64 m], .slice ao len cap] w fun e w' => e = .returned (.bool true) ∧ Below w.heap.size w w' := by
  go_enter Try.func7, Try.ntmps7
  go_wp2_with fail
  refine (lives_any _).mono ?_; rintro e w1 ⟨rfl, hb1⟩
  have bel : Below w.heap.size w w1 := (by repeat (first | (with_reducible exact Below.refl _ _) | (with_reducible assumption) | (with_reducible refine Below.drew ?_) | (with_reducible refine below_drewN ?_ _) | ((with_reducible refine bAlloc ?_ ?_ _); focus (first | omega | (simp; done) | (simp; omega))) | ((with_reducible refine bSet ?_ ?_ _); focus (first | omega | (simp; done) | (simp; omega))) | (refine Below.trans ?_ (Below.mono (by with_reducible assumption) (by first | omega | (simp; done) | (simp; omega))))))
  clear hb1
  go_wp2_with fail
  go_ret
  exact ⟨rfl, bel⟩

theorem pays_bad (r s m : Int) (kc : ¬ okC r s m) (ao : Option Addr) (len cap : Nat) (hl : len ≤ 100) (w : World) :
    Calls Try.prog 7 #[.agg #[.int .i64 r, .int .i64 s, .int .i64 m], .slice ao len cap] w fun e w' => e = .returned (.bool true) ∧ Below w.heap.size w w' := by
  have hck := chk_no kc
  go_enter Try.func7, Try.ntmps7
  go_wp2_with fail
  refine (lives_any _).mono ?_; rintro e w1 ⟨rfl, hb1⟩
  have bel : Below w.heap.size w w1 := (by repeat (first | (with_reducible exact Below.refl _ _) | (with_reducible assumption) | (with_reducible refine Below.drew ?_) | (with_reducible refine below_drewN ?_ _) | ((with_reducible refine bAlloc ?_ ?_ _); focus (first | omega | (simp; done) | (simp; omega))) | ((with_reducible refine bSet ?_ ?_ _); focus (first | omega | (simp; done) | (simp; omega))) | (refine Below.trans ?_ (Below.mono (by with_reducible assumption) (by first | omega | (simp; done) | (simp; omega))))))
  have HC := (Reg.Has.at w w.heap.size [.int .i64 r, .int .i64 s, .int .i64 m] 23 rfl).call hb1
  clear hb1
  have p1 := HC.cell 0 _ rfl; have q1 := HC.cell 1 _ rfl; have r1 := HC.cell 2 _ rfl; have u1 := HC.free 0 (by simp); have v1 := HC.free 1 (by simp); have x1 := HC.free 2 (by simp); have z1 := HC.lt
  go_wp2_with fail
  refine (check_any _ _ _ _).mono ?_; rintro e w2 ⟨rfl, hb2⟩
  rw [hck]
  replace bel := bel.trans (hb2.mono bel.size)
  go_wp2_with fail
  go_ret
  exact ⟨rfl, bel⟩

set_option maxRecDepth 100000 in
theorem budgetPays_lifted (os : Os) (started : os.Started) (H : Type) (enc : TypeId × Value → H) :
    ReturnsInHanded {} Try.checked os 7 .any (Rows.budgetPaysSpec.pre6 enc Try.prog Try.f7 Rows.budgetPaysRow.domain false) (Rows.budgetPaysSpec.post enc Try.prog Try.f7 false true false false) := by
  refine returnsInHanded_of_change (C := Try.checked) own started (by kernel_rfl) Try.func7
    (ChangeSpec.witness6 (enc := enc) (C := Try.checked) false ⟨#[], #[.agg #[.int .i64 0, .int .i64 0, .int .i64 0], .slice none 0 0], []⟩ 8 (by kernel_rfl) (by kernel_rfl) (by kernel_rfl) (by kernel_rfl)) ?_
  intro W base args ds gs before hval0 hW hcnd _
  have hval : ∀ (j : Nat) t v, Try.f7.params[j]? = some t → args[j]? = some v → Value.okWide Try.prog W .any base t v := hval0
  have hW' := hW
  obtain ⟨p, q, hA0, hV, rfl, hfz, hnd⟩ := hW
  have hA : DataW.TrodAll enc Try.prog W 0 (fun _ => true) true Try.f7.params.toList args.toList ds p := hA0
  rw [Try.params7] at hA hval
  clear hA0 hval0
  obtain ⟨v0, vs0, d0, ds0, p0, q0, hargs, rfl, rfl, h0, r0⟩ := trodAll_cons hA
  obtain ⟨v1, vs1, d1, ds1, p1, q1, rfl, rfl, rfl, h1, r1⟩ := trodAll_cons r0
  obtain ⟨rfl, rfl, rfl⟩ := trodAll_nil r1
  obtain rfl : args = #[v0, v1] := by cases args; simp_all
  obtain ⟨c0, c1, c2, y0, y1, y2, n0, rfl, rfl, rfl, g0, g1, g2⟩ := open_agg3 Try.underlying23 (by kernel_rfl) cellsC (hval 0 23 v0 rfl rfl) h0
  obtain ⟨r, e0, rfl, wr⟩ := DataW.trod_int Try.underlying3 g0
  obtain ⟨s, e1, rfl, ws⟩ := DataW.trod_int Try.underlying3 g1
  obtain ⟨m, e2, rfl, wm⟩ := DataW.trod_int Try.underlying3 g2
  simp only [List.cons.injEq, and_true] at e0 e1 e2
  subst e0 e1 e2
  obtain ⟨ao, len, cap, rfl⟩ := okWide_slice Try.underlying24 (hval 1 24 v1 rfl rfl)
  obtain ⟨L, hL, hlm, hAc⟩ := acts_of h1
  have walk : Calls Try.prog 7 #[.agg #[.int .i64 r, .int .i64 s, .int .i64 m], .slice ao len cap] W fun e w' => e = .returned (.bool true) ∧ Below W.heap.size W w' := by
    by_cases hl : len ≤ 100
    · by_cases kc : okC r s m
      · exact pays_main r s m kc _ L (by omega) W hAc
      · exact pays_bad r s m kc ao len cap hl W
    · exact pays_long r s m ao len cap (by omega) hlm W
  refine walk.mono fun e W' ⟨he, hb⟩ => ?_
  subst he
  exact ⟨_, rfl, Frame.law_post hW' rfl (by kernel_rfl) (by rw [Try.params7]; intro t ht; simp only [List.mem_cons, List.not_mem_nil, or_false] at ht; rcases ht with (rfl | rfl) <;> exact ⟨by kernel_rfl, of_decide_eq_true (by kernel_rfl)⟩) (by kernel_rfl) Try.underlying4 rfl rfl rfl hb⟩

theorem budgetPays_holds : Rows.BudgetPaysSaid :=
  OpenClaim.holds_of_wide 7 Try.f7 rfl rfl rfl rfl rfl rfl rfl ⟨rfl, rfl, rfl, rfl, rfl⟩ rfl rfl rfl rfl rfl (by kernel_rfl) Try.func7 (by kernel_rfl)
    (of_decide_eq_true (by kernel_rfl)) (by unfold Func.isWrapper; first | (rw [if_pos (by decide +kernel)]; kernel_rfl) | (rw [if_neg (by decide +kernel)]; exact ⟨rfl, rfl⟩))
    (fun os started H enc _ => budgetPays_lifted os started H enc)
#print axioms budgetPays_holds
end Go.Proofs.Ytdaankgaigjahaa.Pays
