/- PROVED: for any method, path and host, the law StartTargets returns true (a path is a target by itself and behind a host; hosts are in lower case; a target is refused or has a path, except for two forms), and its arguments read as before. Conditions: none. -/
import Derived.Test.YtfkobhagdjaleaaTgtW
import Derived.Test.YtfkobhagdjaleaaFrame
import Derived.HandedShaped
import Derived.Lib.SmallJoins
namespace Go.Proofs.Ytfkobhagdjaleaa.Tgt
open Go.ChangeShapes Go.WideShapes Go.ChangeAt Go.RowKit Go.Joins
open Go.ChangeMaps (open_string shut_string)
open Go.Proofs.Ytfkobhagdjaleaa.Sp

theorem own : ownKnob Try.prog.godebug = none := by kernel_rfl
theorem tg_any (m p h : ByteArray) (h1 : m.size ≤ 9223372036854775807) (h2 : p.size ≤ 9223372036854775807) (h3 : h.size ≤ 9223372036854775807) (w : World) (hM : MaxV w) :
    Calls Try.prog 3 #[.string m, .string p, .string h] w fun e w' => e = .returned (.bool true) ∧ Below w.heap.size w w' := by
  by_cases hl : 20 < m.size ∨ (m.size ≤ 20 ∧ 100 < p.size) ∨ (m.size ≤ 20 ∧ p.size ≤ 100 ∧ 100 < h.size)
  · exact tg_long m p h hl h1 h2 h3 w hM
  · rcases tgt_cases m.data.toList p.data.toList with ht | ht | ht | ht | ⟨a, b, c, d, e⟩
    · exact tg_ends m p h (by omega) (by omega) (by omega) (.inl ht) w hM
    · exact tg_ends m p h (by omega) (by omega) (by omega) (.inr (.inl ⟨_, ht⟩)) w hM
    · exact tg_ends m p h (by omega) (by omega) (by omega) (.inr (.inr (.inl ht))) w hM
    · exact tg_ends m p h (by omega) (by omega) (by omega) (.inr (.inr (.inr ht))) w hM
    · exact tg_main m p h (by omega) (by omega) (by omega) a b c d e w hM

set_option maxRecDepth 100000 in
theorem startTargets_lifted (os : Os) (started : os.Started) (H : Type) (enc : TypeId × Value → H) :
    ReturnsInHanded {} Try.checked os 3 .any (Rows.startTargetsSpec.pre6 enc Try.prog Try.f3 Rows.startTargetsRow.domain false) (Rows.startTargetsSpec.post enc Try.prog Try.f3 false true false false) := by
  refine returnsInHanded_of_change_shaped (C := Try.checked) own started (by kernel_rfl) Try.func3
    (ChangeSpec.witness6 (enc := enc) (C := Try.checked) false ⟨#[], #[.string ⟨#[]⟩, .string ⟨#[]⟩, .string ⟨#[]⟩], []⟩ 8 (by kernel_rfl) (by kernel_rfl) (by kernel_rfl) (by kernel_rfl)) ?_
  intro W base args ds gs before hval0 hW hcnd _ hsh _
  have hval : ∀ (j : Nat) t v, Try.f3.params[j]? = some t → args[j]? = some v → Value.okWide Try.prog W .any base t v := hval0
  have hW' := hW
  obtain ⟨p, q, hA0, hV, rfl, hfz, hnd⟩ := hW
  have hA : DataW.TrodAll enc Try.prog W 0 (fun _ => true) true Try.f3.params.toList args.toList ds p := hA0
  rw [Try.params3] at hA hval
  clear hA0 hval0
  obtain ⟨v0, vs0, d0, ds0, p0, q0, hargs, rfl, rfl, h0, r0⟩ := trodAll_cons hA
  obtain ⟨v1, vs1, d1, ds1, p1, q1, rfl, rfl, rfl, h1, r1⟩ := trodAll_cons r0
  obtain ⟨v2, vs2, d2, ds2, p2, q2, rfl, rfl, rfl, h2, r2⟩ := trodAll_cons r1
  obtain ⟨rfl, rfl, rfl⟩ := trodAll_nil r2
  obtain rfl : args = #[v0, v1, v2] := by cases args; simp_all
  obtain ⟨s0, rfl, rfl, rfl, w0⟩ := open_string Try.underlying9 (hval 0 9 v0 rfl rfl) h0
  obtain ⟨s1, rfl, rfl, rfl, w1⟩ := open_string Try.underlying9 (hval 1 9 v1 rfl rfl) h1
  obtain ⟨s2, rfl, rfl, rfl, w2⟩ := open_string Try.underlying9 (hval 2 9 v2 rfl rfl) h2
  unfold maxLen at w0 w1 w2
  refine (tg_any s0 s1 s2 (by omega) (by omega) (by omega) W (maxv_of hsh)).mono fun e W' ⟨he, hb⟩ => ?_
  subst he
  exact ⟨_, rfl, Frame.law_post hW' rfl (by kernel_rfl) (by rw [Try.params3]; intro t ht; simp only [List.mem_cons, List.not_mem_nil, or_false] at ht; rcases ht with (rfl | rfl | rfl) <;> exact ⟨by kernel_rfl, of_decide_eq_true (by kernel_rfl)⟩) (by kernel_rfl) Try.underlying4 rfl rfl rfl hb⟩

theorem startTargets_holds : Rows.StartTargetsSaid :=
  OpenClaim.holds_of_wide 3 Try.f3 rfl rfl rfl rfl rfl rfl rfl ⟨rfl, rfl, rfl, rfl, rfl⟩ rfl rfl rfl rfl rfl (by kernel_rfl) Try.func3 (by kernel_rfl)
    (of_decide_eq_true (by kernel_rfl)) (by unfold Func.isWrapper; first | (rw [if_pos (by decide +kernel)]; kernel_rfl) | (rw [if_neg (by decide +kernel)]; exact ⟨rfl, rfl⟩))
    (fun os started H enc _ => startTargets_lifted os started H enc)
#print axioms startTargets_holds
end Go.Proofs.Ytfkobhagdjaleaa.Tgt
