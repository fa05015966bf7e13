/- PROVED: for any two bytes and any text of a version, the law StartVersions returns true (a first line that is right except for its version is refused because of it: 505 for a digit, a dot and a digit, else 400), and its arguments read as before. Conditions: none. -/
import Derived.Test.YtfkobhagdjaleaaVersW
import Derived.Test.YtfkobhagdjaleaaFrame
import Derived.HandedShaped
import Derived.Lib.SmallJoins
namespace Go.Proofs.Ytfkobhagdjaleaa.Sp
open Go.ChangeShapes Go.WideShapes Go.ChangeAt Go.RowKit Go.Joins
open Go.ChangeMaps (open_string shut_string)

theorem own : ownKnob Try.prog.godebug = none := by kernel_rfl
theorem byte_of {k : Int} (h : (Lit.int IntKind.u8 k).wf = true) : ∃ c : UInt8, k = (c.toNat : Int) := by
  have h1 : 0 ≤ k ∧ k ≤ 255 := by
    unfold Lit.wf at h
    rw [Bool.and_eq_true, decide_eq_true_iff, decide_eq_true_iff] at h
    exact h
  exact ⟨UInt8.ofNat k.toNat, by rw [UInt8.toNat_ofNat']; omega⟩

set_option maxRecDepth 100000 in
theorem startVersions_lifted (os : Os) (started : os.Started) (H : Type) (enc : TypeId × Value → H) :
    ReturnsInHanded {} Try.checked os 4 .any (Rows.startVersionsSpec.pre6 enc Try.prog Try.f4 Rows.startVersionsRow.domain false) (Rows.startVersionsSpec.post enc Try.prog Try.f4 false true false false) := by
  refine returnsInHanded_of_change_shaped (C := Try.checked) own started (by kernel_rfl) Try.func4
    (ChangeSpec.witness6 (enc := enc) (C := Try.checked) false ⟨#[], #[.int .u8 0, .int .u8 0, .string ⟨#[]⟩], []⟩ 8 (by kernel_rfl) (by kernel_rfl) (by kernel_rfl) (by kernel_rfl)) ?_
  intro W base args ds gs before hval0 hW hcnd _ hsh _
  have hval : ∀ (j : Nat) t v, Try.f4.params[j]? = some t → args[j]? = some v → Value.okWide Try.prog W .any base t v := hval0
  have hW' := hW
  obtain ⟨p, q, hA0, hV, rfl, hfz, hnd⟩ := hW
  have hA : DataW.TrodAll enc Try.prog W 0 (fun _ => true) true Try.f4.params.toList args.toList ds p := hA0
  rw [Try.params4] at hA hval
  clear hA0 hval0
  obtain ⟨v0, vs0, d0, ds0, p0, q0, hargs, rfl, rfl, h0, r0⟩ := trodAll_cons hA
  obtain ⟨v1, vs1, d1, ds1, p1, q1, rfl, rfl, rfl, h1, r1⟩ := trodAll_cons r0
  obtain ⟨v2, vs2, d2, ds2, p2, q2, rfl, rfl, rfl, h2, r2⟩ := trodAll_cons r1
  obtain ⟨rfl, rfl, rfl⟩ := trodAll_nil r2
  obtain rfl : args = #[v0, v1, v2] := by cases args; simp_all
  obtain ⟨a, rfl, rfl, rfl, wa⟩ := open_int Try.underlying5 (hval 0 5 v0 rfl rfl) h0
  obtain ⟨b, rfl, rfl, rfl, wb⟩ := open_int Try.underlying5 (hval 1 5 v1 rfl rfl) h1
  obtain ⟨s, rfl, rfl, rfl, ws⟩ := open_string Try.underlying9 (hval 2 9 v2 rfl rfl) h2
  obtain ⟨ca, hca⟩ := byte_of wa
  obtain ⟨cb, hcb⟩ := byte_of wb
  have hm : s.size ≤ 9223372036854775807 := by unfold maxLen at ws; omega
  have walk : Calls Try.prog 4 #[.int .u8 a, .int .u8 b, .string s] W fun e w' => e = .returned (.bool true) ∧ Below W.heap.size W w' := by
    rw [hca, hcb]
    by_cases hl : s.size ≤ 20
    · exact vers_any ca cb s hl W (maxv_of hsh)
    · exact vers_long ca cb s (by omega) hm W (maxv_of hsh)
  refine walk.mono fun e W' ⟨he, hb⟩ => ?_
  subst he
  exact ⟨_, rfl, Frame.law_post hW' rfl (by kernel_rfl) (by rw [Try.params4]; intro t ht; simp only [List.mem_cons, List.not_mem_nil, or_false] at ht; rcases ht with (rfl | rfl | rfl) <;> exact ⟨by kernel_rfl, of_decide_eq_true (by kernel_rfl)⟩) (by kernel_rfl) Try.underlying4 rfl rfl rfl hb⟩

theorem startVersions_holds : Rows.StartVersionsSaid :=
  OpenClaim.holds_of_wide 4 Try.f4 rfl rfl rfl rfl rfl rfl rfl ⟨rfl, rfl, rfl, rfl, rfl⟩ rfl rfl rfl rfl rfl (by kernel_rfl) Try.func4 (by kernel_rfl)
    (of_decide_eq_true (by kernel_rfl)) (by unfold Func.isWrapper; first | (rw [if_pos (by decide +kernel)]; kernel_rfl) | (rw [if_neg (by decide +kernel)]; exact ⟨rfl, rfl⟩))
    (fun os started H enc _ => startVersions_lifted os started H enc)
#print axioms startVersions_holds
end Go.Proofs.Ytfkobhagdjaleaa.Sp
