/- The example that is asked first; what is gone through. -/
import Derived.Test.YtfohhhdebinikaaGreatDoorF4
namespace Go.Proofs.YtfohhhdebinikaaGreatDoor.Sp
open Go.RowKit Sl

theorem line_one (s x y : ByteArray) (hs : s.size ≤ 1000000) (hf : lineF s = (x, y)) (hb : lineB s = true) (w : World) (hM : MaxV w) :
    Calls Tryz.prog 13 #[.string s] w fun e w' => e = .returned (.tuple #[.agg #[.string x, .string y], .int .i64 0]) ∧ Below w.heap.size w w' := by
  have h := line_any s hs w hM
  rw [hf, hb] at h
  exact h
theorem line_none (s : ByteArray) (hs : s.size ≤ 1000000) (hb : lineB s = false) (w : World) (hM : MaxV w) :
    Calls Tryz.prog 13 #[.string s] w fun e w' => e = .returned (.tuple #[.agg #[.string ⟨#[]⟩, .string ⟨#[]⟩], .int .i64 4]) ∧ Below w.heap.size w w' := by
  have h := line_any s hs w hM
  rw [hb] at h
  exact h
theorem lv_a : lineF ⟨#[65, 58, 32, 32, 98, 32]⟩ = (⟨#[65]⟩, ⟨#[98]⟩) := by decide +kernel
theorem lv_b : lineB ⟨#[65, 58, 32, 32, 98, 32]⟩ = true := by decide +kernel
theorem lv_c : lineB ⟨#[65, 32, 58, 32, 98]⟩ = false := by decide +kernel

set_option maxRecDepth 100000 in
set_option maxHeartbeats 2000000 in
theorem lives_any (w : World) (hM : MaxV w) : Calls Tryz.prog 9 #[] w fun e w' => e = .returned (.bool true) ∧ Below w.heap.size w w' := by
  have HM := hide hM
  have HB := hide (Below.refl w.heap.size w)
  have heq := fun w => eqlFld ⟨#[65]⟩ ⟨#[98]⟩ ⟨#[65]⟩ ⟨#[98]⟩ w
  rw [show (((⟨#[65]⟩ : ByteArray).toList == (⟨#[65]⟩ : ByteArray).toList) && ((⟨#[98]⟩ : ByteArray).toList == (⟨#[98]⟩ : ByteArray).toList)) = true by simp] at heq
  have hgu := fun x y xs ys w => guardFld .eql x y xs ys w
  clear hM
  go_enter Tryz.func9, Tryz.ntmps9
  go_upto_region 2 with (go_at_call 13; refine (line_one ⟨#[65, 58, 32, 32, 98, 32]⟩ _ _ (by decide) lv_a lv_b _ ((unhide HM).below (unhide HB))).mono ?_; rintro e w1 ⟨rfl, hb⟩; have HB := hide ((unhide HB).trans (hb.mono (unhide HB).size)); clear hb)
  have HH := hide (Reg.Has.new w1 [.string ⟨#[65]⟩, .string ⟨#[98]⟩] 30)
  have HB := hide ((unhide HB).alloc (unhide HB).size (.cells #[.string ⟨#[65]⟩, .string ⟨#[98]⟩] 30))
  generalize w1.alloc (.cells #[.string ⟨#[65]⟩, .string ⟨#[98]⟩] 30) = w2 at HH HB ⊢
  generalize w1.heap.size = g at *
  go_upto_region 3 with (go_at_call 13; refine (line_none ⟨#[65, 32, 58, 32, 98]⟩ (by decide) lv_c _ ((unhide HM).below (unhide HB))).mono ?_; rintro e w3 ⟨rfl, hb⟩; have HH := hide ((unhide HH).call hb); have HB := hide ((unhide HB).trans (hb.mono (unhide HB).size)); clear hb)
  have hh := (unhide HH).alloc (.cells #[.string ⟨#[]⟩, .string ⟨#[]⟩] 30)
  have HB := hide ((unhide HB).alloc (unhide HB).size (.cells #[.string ⟨#[]⟩, .string ⟨#[]⟩] 30))
  generalize w3.alloc (.cells #[.string ⟨#[]⟩, .string ⟨#[]⟩] 30) = w4 at hh HB ⊢
  have p1 := hh.cell 0 _ rfl; have q1 := hh.cell 1 _ rfl; have u1 := hh.free 0 (by simp); have v1 := hh.free 1 (by simp); have z1 := hh.lt
  clear hh
  go_wp2_with fail
  go_ret
  exact ⟨rfl, unhide HB⟩

def LightO (w : World) (L : List Fld) (e : Ending) (w' : World) : Prop := ∃ r, e = .returned (.bool r) ∧ (r = true → L.length ≤ 30 ∧ ∀ f ∈ L, f.1.size + f.2.size ≤ 600) ∧ Below w.heap.size w w'
theorem lightK (v : Value) (L : List Fld) (hL : L.length ≤ 9223372036854775807) (hf : ∀ f ∈ L, f.1.size ≤ 1000000000000000 ∧ f.2.size ≤ 1000000000000000) (w : World) (hv : Rd w v L.length 2 (fldV L)) :
    Calls Tryz.prog 38 #[v, .int .i64 30, .int .i64 600] w (LightO w L) := lightF_any v L 30 600 hL (by decide) (by decide) hf w hv
theorem light_any (v : Value) (L : List Fld) (hL : L.length ≤ 9223372036854775807) (hf : ∀ f ∈ L, f.1.size ≤ 1000000000000000 ∧ f.2.size ≤ 1000000000000000) (w : World) (hv : Rd w v L.length 2 (fldV L)) :
    Calls Tryz.prog 10 #[v] w (LightO w L) := by
  have HK := hide (lightK v L hL hf w hv)
  obtain ⟨ao, cap, rfl⟩ := hv.form
  clear hv hf
  go_enter Tryz.func10, Tryz.ntmps10
  go_wp2_with (go_at_call 38; refine (unhide HK).mono ?_; rintro e w1 ⟨r, rfl, hr, hb⟩; have HR := hide hr; have HB := hide hb; clear hr hb)
  go_ret
  exact ⟨r, rfl, unhide HR, unhide HB⟩
theorem light_few {L : List Fld} (h : L.length ≤ 30 ∧ ∀ f ∈ L, f.1.size + f.2.size ≤ 600) : L.length ≤ 30 ∧ ∀ f ∈ L, f.1.size ≤ 600 ∧ f.2.size ≤ 600 := ⟨h.1, fun f hf => by have := h.2 f hf; omega⟩
end Go.Proofs.YtfohhhdebinikaaGreatDoor.Sp
