/- Light messages. -/
import Derived.Test.YtmmldoleillelaaDoorC18
namespace Go.Proofs.YtmmldoleillelaaDoor.Sp
open Go.RowKit Sl

/-- a message's eight cells -/
def msgV (me ta : ByteArray) (st : Int) (re : ByteArray) (mi : Int) (fs : Value) (bo : ByteArray) (tr : Value) : Array Value := #[.string me, .string ta, .int .i64 st, .string re, .int .i64 mi, fs, .string bo, tr]

def LightOut (w : World) (F : List Fld) (most bytes : Nat) (e : Ending) (w' : World) : Prop := ∃ r, e = .returned (.bool r) ∧ (r = true → F.length ≤ most ∧ ∀ f ∈ F, f.1.size + f.2.size ≤ bytes) ∧ Below w.heap.size w w'
theorem lightF20 (v : Value) (L : List Fld) (hL : L.length ≤ 9223372036854775807) (hf : ∀ f ∈ L, f.1.size ≤ 1000000000000000 ∧ f.2.size ≤ 1000000000000000) (w : World) (hv : Rd w v L.length 2 (fldV L)) :
    Calls Tryd.prog 51 #[v, .int .i64 20, .int .i64 600] w (LightOut w L 20 600) := lightF_any v L 20 600 hL (by omega) (by omega) hf w hv
theorem lightF10 (v : Value) (L : List Fld) (hL : L.length ≤ 9223372036854775807) (hf : ∀ f ∈ L, f.1.size ≤ 1000000000000000 ∧ f.2.size ≤ 1000000000000000) (w : World) (hv : Rd w v L.length 2 (fldV L)) :
    Calls Tryd.prog 51 #[v, .int .i64 10, .int .i64 300] w (LightOut w L 10 300) := lightF_any v L 10 300 hL (by omega) (by omega) hf w hv

set_option maxRecDepth 100000 in
set_option maxHeartbeats 1000000 in
theorem lightM_any (me ta re bo : ByteArray) (st mi : Int) (fs tr : Value) (F T : List Fld) (h1 : me.size ≤ 9223372036854775807) (h2 : ta.size ≤ 9223372036854775807) (h3 : re.size ≤ 9223372036854775807) (h4 : bo.size ≤ 9223372036854775807)
    (hF : F.length ≤ 9223372036854775807) (hT : T.length ≤ 9223372036854775807) (hf : ∀ f ∈ F, f.1.size ≤ 1000000000000000 ∧ f.2.size ≤ 1000000000000000) (ht : ∀ f ∈ T, f.1.size ≤ 1000000000000000 ∧ f.2.size ≤ 1000000000000000) (w : World) (hv : Rd w fs F.length 2 (fldV F)) (hu : Rd w tr T.length 2 (fldV T)) :
    Calls Tryd.prog 32 #[.agg (msgV me ta st re mi fs bo tr)] w (LightOut w F 20 600) := by
  obtain ⟨ao, cap, rfl⟩ := hv.form
  obtain ⟨bo', caq, rfl⟩ := hu.form
  have HV := hide hv
  have HU := hide hu
  have hl1 := hide (fun w' (h : Below w.heap.size w w') => lightF20 _ F hF hf w' (hv.below h))
  have hl2 := hide (fun w' (h : Below w.heap.size w w') => lightF10 _ T hT ht w' (hu.below h))
  clear hv hu hf ht
  unfold msgV
  go_enter Tryd.func32, Tryd.ntmps32
  have HB0 := hide ((Below.refl w.heap.size w).alloc (Nat.le_refl _) (.cells #[.string me, .string ta, .int .i64 st, .string re, .int .i64 mi, .slice ao F.length cap, .string bo, .slice bo' T.length caq] 24))
  go_wp2_with (first
    | (go_at_call 51; refine (unhide hl2 _ (unhide HB2)).mono ?_; rintro e w3 ⟨r3, rfl, hr3, hb3⟩; have HB3 := hide ((unhide HB2).trans (hb3.mono (unhide HB2).size)); clear hr3 hb3)
    | (go_at_call 51; refine (unhide hl1 _ (unhide HB0)).mono ?_; rintro e w2 ⟨r, rfl, hr, hb2⟩; have HR := hide hr; have x7 := cell_call hb2 (a := ⟨w.heap.size, 7, none⟩) (v := .slice bo' T.length caq) (by simp); have HB2 := hide ((unhide HB0).trans (hb2.mono (by simp))); clear hr hb2))
  all_goals go_ret
  all_goals first
    | exact ⟨_, rfl, fun _ => unhide HR (by first | rfl | assumption), unhide HB3⟩
    | exact ⟨_, rfl, (by simp), unhide HB3⟩
    | exact ⟨_, rfl, (by simp), unhide HB2⟩
    | exact ⟨_, rfl, (by simp), unhide HB0⟩

/-- a message and what its fields read as -/
structure MsgOf (w : World) (m : Value) (F : List Fld) (fs : Value) : Prop where
  ex : ∃ (me ta re bo : ByteArray) (st mi : Int) (tr : Value) (T : List Fld), m = .agg (msgV me ta st re mi fs bo tr) ∧ me.size ≤ 9223372036854775807 ∧ ta.size ≤ 9223372036854775807 ∧ re.size ≤ 9223372036854775807 ∧ bo.size ≤ 9223372036854775807 ∧
    T.length ≤ 9223372036854775807 ∧ (∀ f ∈ T, f.1.size ≤ 1000000000000000 ∧ f.2.size ≤ 1000000000000000) ∧ Rd w tr T.length 2 (fldV T)
  len : F.length ≤ 9223372036854775807
  small : ∀ f ∈ F, f.1.size ≤ 1000000000000000 ∧ f.2.size ≤ 1000000000000000
  rd : Rd w fs F.length 2 (fldV F)

set_option maxRecDepth 100000 in
set_option maxHeartbeats 1000000 in
theorem light_any (me ta re bo : ByteArray) (st mi : Int) (fs tr : Value) (F T : List Fld) (h1 : me.size ≤ 9223372036854775807) (h2 : ta.size ≤ 9223372036854775807) (h3 : re.size ≤ 9223372036854775807) (h4 : bo.size ≤ 9223372036854775807)
    (hF : F.length ≤ 9223372036854775807) (hT : T.length ≤ 9223372036854775807) (hf : ∀ f ∈ F, f.1.size ≤ 1000000000000000 ∧ f.2.size ≤ 1000000000000000) (ht : ∀ f ∈ T, f.1.size ≤ 1000000000000000 ∧ f.2.size ≤ 1000000000000000) (w : World) (hv : Rd w fs F.length 2 (fldV F)) (hu : Rd w tr T.length 2 (fldV T)) :
    Calls Tryd.prog 9 #[.agg (msgV me ta st re mi fs bo tr)] w (LightOut w F 20 600) := by
  have hc := hide (fun w' (h : Below w.heap.size w w') => lightM_any me ta re bo st mi fs tr F T h1 h2 h3 h4 hF hT hf ht w' (hv.below h) (hu.below h))
  have HB0 := hide (fun o => (Below.refl w.heap.size w).alloc (Nat.le_refl _) o)
  clear hv hu hf ht
  unfold msgV at hc ⊢
  go_enter Tryd.func9, Tryd.ntmps9
  go_wp2_with (go_at_call 32; refine (unhide hc _ (unhide HB0 _)).mono ?_; rintro e w2 ⟨r, rfl, hr, hb2⟩; have HR := hide hr; have HB2 := hide hb2; clear hr hb2)
  go_ret
  exact ⟨_, rfl, unhide HR, (unhide HB0 _).trans ((unhide HB2).mono (by simp))⟩
end Go.Proofs.YtmmldoleillelaaDoor.Sp
