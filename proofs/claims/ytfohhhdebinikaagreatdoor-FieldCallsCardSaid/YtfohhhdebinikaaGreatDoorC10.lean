/- slices.Clone, kit.Own, kit.Same, kit.LightFields. -/
import Derived.Test.YtfohhhdebinikaaGreatDoorC9
namespace Go.Proofs.YtfohhhdebinikaaGreatDoor.Sp
open Go.RowKit Sl

theorem own_empty (w : World) (e : TypeId) (sz : Nat) : (w.alloc (.cells #[] e)).ownsRow w.heap.size e sz (.slice (some ⟨w.heap.size, 0, none⟩) 0 0) 0 [] :=
  ⟨by simp, .inr ⟨w.heap.size, 0, #[], rfl, Nat.le_refl _, alloc_at _ _, Nat.le_refl _, by unfold maxLen; omega, by simp, by simp⟩⟩
theorem Own.fresh (w : World) (e : TypeId) (sz : Nat) : Own w (w.alloc (.cells #[] e)) w.heap.size e sz (.slice (some ⟨w.heap.size, 0, none⟩) 0 0) 0 [] :=
  ⟨own_empty w e sz, (Below.refl _ _).alloc (Nat.le_refl _) _, by simp⟩

set_option maxRecDepth 100000 in
set_option maxHeartbeats 1000000 in
theorem clone_any (v : Value) (L : List Fld) (hL : L.length ≤ 100000) (w : World) (hv : Rd w v L.length 2 (fldV L)) :
    Calls Tryz.prog 52 #[v] w (RetF w L) := by
  obtain ⟨ao, cap, rfl⟩ := hv.form
  have HV := hide (hv.alloc (.cells #[] 30))
  cases ao with
  | none =>
    obtain ⟨_, _, e, hcp, hz, hl, _⟩ := hv
    cases e
    have h0 := hz rfl
    have h1 : L.length = 0 := by omega
    have hn : L = [] := List.eq_nil_of_length_eq_zero h1
    subst hn
    clear HV hcp hz hl h1
    subst h0
    have heq := fun w => Lib.run_eql_slice_nil (P := Tryz.prog) w 22 30 none 0 0 0 0 Tryz.underlying22
    go_enter Tryz.func52, Tryz.ntmps52
    go_wp2_with fail
    go_ret
    exact ⟨_, rfl, World.ownsRow_nil _ _ _ _, Below.refl _ _⟩
  | some ad =>
    have HO := hide (Own.fresh w 30 2)
    clear hv
    have heq := fun w => Lib.run_eql_slice_nil (P := Tryz.prog) w 22 30 (some ad) L.length cap 0 0 Tryz.underlying22
    go_enter Tryz.func52, Tryz.ntmps52
    go_wp2_with (at_builtin; refine wpList_pushAllF (w0 := w) rfl _ _ rfl w.heap.size _ 0 [] rfl (unhide HO) _ L (unhide HV) rfl (by omega) ?_; intro v' w2 h2; obtain ⟨ao', cp', rfl⟩ := (Rd.own h2.own).form; have H2 := hide h2; clear h2)
    go_ret
    have := unhide H2
    refine ⟨_, rfl, ?_, this.bel⟩
    have h3 := this.own
    rw [Nat.zero_add, List.nil_append] at h3
    simpa using h3

set_option maxRecDepth 100000 in
set_option maxHeartbeats 1000000 in
theorem own_any (v : Value) (L : List Fld) (hL : L.length ≤ 100000) (w : World) (hv : Rd w v L.length 2 (fldV L)) :
    Calls Tryz.prog 14 #[v] w (RetF w L) := by
  obtain ⟨ao, cap, rfl⟩ := hv.form
  have HV := hide (hv.alloc (.cells #[] 30))
  have HO := hide (Own.fresh w 30 2)
  clear hv
  go_enter Tryz.func14, Tryz.ntmps14
  go_wp2_with (at_builtin; refine wpList_pushAllF (w0 := w) rfl _ _ rfl w.heap.size _ 0 [] rfl (unhide HO) _ L (unhide HV) rfl (by omega) ?_; intro v' w2 h2; obtain ⟨ao', cp', rfl⟩ := (Rd.own h2.own).form; have H2 := hide h2; clear h2)
  go_ret
  have := unhide H2
  refine ⟨_, rfl, ?_, this.bel⟩
  have h3 := this.own
  rw [Nat.zero_add, List.nil_append] at h3
  simpa using h3
end Go.Proofs.YtfohhhdebinikaaGreatDoor.Sp
