/- Via of any minor version, by both. -/
import Derived.Test.YtmmldoleillelaaDoorE8
namespace Go.Proofs.YtmmldoleillelaaDoor.Sp
open Go.RowKit Sl

theorem getB_size {L : List Fld} (hL : Few L) (name : ByteArray) : (getB L name).size ≤ 300000 := by
  rw [show (getB L name).size = (Lib.join ((allB L name).map (·.data.toList)) [44, 32]).length from size_list rfl]
  exact join_size _ (allB_small hL name).1 (allB_small hL name).2

set_option maxRecDepth 100000 in
set_option maxHeartbeats 1000000 in
theorem via2_any (v : Value) (L : List Fld) (minor : Int) (name : ByteArray) (hL : Few L) (h0 : -9223372036854775808 ≤ minor) (h1 : minor ≤ 9223372036854775807) (hn : name.size ≤ 2000) (w : World) (hv : Rd w v L.length 2 (fldV L)) (ht : Pow10 w) :
    Calls Tryd.prog 22 #[v, .int .i64 minor, .string name] w (RetF w (viaF L (itoaB minor) name)) := by
  obtain ⟨ao, cap, rfl⟩ := hv.form
  have hc := hide (fget_any _ L viaN hL (by decide) w hv)
  have hset := hide (fun value w' (h : Below w.heap.size w w') => fset_any _ L viaN value (by have := hL.1; omega) (fun f hf => (hL.2 f hf).1) (by decide) w' (hv.below h))
  unfold viaF viaV
  have hit := hide (fun w' (h : Below w.heap.size w w') => itoa_any minor h0 h1 w' (ht.below h))
  have hds := itoa_size minor h0 h1
  have hgs := getB_size hL viaN
  obtain ⟨d, hd⟩ : ∃ d : ByteArray, itoaB minor = d := ⟨_, rfl⟩
  obtain ⟨g, hg⟩ : ∃ g, getB L viaN = g := ⟨_, rfl⟩
  obtain ⟨em, hem⟩ : ∃ em, (allB L viaN).isEmpty = em := ⟨_, rfl⟩
  rw [hd] at hit hds ⊢
  rw [hg] at hc hgs ⊢
  rw [hem] at hc ⊢
  clear hv hL hd hg hem ht
  cases em
  all_goals
    go_enter Tryd.func22, Tryd.ntmps22
    go_wp2_with (first
      | (go_at_call 43; refine (unhide hc).mono ?_; rintro e w1 ⟨rfl, hb1⟩; have B1 := hide hb1; clear hb1)
      | (go_at_call 45; refine (unhide hit _ (unhide B1)).mono ?_; rintro e w2 ⟨rfl, hb2⟩; have B2 := hide ((unhide B1).trans (hb2.mono (unhide B1).size)); clear hb2)
      | (go_at_call 44; refine (unhide hset _ _ (unhide B2)).mono ?_; rintro e w3 ⟨v3, rfl, ho3, hb3⟩; have H3 := hide ho3; have B3 := hide hb3; clear ho3 hb3))
    go_ret
    exact ⟨_, rfl, World.ownsRow.mono (unhide H3) (unhide B2).size, (unhide B2).trans ((unhide B3).mono (unhide B2).size)⟩

set_option maxRecDepth 100000 in
set_option maxHeartbeats 1000000 in
theorem rvia_any (v : Value) (L : List Fld) (minor : Int) (name : ByteArray) (hL : Few L) (h0 : -9223372036854775808 ≤ minor) (h1 : minor ≤ 9223372036854775807) (hn : name.size ≤ 2000) (w : World) (hv : Rd w v L.length 2 (fldV L)) :
    Calls Tryd.prog 30 #[v, .int .i64 minor, .string name] w (RetF w (viaF L (itoaB minor) name)) := by
  obtain ⟨ao, cap, rfl⟩ := hv.form
  have hc := hide (rget_any _ L viaN hL (by decide) w hv)
  have hset := hide (fun value w' (h : Below w.heap.size w w') => rset_any _ L viaN value hL (by decide) w' (hv.below h))
  unfold viaF viaV
  have hit := hide (digits_any minor h0 h1)
  have hds := itoa_size minor h0 h1
  have hgs := getB_size hL viaN
  obtain ⟨d, hd⟩ : ∃ d : ByteArray, itoaB minor = d := ⟨_, rfl⟩
  obtain ⟨g, hg⟩ : ∃ g, getB L viaN = g := ⟨_, rfl⟩
  obtain ⟨em, hem⟩ : ∃ em, (allB L viaN).isEmpty = em := ⟨_, rfl⟩
  rw [hd] at hit hds ⊢
  rw [hg] at hc hgs ⊢
  rw [hem] at hc ⊢
  clear hv hL hd hg hem
  cases em
  all_goals
    go_enter Tryd.func30, Tryd.ntmps30
    go_wp2_with (first
      | (go_at_call 23; refine (unhide hc).mono ?_; rintro e w1 ⟨rfl, hb1⟩; have B1 := hide hb1; clear hb1)
      | (go_at_call 50; refine (unhide hit _).mono ?_; rintro e w2 ⟨rfl, rfl⟩)
      | (go_at_call 49; refine (unhide hset _ _ (unhide B1)).mono ?_; rintro e w3 ⟨v3, rfl, ho3, hb3⟩; have H3 := hide ho3; have B3 := hide hb3; clear ho3 hb3))
    go_ret
    exact ⟨_, rfl, World.ownsRow.mono (unhide H3) (unhide B1).size, (unhide B1).trans ((unhide B3).mono (unhide B1).size)⟩
end Go.Proofs.YtmmldoleillelaaDoor.Sp
