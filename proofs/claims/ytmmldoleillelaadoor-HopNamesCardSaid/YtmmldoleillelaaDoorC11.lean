/- The closure of Strip. -/
import Derived.Test.YtmmldoleillelaaDoorC10
import Derived.Deep.RegionWith
import Derived.Deep.DeepCutAuto
import Derived.Handy
import Derived.Deep.CutRange
namespace Go.Proofs.YtmmldoleillelaaDoor.Sp
open Go.RowKit Sl Go.Maps
theorem look_set {w : World} {b n : Nat} {K : List ByteArray} (h : isSet w b n K) (x : ByteArray) (hx : x.size ≤ 100000) :
    (Instr.lookup 49 (.map (some b)) (.string x) true).run Tryd.prog w = .ok (.tuple #[.agg #[], .bool (K.any fun y => y.data.toList == x.data.toList)]) w := by
  obtain ⟨v, ps, hrun, hv⟩ := World.ownsMap.look_ok h (string_keyed Tryd.underlying9) Tryd.underlying49 (zeroU w) unitElem_mk (keyB x hx)
  obtain ⟨rfl, _⟩ := unitElem_inv hv
  rw [has_setL] at hrun
  exact hrun
theorem cell_call {W w' : World} {a : Addr} {v : Value} (hb : Below W.heap.size W w') (h : W.cell? a = some v) : w'.cell? a = some v :=
  (hb.cell (World.block_lt_of_cell? W a h)).trans h
def goneS (K : List ByteArray) (x : ByteArray) : Bool := (K.any fun y => y.data.toList == lower x.data.toList) || hopS x
set_option maxHeartbeats 8000000 in
set_option maxRecDepth 100000 in
theorem strip1_any (x y : ByteArray) (g b n : Nat) (K : List ByteArray) (w : World) (hg : w.heap[g]? = some (.cells #[.map (some b)] 49 (0, 0))) (hs : isSet w b n K) (hx : x.size ≤ 100000) :
    Calls Tryd.prog 37 #[.agg #[.string x, .string y], .pointer (some ⟨g, 0, none⟩)] w fun e w' => e = .returned (.bool (goneS K x)) ∧ Below w.heap.size w w' := by
  have hgl := lt_of_block hg
  have hgc := cell_of_one hg
  obtain ⟨kx, hkx⟩ : ∃ kx : ByteArray, (⟨(lower x.data.toList).toArray⟩ : ByteArray) = kx := ⟨_, rfl⟩
  have hks : kx.size ≤ 100000 := by rw [← hkx, lower_size]; exact hx
  have HKX := Lib.hid hkx
  have HS := hide hs
  have hx2 : x.size ≤ 9223372036854775807 := by omega
  obtain ⟨yes, hyes⟩ : ∃ yes : Bool, (K.any fun y => y.data.toList == kx.data.toList) = yes := ⟨_, rfl⟩
  have hgone : goneS K x = (yes || hopS x) := by rw [← hyes, ← hkx]; rfl
  have HG := Lib.hid hgone
  have HYES := Lib.hid hyes
  clear hyes hkx hs hg hgone
  go_enter Tryd.func37, Tryd.ntmps37
  go_upto_region 1 with fail
  go_cut [5] from 4 to 13 (fun v5 wx => v5 = .bool yes ∧ Below w.heap.size w wx ∧ wx.cell? ⟨w.heap.size, 0, none⟩ = some (.string x))
  case first =>
    go_region_with (go_at_call 38; refine (lower_any _ hx2 _).mono ?_; rintro e w2 ⟨he, hb2⟩; rw [HKX.out] at he; subst he; have hs2 : isSet w2 b n K := isSet.call (isSet.call (unhide HS) (by exact (by repeat (first | (with_reducible exact Below.refl _ _) | (with_reducible assumption) | (with_reducible refine Below.drew ?_) | (with_reducible refine below_drewN ?_ _) | ((with_reducible refine bAlloc ?_ ?_ _); focus (first | omega | (simp; done) | (simp; omega))) | ((with_reducible refine bSet ?_ ?_ _); focus (first | omega | (simp; done) | (simp; omega))) | (refine Below.trans ?_ (Below.mono (by with_reducible assumption) (by first | omega | (simp; done) | (simp; omega)))))))) hb2; have l1 := look_set hs2 kx hks; have l2 := fun o => look_set (hs2.call ((Below.refl _ _).alloc (Nat.le_refl _) o)) kx hks; rw [HYES.out] at l1; rw [HYES.out] at l2; have d1 := cell_call hb2 (a := ⟨g, 0, none⟩) (v := .map (some b)) (by go_cell); have d2 := cell_call hb2 (a := ⟨w.heap.size, 0, none⟩) (v := .string x) (by go_cell); have z1 : g < w2.heap.size := World.block_lt_of_cell? w2 ⟨g, 0, none⟩ d1; have z2 : w.heap.size < w2.heap.size := World.block_lt_of_cell? w2 ⟨w.heap.size, 0, none⟩ d2; have hbl : Below w.heap.size w w2 := (by exact (by repeat (first | (with_reducible exact Below.refl _ _) | (with_reducible assumption) | (with_reducible refine Below.drew ?_) | (with_reducible refine below_drewN ?_ _) | ((with_reducible refine bAlloc ?_ ?_ _); focus (first | omega | (simp; done) | (simp; omega))) | ((with_reducible refine bSet ?_ ?_ _); focus (first | omega | (simp; done) | (simp; omega))) | (refine Below.trans ?_ (Below.mono (by with_reducible assumption) (by first | omega | (simp; done) | (simp; omega))))))); have HBL := hide hbl; clear hs2 hb2 hbl)
    all_goals (go_wp2_with fail; go_meet; have hbl := unhide HBL; have hsz := hbl.size; refine ⟨rfl, (by repeat (first | (with_reducible exact Below.refl _ _) | (with_reducible assumption) | (with_reducible refine Below.drew ?_) | (with_reducible refine below_drewN ?_ _) | ((with_reducible refine bAlloc ?_ ?_ _); focus (first | omega | (simp; done) | (simp; omega))) | ((with_reducible refine bSet ?_ ?_ _); focus (first | omega | (simp; done) | (simp; omega))) | (refine Below.trans ?_ (Below.mono (by with_reducible assumption) (by first | omega | (simp; done) | (simp; omega)))))), ?_⟩; first | exact d2 | go_cell)
  case rest =>
    obtain ⟨rfl, hbc, hcc⟩ := hcut
    have HB := hide hbc
    clear hbc
    cases yes
    · go_wp2_with (go_at_call 12; refine (hop_any _ hx _).mono ?_; rintro e w3 ⟨rfl, hb3⟩; have H3 := hide hb3; clear hb3)
      go_ret
      exact ⟨by rw [HG.out] <;> rfl, (unhide HB).trans ((unhide H3).mono (unhide HB).size)⟩
    · go_wp2_with fail
      go_ret
      exact ⟨by rw [HG.out] <;> rfl, unhide HB⟩
end Go.Proofs.YtmmldoleillelaaDoor.Sp
