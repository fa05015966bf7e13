/- The values of a name: by the program, by the reference. -/
import Derived.Test.YtfohhhdebinikaaGreatDoorC3
namespace Go.Proofs.YtfohhhdebinikaaGreatDoor.Sp
open Go.RowKit Sl

def RetS (w : World) (L : List ByteArray) (e : Ending) (w' : World) : Prop := ∃ v, e = .returned v ∧ w'.ownsRow w.heap.size 9 1 v L.length (strV L) ∧ Below w.heap.size w w'
def RetF (w : World) (L : List Fld) (e : Ending) (w' : World) : Prop := ∃ v, e = .returned v ∧ w'.ownsRow w.heap.size 30 2 v L.length (fldV L) ∧ Below w.heap.size w w'

/-- few fields, of few bytes -/
def Few (L : List Fld) : Prop := L.length ≤ 100 ∧ ∀ f ∈ L, f.1.size ≤ 2000 ∧ f.2.size ≤ 2000

def isN (name : ByteArray) (f : Fld) : Bool := same f.1.data.toList name.data.toList
def allB (L : List Fld) (name : ByteArray) : List ByteArray := (L.filter (isN name)).map (·.2)

theorem allB_take (L : List Fld) (name : ByteArray) (k : Nat) (h : k < L.length) : allB (L.take (k + 1)) name = allB (L.take k) name ++ if isN name L[k] then [L[k].2] else [] := by
  unfold allB
  rw [List.take_succ_eq_append_getElem h, List.filter_append, List.map_append]
  congr 1
  cases hh : isN name L[k] <;> simp [hh]
theorem allB_len (L : List Fld) (name : ByteArray) : (allB L name).length ≤ L.length := by unfold allB; rw [List.length_map]; exact List.length_filter_le _ _

/-- the cells of a field in a list -/
theorem fld_cells {w : World} {ao : Option Addr} {n cap : Nat} {L : List Fld} (h : Rd w (.slice ao n cap) n 2 (fldV L)) (hn : n = L.length) (k : Nat) (hk : k < L.length) :
    ∃ b off, ao = some ⟨b, off, none⟩ ∧ b < w.heap.size ∧ w.cell? ⟨b, off + k * 2, none⟩ = some (.string L[k].1) ∧ w.cell? ⟨b, off + k * 2 + 1, none⟩ = some (.string L[k].2) := by
  obtain ⟨ao', cap', e, _, _, _, hc⟩ := h
  cases e
  have hg := fldV_get L k hk
  obtain ⟨b, off, rfl, hlt, hcc⟩ := hc (by intro e; rw [e] at hg; simp at hg)
  exact ⟨b, off, rfl, hlt, hcc _ _ hg.1, hcc _ _ hg.2⟩

set_option maxHeartbeats 2000000 in
theorem fall_any (v : Value) (L : List Fld) (name : ByteArray) (hL : Few L) (hn : name.size ≤ 2000) (w : World) (hv : Rd w v L.length 2 (fldV L)) :
    Calls Tryz.prog 18 #[v, .string name] w (RetS w (allB L name)) := by
  obtain ⟨ao, cap, rfl⟩ := hv.form
  have HV := hide hv
  have HF := hide hL
  have hlen := hL.1
  have s2 : name.size ≤ 9223372036854775807 := by omega
  clear hv hL
  go_enter Tryz.func18, Tryz.ntmps18
  go_wp2_with fail
  go_loopw [4, 9] (fun v i wr => ∃ k : Nat, i = .int .i64 k ∧ k ≤ L.length ∧ Own w wr w.heap.size 9 1 v (allB (L.take k) name).length (strV (allB (L.take k) name))) (fun _ i _ => L.length - (intOf i).toNat)
  case atStart => exact ⟨0, rfl, Nat.zero_le _, Own.start _ _ (Nat.le_refl _) _ _⟩
  case round =>
    obtain ⟨k, rfl, hk, ho⟩ := hrel
    obtain ⟨bo, cp, rfl⟩ := (Rd.own ho.own).form
    have HO := hide ho
    have hal := allB_len (L.take k) name
    rw [List.length_take] at hal
    rcases Nat.lt_or_ge k L.length with hlt | hge
    · have HT := Lib.hid (allB_take L name k hlt)
      have s1 : L[k].1.size ≤ 9223372036854775807 := by have := ((unhide HF).2 L[k] (List.getElem_mem _)).1; omega
      obtain ⟨b, off, rfl, hb, c1, c2⟩ := fld_cells (unhide HV) rfl k hlt
      have hbw : b < wr.heap.size := Nat.lt_of_lt_of_le hb ho.bel.size
      have d1 := (ho.bel.cell (p := ⟨b, off + k * 2, none⟩) hb).trans c1
      have d2 := (ho.bel.cell (p := ⟨b, off + k * 2 + 1, none⟩) hb).trans c2
      clear c1 c2 ho
      cases hsm : same L[k].1.data.toList name.data.toList
      · have hT : allB (L.take (k + 1)) name = allB (L.take k) name := by rw [HT.out, if_neg (by unfold isN; rw [hsm]; decide), List.append_nil]
        have HT2 := Lib.hid hT
        clear hT
        go_wp2_with (go_at_call 47; refine (same_any _ _ s1 s2 _).mono ?_; rintro e w1 ⟨rfl, hb1⟩; have d3 : w1.cell? ⟨wr.heap.size, 1, none⟩ = some (.string L[k].2) := (hb1.cell (p := ⟨wr.heap.size, 1, none⟩) (by simp)).trans (by simp); have H1 := hide (((unhide HO).alloc (.cells #[.string L[k].1, .string L[k].2] 30)).call hb1); clear hb1)
        go_roundw
        case rel => exact ⟨k + 1, by go_num, by omega, by rw [HT2.out]; exact unhide H1⟩
        case measure => simp [intOf]; omega
      · have hT : allB (L.take (k + 1)) name = allB (L.take k) name ++ [L[k].2] := by rw [HT.out, if_pos (by unfold isN; rw [hsm])]
        have HT2 := Lib.hid hT
        clear hT
        go_wp2_with (first | (at_builtin; refine wpList_pushS (w0 := w) rfl _ _ rfl w.heap.size _ _ _ rfl (unhide H1) L[k].2 rfl _ rfl (by omega) ?_; intro v' w2 h2; obtain ⟨ao', cp', rfl⟩ := (Rd.own h2.own).form; have H2 := hide h2; clear h2) | (go_at_call 47; refine (same_any _ _ s1 s2 _).mono ?_; rintro e w1 ⟨rfl, hb1⟩; have d3 : w1.cell? ⟨wr.heap.size, 1, none⟩ = some (.string L[k].2) := (hb1.cell (p := ⟨wr.heap.size, 1, none⟩) (by simp)).trans (by simp); have H1 := hide (((unhide HO).alloc (.cells #[.string L[k].1, .string L[k].2] 30)).call hb1); clear hb1))
        go_roundw
        case rel => exact ⟨k + 1, by go_num, by omega, by rw [HT2.out, List.length_append, strV_app]; exact unhide H2⟩
        case measure => simp [intOf]; omega
    · have hT : allB (L.take k) name = allB L name := by rw [List.take_of_length_le hge]
      have HT := Lib.hid hT
      clear hT ho
      go_wp2_with fail
      go_ret
      refine ⟨_, rfl, ?_, (unhide HO).bel⟩
      have := (unhide HO).own
      rw [← HT.out]; exact this

set_option maxHeartbeats 2000000 in
theorem rall_any (v : Value) (L : List Fld) (name : ByteArray) (hL : Few L) (hn : name.size ≤ 2000) (w : World) (hv : Rd w v L.length 2 (fldV L)) :
    Calls Tryz.prog 31 #[v, .string name] w (RetS w (allB L name)) := by
  obtain ⟨ao, cap, rfl⟩ := hv.form
  have HV := hide hv
  have HF := hide hL
  have hlen := hL.1
  have s2 : name.size ≤ 9223372036854775807 := by omega
  clear hv hL
  go_enter Tryz.func31, Tryz.ntmps31
  go_wp2_with fail
  go_loopw [5, 6] (fun v i wr => ∃ k : Nat, i = .int .i64 k ∧ k ≤ L.length ∧ Own w wr w.heap.size 9 1 v (allB (L.take k) name).length (strV (allB (L.take k) name))) (fun _ i _ => L.length - (intOf i).toNat)
  case atStart => exact ⟨0, rfl, Nat.zero_le _, Own.start _ _ (Nat.le_refl _) _ _⟩
  case round =>
    obtain ⟨k, rfl, hk, ho⟩ := hrel
    obtain ⟨bo, cp, rfl⟩ := (Rd.own ho.own).form
    have HO := hide ho
    have hal := allB_len (L.take k) name
    rw [List.length_take] at hal
    rcases Nat.lt_or_ge k L.length with hlt | hge
    · have HT := Lib.hid (allB_take L name k hlt)
      have s1 : L[k].1.size ≤ 9223372036854775807 := by have := ((unhide HF).2 L[k] (List.getElem_mem _)).1; omega
      obtain ⟨b, off, rfl, hb, c1, c2⟩ := fld_cells (unhide HV) rfl k hlt
      have hbw : b < wr.heap.size := Nat.lt_of_lt_of_le hb ho.bel.size
      have d1 := (ho.bel.cell (p := ⟨b, off + k * 2, none⟩) hb).trans c1
      have d2 := (ho.bel.cell (p := ⟨b, off + k * 2 + 1, none⟩) hb).trans c2
      clear c1 c2 ho
      cases hsm : same L[k].1.data.toList name.data.toList
      · have hT : allB (L.take (k + 1)) name = allB (L.take k) name := by rw [HT.out, if_neg (by unfold isN; rw [hsm]; decide), List.append_nil]
        have HT2 := Lib.hid hT
        clear hT
        go_wp2_with (go_at_call 25; refine (rsame_any _ _ s1 s2 _).mono ?_; rintro e w1 ⟨rfl, hb1⟩; have d3 : w1.cell? ⟨b, off + k * 2 + 1, none⟩ = some (.string L[k].2) := (hb1.cell (p := ⟨b, off + k * 2 + 1, none⟩) hbw).trans d2; have H1 := hide ((unhide HO).call hb1); clear hb1)
        go_roundw
        case rel => exact ⟨k + 1, by go_num, by omega, by rw [HT2.out]; exact unhide H1⟩
        case measure => simp [intOf]; omega
      · have hT : allB (L.take (k + 1)) name = allB (L.take k) name ++ [L[k].2] := by rw [HT.out, if_pos (by unfold isN; rw [hsm])]
        have HT2 := Lib.hid hT
        clear hT
        go_wp2_with (first | (at_builtin; refine wpList_pushS (w0 := w) rfl _ _ rfl w.heap.size _ _ _ rfl (unhide H1) L[k].2 rfl _ rfl (by omega) ?_; intro v' w2 h2; obtain ⟨ao', cp', rfl⟩ := (Rd.own h2.own).form; have H2 := hide h2; clear h2) | (go_at_call 25; refine (rsame_any _ _ s1 s2 _).mono ?_; rintro e w1 ⟨rfl, hb1⟩; have d3 : w1.cell? ⟨b, off + k * 2 + 1, none⟩ = some (.string L[k].2) := (hb1.cell (p := ⟨b, off + k * 2 + 1, none⟩) hbw).trans d2; have H1 := hide ((unhide HO).call hb1); clear hb1))
        go_roundw
        case rel => exact ⟨k + 1, by go_num, by omega, by rw [HT2.out, List.length_append, strV_app]; exact unhide H2⟩
        case measure => simp [intOf]; omega
    · have hT : allB (L.take k) name = allB L name := by rw [List.take_of_length_le hge]
      have HT := Lib.hid hT
      clear hT ho
      go_wp2_with fail
      go_ret
      refine ⟨_, rfl, ?_, (unhide HO).bel⟩
      have := (unhide HO).own
      rw [← HT.out]; exact this
end Go.Proofs.YtfohhhdebinikaaGreatDoor.Sp
