/- The reference's Del. -/
import Derived.Test.YtfohhhdebinikaaGreatDoorC16
namespace Go.Proofs.YtfohhhdebinikaaGreatDoor.Sp
open Go.RowKit Sl

theorem delF_take (L : List Fld) (name : ByteArray) (k : Nat) (h : k < L.length) : delF (L.take (k + 1)) name = delF (L.take k) name ++ if isN name L[k] then [] else [L[k]] := by
  unfold delF
  rw [List.take_succ_eq_append_getElem h, List.filter_append]
  congr 1
  cases hh : isN name L[k] <;> simp [hh]
theorem delF_len (L : List Fld) (name : ByteArray) : (delF L name).length ≤ L.length := List.length_filter_le _ _

set_option maxHeartbeats 2000000 in
theorem rdel_any (v : Value) (L : List Fld) (name : ByteArray) (hL : Few L) (hn : name.size ≤ 2000) (w : World) (hv : Rd w v L.length 2 (fldV L)) :
    Calls Tryz.prog 35 #[v, .string name] w (RetF w (delF L name)) := by
  obtain ⟨ao, cap, rfl⟩ := hv.form
  have HV := hide hv
  have HF := hide hL
  have hlen := hL.1
  have s2 : name.size ≤ 9223372036854775807 := by omega
  clear hv hL
  go_enter Tryz.func35, Tryz.ntmps35
  go_wp2_with fail
  go_loopw [5, 6] (fun v i wr => ∃ k : Nat, i = .int .i64 k ∧ k ≤ L.length ∧ Own w wr w.heap.size 30 2 v (delF (L.take k) name).length (fldV (delF (L.take k) name))) (fun _ i _ => L.length - (intOf i).toNat)
  case atStart => exact ⟨0, rfl, Nat.zero_le _, Own.start _ _ (Nat.le_refl _) _ _⟩
  case round =>
    obtain ⟨k, rfl, hk, ho⟩ := hrel
    obtain ⟨bo, cp, rfl⟩ := (Rd.own ho.own).form
    have HO := hide ho
    have hal := delF_len (L.take k) name
    rw [List.length_take] at hal
    rcases Nat.lt_or_ge k L.length with hlt | hge
    · have HT := Lib.hid (delF_take L name k hlt)
      have s1 : L[k].1.size ≤ 9223372036854775807 := by have := ((unhide HF).2 L[k] (List.getElem_mem _)).1; omega
      obtain ⟨b, off, rfl, hb, c1, c2⟩ := fld_cells (unhide HV) rfl k hlt
      have hbw : b < wr.heap.size := Nat.lt_of_lt_of_le hb ho.bel.size
      have d1 := (ho.bel.cell (p := ⟨b, off + k * 2, none⟩) hb).trans c1
      have d2 := (ho.bel.cell (p := ⟨b, off + k * 2 + 1, none⟩) hb).trans c2
      clear c1 c2 ho
      cases hsm : same L[k].1.data.toList name.data.toList
      · have hT : delF (L.take (k + 1)) name = delF (L.take k) name ++ [L[k]] := by rw [HT.out, if_neg (by unfold isN; rw [hsm]; decide)]
        have HT2 := Lib.hid hT
        clear hT
        go_wp2_with (first
          | (at_builtin; refine wpList_pushF (w0 := w) rfl _ _ rfl w.heap.size _ _ _ rfl (unhide H1) L[k].1 L[k].2 rfl _ rfl (by omega) ?_; intro v' w2 h2; obtain ⟨ao', cp', rfl⟩ := (Rd.own h2.own).form; have H2 := hide h2; clear h2)
          | (go_at_call 25; refine (rsame_any _ _ s1 s2 _).mono ?_; rintro e w1 ⟨rfl, hb1⟩; have d3 := (hb1.cell (p := ⟨b, off + k * 2, none⟩) hbw).trans d1; have d4 := (hb1.cell (p := ⟨b, off + k * 2 + 1, none⟩) hbw).trans d2; have H1 := hide ((unhide HO).call hb1); clear hb1))
        go_roundw
        case rel => exact ⟨k + 1, by go_num, by omega, by rw [HT2.out, List.length_append, fldV_app]; exact unhide H2⟩
        case measure => simp [intOf]; omega
      · have hT : delF (L.take (k + 1)) name = delF (L.take k) name := by rw [HT.out, if_pos (by unfold isN; rw [hsm]), List.append_nil]
        have HT2 := Lib.hid hT
        clear hT
        go_wp2_with (go_at_call 25; refine (rsame_any _ _ s1 s2 _).mono ?_; rintro e w1 ⟨rfl, hb1⟩; have H1 := hide ((unhide HO).call hb1); clear hb1)
        go_roundw
        case rel => exact ⟨k + 1, by go_num, by omega, by rw [HT2.out]; exact unhide H1⟩
        case measure => simp [intOf]; omega
    · have hT : delF (L.take k) name = delF L name := by rw [List.take_of_length_le hge]
      have HT := Lib.hid hT
      clear hT ho
      go_wp2_with fail
      go_ret
      refine ⟨_, rfl, ?_, (unhide HO).bel⟩
      have := (unhide HO).own
      rw [← HT.out]; exact this
end Go.Proofs.YtfohhhdebinikaaGreatDoor.Sp
