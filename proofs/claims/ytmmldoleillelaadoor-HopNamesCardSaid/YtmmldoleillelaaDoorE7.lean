/- ref07's Strip. -/
import Derived.Test.YtmmldoleillelaaDoorE5
namespace Go.Proofs.YtmmldoleillelaaDoor.Sp
open Go.RowKit Sl

theorem hopS_or (name : ByteArray) (l : List UInt8) (h : lower name.data.toList = l) : hopS name = (l == [99, 111, 110, 110, 101, 99, 116, 105, 111, 110] || (l == [107, 101, 101, 112, 45, 97, 108, 105, 118, 101] || (l == [112, 114, 111, 120, 121, 45, 99, 111, 110, 110, 101, 99, 116, 105, 111, 110] || (l == [116, 101] || (l == [116, 114, 97, 105, 108, 101, 114] || (l == [116, 114, 97, 110, 115, 102, 101, 114, 45, 101, 110, 99, 111, 100, 105, 110, 103] || l == [117, 112, 103, 114, 97, 100, 101])))))) := by
  unfold hopS
  rw [h]
  have e : (hopsR.map low).map (fun y => y.data.toList) = [[99, 111, 110, 110, 101, 99, 116, 105, 111, 110], [107, 101, 101, 112, 45, 97, 108, 105, 118, 101], [112, 114, 111, 120, 121, 45, 99, 111, 110, 110, 101, 99, 116, 105, 111, 110], [116, 101], [116, 114, 97, 105, 108, 101, 114], [116, 114, 97, 110, 115, 102, 101, 114, 45, 101, 110, 99, 111, 100, 105, 110, 103], [117, 112, 103, 114, 97, 100, 101]] := by decide +kernel
  have e2 : ((hopsR.map low).any fun y => y.data.toList == l) = ((hopsR.map low).map (fun y => y.data.toList)).any (fun y => y == l) := by rw [List.any_map]; rfl
  rw [e2, e]
  simp only [List.any_cons, List.any_nil, Bool.or_false]
  have sw : ∀ a b : List UInt8, (a == b) = (b == a) := fun a b => Bool.eq_iff_iff.2 (by rw [beq_iff_eq, beq_iff_eq]; exact ⟨Eq.symm, Eq.symm⟩)
  simp only [sw _ l]

set_option maxHeartbeats 2000000 in
theorem rhop_any (name : ByteArray) (hn : name.size ≤ 100000) (w : World) :
    Calls Tryd.prog 28 #[.string name] w fun e w' => e = .returned (.bool (hopS name)) ∧ Below w.heap.size w w' := by
  obtain ⟨x, hx⟩ := of_list (lower name.data.toList)
  have hxx : (⟨(lower name.data.toList).toArray⟩ : ByteArray) = x := by rw [← hx]
  have hl := hide (rlower_any name (by omega) w)
  rw [hxx] at hl
  have hop := hopS_or name x.data.toList hx.symm
  rw [← Lib.toList_data] at hop
  obtain ⟨r, hr⟩ : ∃ r, hopS name = r := ⟨_, rfl⟩
  rw [hr] at hop ⊢
  have HO := Lib.hid hop
  clear hop hx hxx hr
  go_enter Tryd.func28, Tryd.ntmps28
  go_wp2_with (go_at_call 41; refine (unhide hl).mono ?_; rintro e w1 ⟨rfl, hb1⟩; have HB := hide hb1; clear hb1)
  all_goals go_ret
  all_goals refine ⟨?_, unhide HB⟩
  all_goals (rw [HO.out]; simp_all)


theorem stripF_goneN (L : List Fld) (M : List ByteArray) (h : listB L connB = M) : stripF L = L.filter fun f => !(hopS f.1 || M.any (samN f.1)) := by
  unfold stripF
  refine List.filter_congr fun f _ => ?_
  rw [h, gone_loop]; rfl
def keptN (M : List ByteArray) (L : List Fld) : List Fld := L.filter fun f => !(hopS f.1 || M.any (samN f.1))
theorem keptN_take (M : List ByteArray) (L : List Fld) (k : Nat) (h : k < L.length) : keptN M (L.take (k + 1)) = keptN M (L.take k) ++ if (hopS L[k].1 || M.any (samN L[k].1)) = true then [] else [L[k]] := by
  unfold keptN
  rw [List.take_succ_eq_append_getElem h, List.filter_append]
  congr 1
  cases hh : (hopS L[k].1 || M.any (samN L[k].1))
  · rw [List.filter_cons_of_pos (by show (!(hopS L[k].1 || M.any (samN L[k].1))) = true; rw [hh]; rfl)]; rfl
  · rw [List.filter_cons_of_neg (by show ¬ (!(hopS L[k].1 || M.any (samN L[k].1))) = true; rw [hh]; decide)]; rfl
theorem keptN_len (M : List ByteArray) (L : List Fld) : (keptN M L).length ≤ L.length := List.length_filter_le _ _

set_option maxRecDepth 100000 in
set_option maxHeartbeats 4000000 in
theorem rstrip_any (v : Value) (L : List Fld) (hL : Few L) (w : World) (hv : Rd w v L.length 2 (fldV L)) :
    Calls Tryd.prog 29 #[v] w (RetF w (stripF L)) := by
  obtain ⟨ao, cap, rfl⟩ := hv.form
  obtain ⟨M, hM⟩ : ∃ M, listB L connB = M := ⟨_, rfl⟩
  have hfew := listB_few hL connB
  rw [hM] at hfew
  have hlist := hide (rlist_any _ L connB hL (by decide) w hv)
  rw [hM] at hlist
  have hres := stripF_goneN L M hM
  have HRES := Lib.hid hres
  have HV := hide hv
  have HM := hide hfew
  have HF := hide hL
  have hlen := hL.1
  have hml := hfew.1
  clear hv hL hfew hres hM
  go_enter Tryd.func29, Tryd.ntmps29
  go_wp2_with (go_at_call 11; refine (unhide hlist).mono ?_; rintro e w1 ⟨v1, rfl, ho1, hb1⟩; obtain ⟨co, cq, rfl⟩ := (Rd.own ho1).form; have H1 := hide (Rd.own ho1); have B1 := hide hb1; clear ho1 hb1)
  go_loopw [4, 5] (fun v i wr => ∃ k : Nat, i = .int .i64 k ∧ k ≤ L.length ∧ Own w1 wr w1.heap.size 35 2 v (keptN M (L.take k)).length (fldV (keptN M (L.take k)))) (fun _ i _ => L.length - (intOf i).toNat)
  case atStart => exact ⟨0, rfl, Nat.zero_le _, Own.start _ _ (Nat.le_refl _) _ _⟩
  case round =>
    obtain ⟨k, rfl, hk, ho⟩ := hrel
    obtain ⟨bo, cp, rfl⟩ := (Rd.own ho.own).form
    have HO := hide ho
    have hal := keptN_len M (L.take k)
    rw [List.length_take] at hal
    rcases Nat.lt_or_ge k L.length with hlt | hge
    · have HT := Lib.hid (keptN_take M L k hlt)
      have s1 : L[k].1.size ≤ 2000 := ((unhide HF).2 L[k] (List.getElem_mem _)).1
      have HW := hide (((unhide HV).below (unhide B1)).below (ho.bel))
      obtain ⟨b, off, rfl, hb, c1, c2⟩ := fld_cells (unhide HW) rfl k hlt
      clear ho
      obtain ⟨x, hx⟩ : ∃ x, L[k].1 = x := ⟨_, rfl⟩
      obtain ⟨y, hy⟩ : ∃ y, L[k].2 = y := ⟨_, rfl⟩
      rw [hx] at c1 s1
      rw [hy] at c2
      rw [hx] at HT
      have HXY := Lib.hid (show L[k] = (x, y) from by rw [← hx, ← hy])
      clear hx hy
      have hhop := hide (rhop_any x (by omega) wr)
      go_upto_region 8 with (go_at_call 28; refine (unhide hhop).mono ?_; rintro e w2 ⟨rfl, hb2⟩; have H2 := hide ((unhide HO).call hb2); have d1 := cell_call hb2 c1; have d2 := cell_call hb2 c2; have R2 := hide (((unhide H1).below (unhide HO).bel).below hb2); have hbw := Nat.lt_of_lt_of_le hb hb2.size; clear hb2 c1 c2 hb)
      go_loopw [6, 7] (fun g i wr2 => ∃ j : Nat, i = .int .i64 j ∧ j ≤ M.length ∧ g = .bool (hopS x || (M.take j).any (samN x)) ∧ Below w2.heap.size w2 wr2) (fun _ i _ => M.length - (intOf i).toNat)
      case atStart => exact ⟨0, rfl, Nat.zero_le _, by simp, Below.refl _ _⟩
      case round =>
        obtain ⟨j, rfl, hj, rfl, hbel⟩ := hrel
        obtain ⟨gn, hgn⟩ : ∃ gn, (hopS x || (M.take j).any (samN x)) = gn := ⟨_, rfl⟩
        rw [hgn]
        have HG := Lib.hid hgn
        have HBEL := hide hbel
        clear hgn
        have e1 := cell_call hbel d1
        have e2 := cell_call hbel d2
        have hbw2 : b < wr.heap.size := Nat.lt_of_lt_of_le hbw hbel.size
        have HR3 := hide ((unhide R2).below hbel)
        have H3 := hide ((unhide H2).call hbel)
        clear hbel d1 d2 hbw
        rcases Nat.lt_or_ge j M.length with hjl | hjg
        · obtain ⟨b5, off5, rfl, hb5, c5⟩ := str_cell (unhide HR3) j hjl
          have hsz := (unhide HM).2 M[j] (List.getElem_mem _)
          have hT : (hopS x || (M.take (j + 1)).any (samN x)) = (gn || samN x M[j]) := by rw [any_take M _ j hjl, ← Bool.or_assoc, HG.out]
          have HT2 := Lib.hid hT
          clear hT
          cases gn
          · go_wp2_with fail
            refine Reg.region_more (by kernel_rfl) (by kernel_rfl) ?_
            repeat (go_big_quiet_step ((go_at_call 13; exact Reg.Calls.more (rsame_any _ _ (by omega) (by omega) _))))
            refine wpQuiet_nil ?_
            intro w9 hb9; obtain ⟨hc9, hf9, hz9⟩ := bcell hb9; (try simp at hz9)
            have HB6 := hide ((unhide HBEL).trans (hb9.mono (unhide HBEL).size))
            clear hb9 hc9 hf9
            go_wp2_with fail
            go_roundw
            case rel => exact ⟨j + 1, by go_num, by omega, by rw [HT2.out]; rfl, unhide HB6⟩
            case measure => simp [intOf]; omega
          · go_wp2_with fail
            refine Reg.region_more (by kernel_rfl) (by kernel_rfl) ?_
            repeat (go_big_quiet_step (fail))
            refine wpQuiet_nil ?_
            intro w9 hb9; obtain ⟨hc9, hf9, hz9⟩ := bcell hb9; (try simp at hz9)
            have HB6 := hide ((unhide HBEL).trans (hb9.mono (unhide HBEL).size))
            clear hb9 hc9 hf9
            go_wp2_with fail
            go_roundw
            case rel => exact ⟨j + 1, by go_num, by omega, by rw [HT2.out]; rfl, unhide HB6⟩
            case measure => simp [intOf]; omega
        · have hgone : (hopS x || M.any (samN x)) = gn := by have := HG.out; rwa [List.take_of_length_le hjg] at this
          have hT2 := HT.out
          rw [hgone, HXY.out] at hT2
          have HT2 := Lib.hid hT2
          clear hgone hT2
          cases gn
          · go_wp2_with (at_builtin; refine wpList_pushF (w0 := w1) rfl _ _ rfl w1.heap.size _ _ _ rfl (unhide H3) x y rfl _ rfl (by omega) ?_; intro v' w5 h5; obtain ⟨ao', cp', rfl⟩ := (Rd.own h5.own).form; have H5 := hide h5; clear h5)
            go_roundw
            case rel => exact ⟨k + 1, by go_num, by omega, by rw [HT2.out, if_neg (by decide), List.length_append, fldV_app]; exact unhide H5⟩
            case measure => simp [intOf]; omega
          · go_wp2_with fail
            go_roundw
            case rel => exact ⟨k + 1, by go_num, by omega, by rw [HT2.out, if_pos rfl, List.append_nil]; exact unhide H3⟩
            case measure => simp [intOf]; omega
    · have hT : keptN M (L.take k) = stripF L := by rw [List.take_of_length_le hge, HRES.out]; rfl
      have HT := Lib.hid hT
      clear hT ho
      go_wp2_with fail
      go_ret
      refine ⟨_, rfl, ?_, (unhide B1).trans ((unhide HO).bel.mono (unhide B1).size)⟩
      have := (unhide HO).own
      rw [← HT.out]; exact World.ownsRow.mono this (unhide B1).size
end Go.Proofs.YtmmldoleillelaaDoor.Sp
