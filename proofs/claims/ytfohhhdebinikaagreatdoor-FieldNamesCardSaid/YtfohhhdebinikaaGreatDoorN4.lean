/- FieldNamed, the walk. -/
import Derived.Test.YtfohhhdebinikaaGreatDoorN3
namespace Go.Proofs.YtfohhhdebinikaaGreatDoor.Sp
open Go.RowKit Sl

theorem allB_le (L : List Fld) (z : ByteArray) : (allB L z).length ≤ L.length := by
  unfold allB
  rw [List.length_map]
  exact List.length_filter_le _ _
theorem sumA_le (L : List Fld) : ∀ U : List ByteArray, sumA L U ≤ U.length * L.length
  | [] => by simp [sumA]
  | u :: U => by
    have ih := sumA_le L U
    have h := allB_le L u
    unfold sumA at ih ⊢
    rw [List.map_cons, List.sum_cons, List.length_cons, Nat.add_mul]
    omega

theorem uniq_ne2 (L : List Fld) (i k : Nat) (z y : ByteArray) (hi : (uniq L)[i]? = some z) (hk : (uniq L)[k]? = some y) (h : k < i) : (y.toList == z.toList) = false := by
  obtain ⟨h1, e1⟩ := List.getElem?_eq_some_iff.1 hi
  obtain ⟨h2, e2⟩ := List.getElem?_eq_some_iff.1 hk
  rw [← e1, ← e2]
  exact uniq_ne L h1 h

set_option maxRecDepth 100000 in
set_option maxHeartbeats 4000000 in
theorem named_any (v : Value) (L : List Fld) (hL : L.length ≤ 9223372036854775807) (hf : ∀ f ∈ L, f.1.size ≤ 1000000000000000 ∧ f.2.size ≤ 1000000000000000) (w : World) (hv : Rd w v L.length 2 (fldV L)) (hX : MaxV w) :
    Calls Tryz.prog 5 #[v] w fun e w' => e = .returned (.bool true) ∧ Below w.heap.size w w' := by
  obtain ⟨ao, cap, rfl⟩ := hv.form
  have HV := hide hv
  have HX := hide hX
  have HB := hide (Below.refl w.heap.size w)
  have HLI := hide (fun w' (h : Below w.heap.size w w') => light_any _ L hL hf w' (hv.below h))
  clear hv hX hf
  go_enter Tryz.func5, Tryz.ntmps5
  go_upto_region 3 with (go_at_call 9; refine (lives_any _ (unhide HX)).mono ?_; rintro e w1 ⟨rfl, hb⟩; have HB := hide ((unhide HB).trans (hb.mono (unhide HB).size)); clear hb)
  go_wp2_with (go_at_call 10; refine (unhide HLI _ (unhide HB)).mono ?_; rintro e w2 ⟨r, rfl, hr, hb⟩; have HR := hide hr; have HB := hide ((unhide HB).trans (hb.mono (unhide HB).size)); clear hr hb)
  all_goals try (go_ret; exact ⟨rfl, unhide HB⟩)
  have hr9 : r = true := by first | assumption | (have h9 : (!r) = false := by assumption
                                                  simpa using h9)
  subst hr9
  have hlf := light_few (unhide HR (by first | rfl | trivial))
  have hL30 : L.length ≤ 30 := hlf.1
  have hfew : Few L := ⟨by omega, fun f hf => by have := hlf.2 f hf; omega⟩
  have c0 := fun w' (h : Below w.heap.size w w') => lnames_any _ L (by omega) (fun f hf => by have := hlf.2 f hf; omega) w' ((unhide HV).below h)
  have u1 := uniq_len L
  have u2 := fun z hz => uniq_size L 600 (fun f hf => (hlf.2 f hf).1) (z := z) hz
  have u3 := fun z hz => uniq_low L (z := z) hz
  have u4 := fun z hz => allB_some L (z := z) hz
  have u5 := uniq_ne2 L
  have u6 := sumA_uniq L
  obtain ⟨U, hU⟩ : ∃ U, uniq L = U := ⟨_, rfl⟩
  simp only [hU] at c0 u1 u2 u3 u4 u5 u6
  have C0 := hide c0
  have U2 := hide u2
  have U3 := hide u3
  have U4 := hide u4
  have U5 := hide u5
  have U6 := hide u6
  have HFE := hide hfew
  have hUl : U.length ≤ 30 := by omega
  clear hlf HR HLI c0 u1 u2 u3 u4 u5 u6 hU hfew
  go_wp2_with (go_at_call 17; refine (unhide C0 _ (unhide HB)).mono ?_; rintro e w3 ⟨v3, rfl, ho, hb⟩; obtain ⟨no, nc, rfl⟩ := (Rd.own ho).form; have HN := hide (Rd.own ho); have HB := hide ((unhide HB).trans (hb.mono (unhide HB).size)); clear ho hb)
  go_loopw [5, 6] (fun a i wr => ∃ k : Nat, i = .int .i64 k ∧ k ≤ U.length ∧ a = .int .i64 (sumA L (U.take k) : Nat) ∧ Below w3.heap.size w3 wr) (fun _ i _ => U.length - (intOf i).toNat)
  case atStart => exact ⟨0, rfl, Nat.zero_le _, rfl, Below.refl _ _⟩
  case round =>
    obtain ⟨k, rfl, hk, rfl, hbel⟩ := hrel
    have HBL := hide hbel
    have hsl := sumA_le L (U.take k)
    rw [List.length_take, Nat.min_eq_left hk] at hsl
    have hsl2 : sumA L (U.take k) ≤ 900 := Nat.le_trans hsl (Nat.le_trans (Nat.mul_le_mul (by omega : k ≤ 30) hL30) (by decide))
    rcases Nat.lt_or_ge k U.length with hlt | hge
    · obtain ⟨nb, noff, rfl, hnb, n1⟩ := str_cell (unhide HN) k hlt
      have d1 := (hbel.cell (p := ⟨nb, noff + k, none⟩) hnb).trans n1
      have hzm : U[k] ∈ U := List.getElem_mem _
      have z2 := (unhide U2) _ hzm
      have z3 := (unhide U3) _ hzm
      have z4 := (unhide U4) _ hzm
      have z5 := fun j (hj : j < U.length) (h : j < k) => (unhide U5) k j _ _ (List.getElem?_eq_getElem hlt) (List.getElem?_eq_getElem hj) h
      have z6 := sumA_take L U k hlt
      obtain ⟨z, hz⟩ : ∃ z, U[k] = z := ⟨_, rfl⟩
      simp only [hz] at n1 d1 z2 z3 z4 z5 z6
      have ca := fun w' (h : Below w.heap.size w w') => fall_any _ L z (unhide HFE) (by omega) w' ((unhide HV).below h)
      have cb := fun w' (h : Below w.heap.size w w') => flist_any _ L z (unhide HFE) (by omega) w' ((unhide HV).below h)
      have cc : ∀ w, Calls Tryz.prog 15 #[.string z] w fun e w' => e = .returned (.string z) ∧ Below w.heap.size w w' := fun w => by
        have h9 := rlower_any z (by omega) w
        rw [show (⟨(lower z.data.toList).toArray⟩ : ByteArray) = z from z3] at h9
        exact h9
      obtain ⟨hal, has⟩ := allB_small (unhide HFE) z
      have hlb : listB L z = flatB (allB L z) := rfl
      rw [hlb] at cb
      obtain ⟨A, hA⟩ : ∃ A, allB L z = A := ⟨_, rfl⟩
      rw [hA] at ca cb z4 z6 hal has
      have hl0 : ((A.length : Int) == 0) = false := by rw [beq_eq_false_iff_ne]; omega
      have hbP := flat_len A 2000 has
      have hbP2 : (flatB A).length ≤ 1000000 := Nat.le_trans hbP (Nat.le_trans (Nat.mul_le_mul_right _ hal) (by decide))
      have cs := fun u v w' (hu : Rd w' u (flatB A).length 1 (strV (flatB A))) (hv : Rd w' v (flatB A).length 1 (strV (flatB A))) => ksameS_any u v (flatB A) (flatB A) (by omega) (by omega) w' hu hv
      rw [sameLS_self] at cs
      have CA := hide ca
      have CB := hide cb
      have CC := hide cc
      have CS := hide cs
      have Z5 := hide z5
      have Z6 := Lib.hid z6
      have HAS := hide has
      clear ca cb cc cs z3 z4 z5 z6 has hA hlb hz hzm hbP
      go_upto_region 13 with (go_at_call 18; refine (unhide CA _ ((unhide HB).trans ((unhide HBL).mono (unhide HB).size))).mono ?_; rintro e w4 ⟨v4, rfl, ho, hb⟩; obtain ⟨ao4, cp4, rfl⟩ := (Rd.own ho).form; have HA := hide (Rd.own ho); have d4 := cell_call hb d1; have HB4 := hide ((unhide HBL).trans (hb.mono (unhide HBL).size)); clear ho hb)
      have zb := World.block_lt_of_cell? w4 _ d4
      refine Reg.region_more (by kernel_rfl) (by kernel_rfl) ?_
      repeat (go_big_quiet_step ((go_at_call 15; exact Reg.Calls.more (unhide CC _))))
      refine wpQuiet_nil ?_
      intro w5 hb5; obtain ⟨hc5, hf5, hz5⟩ := bcell hb5; (try simp at hz5)
      have HB5 := hide ((unhide HB4).trans (hb5.mono (unhide HB4).size))
      have HA := hide ((unhide HA).below hb5)
      clear hb5 hc5 hf5 d4 zb
      go_wp2_with fail
      go_loopw [8] (fun i wr2 => ∃ j : Nat, i = .int .i64 j ∧ j ≤ k ∧ Below w5.heap.size w5 wr2) (fun i _ => k - (intOf i).toNat)
      case atStart => exact ⟨0, rfl, Nat.zero_le _, Below.refl _ _⟩
      case round =>
        obtain ⟨j, rfl, hj, hbj⟩ := hrel
        have HBJ := hide hbj
        have hb3 : Below w3.heap.size w3 wr := (unhide HB5).trans (hbj.mono (unhide HB5).size)
        have d2 := (hb3.cell (p := ⟨nb, noff + k, none⟩) hnb).trans n1
        rcases Nat.lt_or_ge j k with hjk | hjk
        · have hju : j < U.length := by omega
          obtain ⟨nb2, noff2, e2, _, m1⟩ := str_cell (unhide HN) j hju
          cases e2
          have d3 := (hb3.cell (p := ⟨nb, noff + j, none⟩) hnb).trans m1
          have hne := (unhide Z5) j hju hjk
          obtain ⟨y, hy⟩ : ∃ y, U[j] = y := ⟨_, rfl⟩
          simp only [hy] at m1 d3 hne
          have zb := World.block_lt_of_cell? wr _ d3
          clear hb3 hbj m1 hy
          go_upto_region 18 with fail
          refine Reg.region_more (by kernel_rfl) (by kernel_rfl) ?_
          repeat (go_big_quiet_step (fail))
          refine wpQuiet_nil ?_
          intro w6 hb6; obtain ⟨hc6, hf6, hz6⟩ := bcell hb6; (try simp at hz6)
          have HB6 := hide ((unhide HBJ).trans (hb6.mono (unhide HBJ).size))
          clear hb6 hc6 hf6
          go_wp2_with fail
          go_roundw
          case rel => exact ⟨j + 1, by go_num, by omega, unhide HB6⟩
          case measure => simp [intOf]; omega
        · have HB7 := hide hb3
          have HA7 := hide ((unhide HA).below hbj)
          clear hb3 hbj
          have hkj : k = j := by omega
          subst hkj
          generalize wr = wB at *
          go_wp2_with fail
          go_loopw [9, 10] (fun pv i wr3 => ∃ m : Nat, i = .int .i64 m ∧ m ≤ A.length ∧ Sl.Own wB wr3 wB.heap.size 9 1 pv (flatB (A.take m)).length (strV (flatB (A.take m)))) (fun _ i _ => A.length - (intOf i).toNat)
          case atStart => exact ⟨0, rfl, Nat.zero_le _, Sl.Own.start _ _ (Nat.le_refl _) _ _⟩
          case round =>
            obtain ⟨m, rfl, hm, ho⟩ := hrel
            obtain ⟨co, cq, rfl⟩ := (Rd.own ho.own).form
            have HO := hide ho
            have d8 := (ho.bel.cell (p := ⟨nb, noff + k, none⟩) (World.block_lt_of_cell? wB _ d2)).trans d2
            rcases Nat.lt_or_ge m A.length with hmlt | hmge
            · obtain ⟨ab, aoff, rfl, hab, a1⟩ := str_cell (unhide HA7) m hmlt
              have d9 := (ho.bel.cell (p := ⟨ab, aoff + m, none⟩) hab).trans a1
              have hsz : A[m].size ≤ 100000 := by have := (unhide HAS) A[m] (List.getElem_mem _); omega
              have HT := Lib.hid (flatB_take A m hmlt)
              have hbd := flat_len (A.take m) 2000 (fun x hx => (unhide HAS) x (List.mem_of_mem_take hx))
              have hbd2 := splitB_len A[m]
              rw [List.length_take] at hbd
              have hbd3 : (flatB (A.take m)).length + (splitB A[m]).length ≤ 1000000 := by
                have h5 : min m A.length * 2001 ≤ 100 * 2001 := Nat.mul_le_mul_right _ (by omega)
                have h6 : min m A.length * (2000 + 1) = min m A.length * 2001 := rfl
                omega
              clear a1 ho hbd hbd2
              go_wp2_with (first
                | (at_builtin; refine wpList_pushAllS (w0 := wB) rfl _ _ rfl wB.heap.size _ _ _ rfl (unhide H1) _ (splitB A[m]) (unhide HRD) rfl hbd3 ?_; intro v' w9 h9; obtain ⟨ao', cp', rfl⟩ := (Rd.own h9.own).form; have H9 := hide h9; clear h9)
                | (go_at_call 19; refine (rsplit_any _ hsz _).mono ?_; rintro e w8 ⟨v8, rfl, ho2, hb2⟩; obtain ⟨eo, ep, rfl⟩ := (Rd.own ho2).form; have HRD := hide (Rd.own ho2); have H1 := hide ((unhide HO).call hb2); clear ho2 hb2))
              go_roundw
              case rel => exact ⟨m + 1, by go_num, by omega, by rw [HT.out, List.length_append, strV_app]; exact unhide H9⟩
              case measure => simp [intOf]; omega
            · have hT : A.take m = A := List.take_of_length_le hmge
              rw [hT] at HO
              have HP := hide (Rd.own (unhide HO).own)
              have HB8 := hide ((unhide HB7).trans (ho.bel.mono (unhide HB7).size))
              rw [hT]
              clear ho hT HO
              go_wp2_with (first
                | (go_at_call 21; refine (unhide CB _ ((unhide HB).trans ((unhide HB8).mono (unhide HB).size))).mono ?_; rintro e w9 ⟨v9, rfl, ho, hb⟩; obtain ⟨ao9, cp9, rfl⟩ := (Rd.own ho).form; have HLS := hide (Rd.own ho); have HP := hide ((unhide HP).below hb); have HB8 := hide ((unhide HB8).trans (hb.mono (unhide HB8).size)); clear ho hb)
                | (go_at_call 20; refine (unhide CS _ _ _ (unhide HLS) (unhide HP)).mono ?_; rintro e w10 ⟨rfl, hb⟩; have HB8 := hide ((unhide HB8).trans (hb.mono (unhide HB8).size)); clear hb))
              go_roundw
              case rel => exact ⟨k + 1, by go_num, by omega, by rw [Z6.out]; go_num, unhide HB8⟩
              case measure => simp [intOf]; omega
    · have hT : U.take k = U := List.take_of_length_le hge
      rw [hT, unhide U6]
      have HB9 := hide ((unhide HB).trans (hbel.mono (unhide HB).size))
      clear hT hbel
      go_wp2_with fail
      go_ret
      exact ⟨rfl, unhide HB9⟩
end Go.Proofs.YtfohhhdebinikaaGreatDoor.Sp
