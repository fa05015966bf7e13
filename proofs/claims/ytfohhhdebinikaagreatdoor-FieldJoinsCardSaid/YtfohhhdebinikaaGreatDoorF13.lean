/- FieldJoins, the walk. -/
import Derived.Test.YtfohhhdebinikaaGreatDoorF12
namespace Go.Proofs.YtfohhhdebinikaaGreatDoor.Sp
open Go.RowKit Sl

theorem bytes_out (v : Value) (L : List Fld) (A : ByteArray) (ok : Bool) (hA : ofL (linesL L) = A) (hok : L.all chkS = ok) (hL : L.length ≤ 1000000) (hf : ∀ f ∈ L, f.1.size ≤ 100000 ∧ f.2.size ≤ 100000) (w : World) (hv : Rd w v L.length 2 (fldV L)) :
    Calls Tryz.prog 11 #[v] w fun e w' => e = .returned (.tuple #[.string (if ok = true then A else ⟨#[]⟩), .int .i64 (errI ok)]) ∧ Below w.heap.size w w' := by
  refine (bytes_any v L hL hf w hv).mono ?_
  rintro e w' ⟨h, hb⟩
  unfold BytesO at h
  rw [hA, hok] at h
  exact ⟨h, hb⟩

set_option maxRecDepth 100000 in
set_option maxHeartbeats 4000000 in
theorem joins_any (u v : Value) (L M : List Fld) (hL : L.length ≤ 9223372036854775807) (hM : M.length ≤ 9223372036854775807) (hf : ∀ f ∈ L, f.1.size ≤ 1000000000000000 ∧ f.2.size ≤ 1000000000000000)
    (hg : ∀ f ∈ M, f.1.size ≤ 1000000000000000 ∧ f.2.size ≤ 1000000000000000) (w : World) (hu : Rd w u L.length 2 (fldV L)) (hv : Rd w v M.length 2 (fldV M)) (hX : MaxV w) :
    Calls Tryz.prog 4 #[u, v] w fun e w' => e = .returned (.bool true) ∧ Below w.heap.size w w' := by
  obtain ⟨ao, cap, rfl⟩ := hu.form
  obtain ⟨bo, caq, rfl⟩ := hv.form
  have HU := hide hu
  have HV := hide hv
  have HX := hide hX
  have HB := hide (Below.refl w.heap.size w)
  have HLL := hide (fun w' (h : Below w.heap.size w w') => light_any _ L hL hf w' (hu.below h))
  have HLM := hide (fun w' (h : Below w.heap.size w w') => light_any _ M hM hg w' (hv.below h))
  clear hu hv hX hf hg
  go_enter Tryz.func4, Tryz.ntmps4
  go_upto_region 3 with (go_at_call 9; refine (lives_any _ (unhide HX)).mono ?_; rintro e w1 ⟨rfl, hb⟩; have HB := hide ((unhide HB).trans (hb.mono (unhide HB).size)); clear hb)
  go_wp2_with (first
    | (go_at_call 10; ((with_reducible refine (unhide HLM _ (unhide HB)).mono ?_); rintro e w3 ⟨r2, rfl, hr2, hb⟩; have HR2 := hide hr2; have HB := hide ((unhide HB).trans (hb.mono (unhide HB).size)); clear hr2 hb))
    | (go_at_call 10; ((with_reducible refine (unhide HLL _ (unhide HB)).mono ?_); rintro e w2 ⟨r, rfl, hr, hb⟩; have HR := hide hr; have HB := hide ((unhide HB).trans (hb.mono (unhide HB).size)); clear hr hb)))
  all_goals try (go_ret; exact ⟨rfl, unhide HB⟩)
  have hr9 : r = true := by assumption
  subst hr9
  have hr8 : r2 = true := by have h9 : (!r2) = false := by assumption
                             simpa using h9
  subst hr8
  have hlL := light_few (unhide HR (by first | rfl | trivial))
  have hlM := light_few (unhide HR2 (by first | rfl | trivial))
  have eL1 : L.length ≤ 30 := hlL.1
  have eM1 : M.length ≤ 30 := hlM.1
  have zL : ∀ f ∈ L, f.1.size ≤ 100000 ∧ f.2.size ≤ 100000 := fun f hf => by have := hlL.2 f hf; omega
  have zM : ∀ f ∈ M, f.1.size ≤ 100000 ∧ f.2.size ≤ 100000 := fun f hf => by have := hlM.2 f hf; omega
  have zP : ∀ f ∈ L ++ M, f.1.size ≤ 100000 ∧ f.2.size ≤ 100000 := fun f hf => by
    rcases List.mem_append.1 hf with h | h
    · exact zL f h
    · exact zM f h
  have nA := linesL_len 1204 L (fun f hf => by have := hlL.2 f hf; omega)
  have nB := linesL_len 1204 M (fun f hf => by have := hlM.2 f hf; omega)
  have hAs : (ofL (linesL L)).size = (linesL L).length := size_list rfl
  have hBs : (ofL (linesL M)).size = (linesL M).length := size_list rfl
  have hPA : ofL (linesL (L ++ M)) = ofL (linesL L) ++ ofL (linesL M) := by rw [linesL_app, ofL_app]
  have hPC : (L ++ M).all chkS = (L.all chkS && M.all chkS) := List.all_append
  obtain ⟨A, hA⟩ : ∃ A, ofL (linesL L) = A := ⟨_, rfl⟩
  obtain ⟨C, hC⟩ : ∃ C, ofL (linesL M) = C := ⟨_, rfl⟩
  obtain ⟨p, hp⟩ : ∃ p, L.all chkS = p := ⟨_, rfl⟩
  obtain ⟨q, hq⟩ : ∃ q, M.all chkS = q := ⟨_, rfl⟩
  rw [hA, hC] at hPA
  rw [hA] at hAs
  rw [hC] at hBs
  rw [hp, hq] at hPC
  have hAz : A.size ≤ 100000 := by omega
  have hCz : C.size ≤ 100000 := by omega
  have c1 := fun w' (h : Below w.heap.size w w') => bytes_out _ L A p hA hp (by omega) zL w' ((unhide HU).below h)
  have c2 := fun w' (h : Below w.heap.size w w') => bytes_out _ M C q hC hq (by omega) zM w' ((unhide HV).below h)
  have c3 := fun v w' (h : Rd w' v (L ++ M).length 2 (fldV (L ++ M))) => bytes_out v (L ++ M) (A ++ C) (p && q) hPA hPC (by rw [List.length_append]; omega) zP w' h
  have c4 := hide (fun w' (h : Below w.heap.size w w') => own_any _ L (by omega) w' ((unhide HU).below h))
  obtain ⟨S, hS⟩ : ∃ S, L.map smallF = S := ⟨_, rfl⟩
  have hSl : S.length = L.length := by rw [← hS, List.length_map]
  have zS : ∀ f ∈ S, f.1.size ≤ 100000 := by
    rw [← hS]
    intro f hf
    obtain ⟨g, hg, rfl⟩ := List.mem_map.1 hf
    have e : (smallF g).1.size = g.1.size := by
      show (smallB g.1).size = _
      rw [size_list (l := lower g.1.data.toList) rfl]
      unfold lower
      simp
    rw [e]
    exact (zL g hg).1
  have s5 := sameFs_small L
  have s6 := s5
  rw [hS] at s5 s6
  rw [sameFs_comm] at s6
  obtain ⟨bb, hbb⟩ : ∃ bb, sameFs L M = bb := ⟨_, rfl⟩
  have s7 := sameFs_comm M L
  rw [hbb] at s7
  have hbl := fun (h : bb = true) => sameFs_len L M (hbb.trans h)
  have c5 := fun v w' (h0 : Below w.heap.size w w') (h : Rd w' v S.length 2 (fldV S)) => fsame_any _ v L S (by omega) (by omega) (fun f hf => (zL f hf).1) zS w' ((unhide HU).below h0) h
  have c6 := fun v w' (h0 : Below w.heap.size w w') (h : Rd w' v S.length 2 (fldV S)) => fsame_any v _ S L (by omega) (by omega) zS (fun f hf => (zL f hf).1) w' h ((unhide HU).below h0)
  have c7 := fun w' (h0 : Below w.heap.size w w') => fsame_any _ _ L M (by omega) (by omega) (fun f hf => (zL f hf).1) (fun f hf => (zM f hf).1) w' ((unhide HU).below h0) ((unhide HV).below h0)
  have c8 := fun w' (h0 : Below w.heap.size w w') => fsame_any _ _ M L (by omega) (by omega) (fun f hf => (zM f hf).1) (fun f hf => (zL f hf).1) w' ((unhide HV).below h0) ((unhide HU).below h0)
  rw [s5] at c5
  rw [s6] at c6
  rw [hbb] at c7
  rw [s7] at c8
  have C5 := hide c5
  have C6 := hide c6
  have C7 := hide c7
  have C8 := hide c8
  have HBL := hide hbl
  have HSL := Lib.hid hSl
  have HS := Lib.hid hS
  have HZL := hide zL
  have HMM := hide (show ∀ w' v, Rd w' v (L.length + M.length) 2 (fldV L ++ fldV M) → Rd w' v (L ++ M).length 2 (fldV (L ++ M)) from fun w' v h => by rw [List.length_append, fldV_app]; exact h)
  clear hlL hlM zL zM zP nA nB hAs hBs hPA hPC hA hC hp hq hS hSl zS s5 s6 s7 hbb hbl c5 c6 c7 c8 HR HR2 HLL HLM
  unfold errI at c1 c2 c3
  cases p <;> cases q
  all_goals
    simp only [if_true, Bool.false_eq_true, if_false, Bool.and_false, Bool.false_and, Bool.and_true] at c1 c2 c3
    have C1 := hide c1
    have C2 := hide c2
    have C3 := hide c3
    clear c1 c2 c3
    go_upto_region 10 with (first
      | (at_builtin; refine wpList_pushAllF (w0 := w5) rfl _ _ rfl _ _ _ _ rfl (unhide HO) _ M ((unhide HV).below (unhide HB)) rfl (by omega) ?_; intro v6 w6 h6; obtain ⟨ao6, cp6, rfl⟩ := (Rd.own h6.own).form; have R6 := hide (unhide HMM _ _ (Rd.own h6.own)); have HB := hide ((unhide HB).trans (h6.bel.mono (unhide HG))); clear h6)
      | (go_at_call 11; ((with_reducible refine (unhide C1 _ (unhide HB)).mono ?_); rintro e w3 ⟨rfl, hb⟩; have HB := hide ((unhide HB).trans (hb.mono (unhide HB).size)); clear hb))
      | (go_at_call 11; ((with_reducible refine (unhide C2 _ (unhide HB)).mono ?_); rintro e w3 ⟨rfl, hb⟩; have HB := hide ((unhide HB).trans (hb.mono (unhide HB).size)); clear hb))
      | (go_at_call 11; ((with_reducible refine (unhide C3 _ _ (unhide R6)).mono ?_); rintro e w7 ⟨rfl, hb⟩; have HB := hide ((unhide HB).trans (hb.mono (unhide HB).size)); clear hb))
      | (go_at_call 14; (refine (unhide c4 _ (unhide HB)).mono ?_; rintro e w5 ⟨v5, rfl, ho, hb⟩; obtain ⟨ao5, cp5, rfl⟩ := (Rd.own ho).form; have HO := hide (⟨ho, Below.refl _ _, hb.size⟩ : Own w5 w5 _ 30 2 (.slice ao5 L.length cp5) L.length (fldV L)); have HG := hide (unhide HB).size; have HB := hide ((unhide HB).trans (hb.mono (unhide HB).size)); clear ho hb)))
    clear R6 HO HG C1 C2 C3
    go_upto_region 11 with (go_at_call 14; (refine (unhide c4 _ (unhide HB)).mono ?_; rintro e wS ⟨v5, rfl, ho, hb⟩; obtain ⟨ao5, cp5, rfl⟩ := (Rd.own ho).form; have HO := hide (⟨ho, Below.refl _ _, hb.size⟩ : Own wS wS _ 30 2 (.slice ao5 L.length cp5) L.length (fldV L)); have HG := hide (unhide HB).size; have HB := hide ((unhide HB).trans (hb.mono (unhide HB).size)); clear ho hb))
    go_wp2_with fail
    go_loopw [12] (fun i wr => ∃ k : Nat, i = .int .i64 k ∧ k ≤ L.length ∧ Own wS wr _ 30 2 (.slice ao5 L.length cp5) L.length (fldV (smallTo k L))) (fun i _ => L.length - (intOf i).toNat)
    case atStart => exact ⟨0, rfl, Nat.zero_le _, by rw [smallTo_zero]; exact unhide HO⟩
    case round =>
      clear HO
      obtain ⟨k, rfl, hk, ho⟩ := hrel
      have HO := hide ho
      rcases Nat.lt_or_ge k L.length with hlt | hge
      · obtain ⟨gb, cp, hv5, _⟩ := World.ownsRow.form ho.own (by omega)
        cases hv5
        have hgB := row_base ho.own gb rfl
        have hn := smallTo_len L k
        have y1 := (own_fld ho.own hn k hlt).1
        rw [smallTo_get L k hlt] at y1
        have hst := fldV_set1 (smallTo k L) k (by omega) (smallB L[k].1)
        rw [smallTo_get L k hlt] at hst
        have hst2 := smallTo_set L k hlt
        have hst3 : (fldV (smallTo k L)).set (k * 2) (.string (smallB L[k].1)) = fldV (smallTo (k + 1) L) := by rw [hst, ← hst2]; rfl
        have hz := (unhide HZL) L[k] (List.getElem_mem _)
        obtain ⟨x, hx⟩ : ∃ x, L[k].1 = x := ⟨_, rfl⟩
        rw [hx] at y1 hst3 hz
        have hc : ∀ w, Calls Tryz.prog 15 #[.string x] w fun e w' => e = .returned (.string (smallB x)) ∧ Below w.heap.size w w' := fun w => rlower_any x (by omega) w
        have HC := hide hc
        have HST := hide hst3
        have hgw := World.block_lt_of_cell? wr _ y1
        obtain ⟨xs, hxs⟩ : ∃ xs, smallB x = xs := ⟨_, rfl⟩
        rw [hxs] at HC HST
        clear ho hst hst2 hst3 hx hz hn hc hxs
        go_wp2_with (go_at_call 15; refine (unhide HC _).mono ?_; rintro e w2 ⟨rfl, hb2⟩; have HO2 := (unhide HO).call hb2; have y1 := cell_call hb2 y1; have hgw := World.block_lt_of_cell? w2 _ y1; have f2 := HO2.own.frozenAt (k * 2); have HO2 := hide HO2; clear hb2)
        go_roundw
        case rel =>
          have ho2 := unhide HO2
          have h7 := (ho2.own.stored (k * 2) (.string xs)).1
          rw [unhide HST] at h7
          exact ⟨k + 1, by go_num, by omega, ⟨h7, ho2.bel.setCell hgB _, by simpa [World.setCell] using ho2.le⟩⟩
        case measure => simp [intOf]; omega
      · have hT := smallTo_all L k hge
        rw [hT, HS.out] at HO
        have R5 : Rd wr (.slice ao5 L.length cp5) S.length 2 (fldV S) := by
          rw [HSL.out]
          exact Rd.own (unhide HO).own
        have HB := hide ((unhide HB).trans ((unhide HO).bel.mono (unhide HG)))
        have R5 := hide R5
        clear hT ho HO
        cases bb
        · go_wp2_with (first
            | (go_at_call 16; ((with_reducible refine (unhide C7 _ (unhide HB)).mono ?_); rintro e w7 ⟨rfl, hb⟩; have R5 := hide ((unhide R5).below hb); have HB := hide ((unhide HB).trans (hb.mono (unhide HB).size)); clear hb))
            | (go_at_call 16; ((with_reducible refine (unhide C8 _ (unhide HB)).mono ?_); rintro e w7 ⟨rfl, hb⟩; have R5 := hide ((unhide R5).below hb); have HB := hide ((unhide HB).trans (hb.mono (unhide HB).size)); clear hb))
            | (go_at_call 16; ((with_reducible refine (unhide C5 _ _ (unhide HB) (unhide R5)).mono ?_); rintro e w7 ⟨rfl, hb⟩; have R5 := hide ((unhide R5).below hb); have HB := hide ((unhide HB).trans (hb.mono (unhide HB).size)); clear hb))
            | (go_at_call 16; ((with_reducible refine (unhide C6 _ _ (unhide HB) (unhide R5)).mono ?_); rintro e w7 ⟨rfl, hb⟩; have R5 := hide ((unhide R5).below hb); have HB := hide ((unhide HB).trans (hb.mono (unhide HB).size)); clear hb)))
          go_ret
          exact ⟨rfl, unhide HB⟩
        · have hlm : ((L.length : Int) == (M.length : Int)) = true := by rw [(unhide HBL) (by trivial)]; simp
          go_wp2_with (first
            | (go_at_call 16; ((with_reducible refine (unhide C7 _ (unhide HB)).mono ?_); rintro e w7 ⟨rfl, hb⟩; have R5 := hide ((unhide R5).below hb); have HB := hide ((unhide HB).trans (hb.mono (unhide HB).size)); clear hb))
            | (go_at_call 16; ((with_reducible refine (unhide C8 _ (unhide HB)).mono ?_); rintro e w7 ⟨rfl, hb⟩; have R5 := hide ((unhide R5).below hb); have HB := hide ((unhide HB).trans (hb.mono (unhide HB).size)); clear hb))
            | (go_at_call 16; ((with_reducible refine (unhide C5 _ _ (unhide HB) (unhide R5)).mono ?_); rintro e w7 ⟨rfl, hb⟩; have R5 := hide ((unhide R5).below hb); have HB := hide ((unhide HB).trans (hb.mono (unhide HB).size)); clear hb))
            | (go_at_call 16; ((with_reducible refine (unhide C6 _ _ (unhide HB) (unhide R5)).mono ?_); rintro e w7 ⟨rfl, hb⟩; have R5 := hide ((unhide R5).below hb); have HB := hide ((unhide HB).trans (hb.mono (unhide HB).size)); clear hb)))
          go_ret
          exact ⟨rfl, unhide HB⟩
end Go.Proofs.YtfohhhdebinikaaGreatDoor.Sp
