/- FieldSets, the walk. -/
import Derived.Test.YtfohhhdebinikaaGreatDoorF5
namespace Go.Proofs.YtfohhhdebinikaaGreatDoor.Sp
open Go.RowKit Sl

theorem same_ne {a b : ByteArray} (h : same a.data.toList b.data.toList = false) : lower a.data.toList ≠ lower b.data.toList := by
  unfold same at h
  simpa using h

/-- an operation that its guard lets through -/
theorem wpList_unguard {P : Program} {ops : Array Oper} {rest : List Oper} {o : Oper} {a : Act} {w : World} {Q : Exit → Act → World → Prop} (hw : Region.wanted o (yielded ops a.tmps) = true) (h : wpList P ops Q ({ o with guard := none } :: rest) a w) : wpList P ops Q (o :: rest) a w := by
  have hw' : Region.wanted { o with guard := none } (yielded ops a.tmps) = true := by simp [Region.wanted]
  simp only [wpList, hw, if_true]
  simp only [wpList, hw', if_true] at h
  exact h
theorem rd_plus {w : World} {v : Value} {D X : List Fld} {p q : ByteArray} (h : X = D ++ [(p, q)]) (hr : Rd w v (D.length + 1) 2 (fldV D ++ [.string p, .string q])) : Rd w v X.length 2 (fldV X) := by
  rw [h, fldV_app, List.length_append]; exact hr

set_option maxRecDepth 100000 in
set_option maxHeartbeats 4000000 in
theorem sets_any (v : Value) (L : List Fld) (name value other : ByteArray) (hL : L.length ≤ 9223372036854775807) (hf : ∀ f ∈ L, f.1.size ≤ 1000000000000000 ∧ f.2.size ≤ 1000000000000000)
    (h1 : name.size ≤ 9223372036854775807) (h2 : value.size ≤ 9223372036854775807) (h3 : other.size ≤ 9223372036854775807) (w : World) (hv : Rd w v L.length 2 (fldV L)) (hM : MaxV w) :
    Calls Tryz.prog 6 #[v, .string name, .string value, .string other] w fun e w' => e = .returned (.bool true) ∧ Below w.heap.size w w' := by
  obtain ⟨ao, cap, rfl⟩ := hv.form
  have HV := hide hv
  have HM := hide hM
  have HB := hide (Below.refl w.heap.size w)
  have HLI := hide (fun w' (h : Below w.heap.size w w') => light_any _ L hL hf w' (hv.below h))
  clear hv hM hf
  go_enter Tryz.func6, Tryz.ntmps6
  go_upto_region 3 with (go_at_call 9; refine (lives_any _ (unhide HM)).mono ?_; rintro e w1 ⟨rfl, hb⟩; have HB := hide ((unhide HB).trans (hb.mono (unhide HB).size)); clear hb)
  go_wp2_with (go_at_call 10; refine (unhide HLI _ (unhide HB)).mono ?_; rintro e w2 ⟨r, rfl, hr, hb⟩; have HR := hide hr; have HB := hide ((unhide HB).trans (hb.mono (unhide HB).size)); clear hr hb)
  all_goals try (go_ret; exact ⟨rfl, unhide HB⟩)
  have hlf := light_few (unhide HR (by first | rfl | assumption))
  have hn2 : name.size ≤ 60 := by omega
  have hv2 : value.size ≤ 100 := by omega
  have ho2 : other.size ≤ 60 := by omega
  have hsz : ∀ f ∈ L, f.1.size ≤ 2000 := fun f hf => by have := (hlf.2 f hf).1; omega
  have hfL : Few L := ⟨by omega, fun f hf => by have := hlf.2 f hf; omega⟩
  have hfS : Few (setB L name value) := set_few ⟨by omega, fun f hf => by have := hlf.2 f hf; omega⟩ (by omega) (by omega)
  have hfD : Few (delF L name) := del_few hfL
  have hfX : Few (setB (delF L name) name value) := set_few ⟨by have := List.length_filter_le (fun f => !isN name f) L; unfold delF; omega, fun f hf => by have := hlf.2 f (List.mem_filter.1 hf).1; omega⟩ (by omega) (by omega)
  have hX : setB (delF L name) name value = delF L name ++ [(name, value)] := set_none _ _ _ (fun f hf => del_not hf)
  have eL1 : L.length ≤ 30 := hlf.1
  have eS1 := set_del_len L name value
  have eS2 := delF_set L name value
  have eG1 := getB_set L name value
  have eA1 := allB_set L name value
  have eA2 := allB_del L name
  have eO1 := allB_set_other L name value other
  have eO2 := allB_del_other L name other
  obtain ⟨S, hS⟩ : ∃ S, setB L name value = S := ⟨_, rfl⟩
  obtain ⟨D, hD⟩ : ∃ D, delF L name = D := ⟨_, rfl⟩
  rw [hD] at hX hfX hfD eS1 eS2 eA2 eO2
  rw [hS] at hfS eS1 eS2 eG1 eA1 eO1
  obtain ⟨X, hXX⟩ : ∃ X, setB D name value = X := ⟨_, rfl⟩
  rw [hXX] at hX hfX
  obtain ⟨gD, hgD⟩ : ∃ gD, getB D name = gD := ⟨_, rfl⟩
  obtain ⟨O, hO⟩ : ∃ O, allB L other = O := ⟨_, rfl⟩
  obtain ⟨sm, hsm⟩ : ∃ sm, same name.data.toList other.data.toList = sm := ⟨_, rfl⟩
  have hOl : O.length ≤ 100 := by rw [← hO]; exact Nat.le_trans (allB_len L other) (by omega)
  rw [hO] at eO1 eO2
  have c1 := hide (fun u w' (h : Rd w' u L.length 2 (fldV L)) => own_any u L (by omega) w' h)
  have c2 := fun u w' (h : Rd w' u L.length 2 (fldV L)) => fset_any u L name value (by omega) hsz (by omega) w' h
  rw [hS] at c2
  have C2 := hide c2
  have c3 := fun u w' (h : Rd w' u L.length 2 (fldV L)) => fdel_any u L name (by omega) hsz (by omega) w' h
  rw [hD] at c3
  have C3 := hide c3
  have c4 := fun u w' (h : Rd w' u S.length 2 (fldV S)) => fget_any u S name hfS (by omega) w' h
  rw [eG1, eA1, show (!([value] : List ByteArray).isEmpty) = true from rfl] at c4
  have C4 := hide c4
  have c5 := fun u w' (h : Rd w' u D.length 2 (fldV D)) => fget_any u D name hfD (by omega) w' h
  rw [hgD, eA2, show (!([] : List ByteArray).isEmpty) = false from rfl] at c5
  have C5 := hide c5
  have c6 := fun u w' (h : Rd w' u S.length 2 (fldV S)) => fall_any u S name hfS (by omega) w' h
  rw [eA1] at c6
  have C6 := hide c6
  have c7 : ∀ (hs : sm = false) u w' (h : Rd w' u S.length 2 (fldV S)), Calls Tryz.prog 18 #[u, .string other] w' (RetS w' O) := fun hs u w' h => by have h9 := fall_any u S other hfS (by omega) w' h; rw [eO1 (same_ne (hsm.trans hs))] at h9; exact h9
  have C7 := hide c7
  have c8 : ∀ (hs : sm = false) u w' (h : Rd w' u D.length 2 (fldV D)), Calls Tryz.prog 18 #[u, .string other] w' (RetS w' O) := fun hs u w' h => by have h9 := fall_any u D other hfD (by omega) w' h; rw [eO2 (same_ne (hsm.trans hs))] at h9; exact h9
  have C8 := hide c8
  have c9 : ∀ u w' (h : Rd w' u L.length 2 (fldV L)), Calls Tryz.prog 18 #[u, .string other] w' (RetS w' O) := fun u w' h => by have h9 := fall_any u L other hfL (by omega) w' h; rw [hO] at h9; exact h9
  have C9 := hide c9
  have c10 := fun u v w' (h : Rd w' u O.length 1 (strV O)) (h' : Rd w' v O.length 1 (strV O)) => ksameS_any u v O O (by omega) (by omega) w' h h'
  rw [sameLS_self] at c10
  have C10 := hide c10
  have c11 := fun u w' (h : Rd w' u S.length 2 (fldV S)) => fdel_any u S name (by have := hfS.1; omega) (fun f hf => (hfS.2 f hf).1) (by omega) w' h
  rw [eS2] at c11
  have C11 := hide c11
  have c12 := fun u v w' (h : Rd w' u D.length 2 (fldV D)) (h' : Rd w' v D.length 2 (fldV D)) => fsame_any u v D D (by have := hfD.1; omega) (by have := hfD.1; omega) (fun f hf => by have := (hfD.2 f hf).1; omega) (fun f hf => by have := (hfD.2 f hf).1; omega) w' h h'
  rw [sameFs_self] at c12
  have C12 := hide c12
  have c13 := fun u w' (h : Rd w' u D.length 2 (fldV D)) => fset_any u D name value (by have := hfD.1; omega) (fun f hf => (hfD.2 f hf).1) (by omega) w' h
  rw [hXX] at c13
  have C13 := hide c13
  have C14 := hide (fun u w' (h : Rd w' u D.length 2 (fldV D)) => own_any u D (by have := hfD.1; omega) w' h)
  have c15 := fun u v w' (h : Rd w' u X.length 2 (fldV X)) (h' : Rd w' v X.length 2 (fldV X)) => fsame_any u v X X (by have := hfX.1; omega) (by have := hfX.1; omega) (fun f hf => by have := (hfX.2 f hf).1; omega) (fun f hf => by have := (hfX.2 f hf).1; omega) w' h h'
  rw [sameFs_self] at c15
  have C15 := hide c15
  have C16 := hide (fun w => rsame_any name other h1 h3 w)
  rw [hsm] at C16
  have HXD := Lib.hid hX
  have hDl : D.length ≤ 100 := hfD.1
  have hlen : ((S.length : Int) != (D.length : Int) + 1) = false := by rw [eS1]; simp
  clear hlf hsz hfL hfS hfD hfX hX eS1 eS2 eG1 eA1 eA2 eO1 eO2 hS hD hXX hgD hO hsm c2 c3 c4 c5 c6 c7 c8 c9 c10 c11 c12 c13 c15 HLI HR
  have RL := hide ((unhide HV).below (unhide HB))
  go_upto_region 9 with (first
    | (have h7 := ownTwo; go_at_call 14; ((with_reducible refine (unhide c1 _ _ ((unhide HV).below (unhide HB))).mono ?_); rintro e w5 ⟨v5, rfl, ho, hb⟩; (try have RA := hide ((unhide RA).below hb)); (try have RD := hide ((unhide RD).below hb)); (try have RO := hide ((unhide RO).below hb)); (try have R1 := hide ((unhide R1).below hb)); have HB := hide ((unhide HB).trans (hb.mono (unhide HB).size)); obtain ⟨ao6, cp6, rfl⟩ := (Rd.own ho).form; have RO := hide (Rd.own ho); clear ho hb))
    | (go_at_call 14; ((with_reducible refine (unhide c1 _ _ ((unhide HV).below (unhide HB))).mono ?_); rintro e w5 ⟨v5, rfl, ho, hb⟩; (try have RA := hide ((unhide RA).below hb)); (try have RD := hide ((unhide RD).below hb)); (try have RO := hide ((unhide RO).below hb)); (try have R1 := hide ((unhide R1).below hb)); have HB := hide ((unhide HB).trans (hb.mono (unhide HB).size)); have ownTwo := True.intro; obtain ⟨ao5, cp5, rfl⟩ := (Rd.own ho).form; have RO := hide (Rd.own ho); clear ho hb))
    | (go_at_call 22; ((with_reducible refine (unhide C2 _ _ (unhide RO)).mono ?_); rintro e w6 ⟨v6, rfl, ho, hb⟩; (try have RA := hide ((unhide RA).below hb)); (try have RD := hide ((unhide RD).below hb)); (try have RO := hide ((unhide RO).below hb)); (try have R1 := hide ((unhide R1).below hb)); have HB := hide ((unhide HB).trans (hb.mono (unhide HB).size)); obtain ⟨aoS, cpS, rfl⟩ := (Rd.own ho).form; have RA := hide (Rd.own ho); clear ho hb))
    | (go_at_call 23; ((with_reducible refine (unhide C3 _ _ (unhide RO)).mono ?_); rintro e w7 ⟨v7, rfl, ho, hb⟩; (try have RA := hide ((unhide RA).below hb)); (try have RD := hide ((unhide RD).below hb)); (try have RO := hide ((unhide RO).below hb)); (try have R1 := hide ((unhide R1).below hb)); have HB := hide ((unhide HB).trans (hb.mono (unhide HB).size)); obtain ⟨aoD, cpD, rfl⟩ := (Rd.own ho).form; have RD := hide (Rd.own ho); clear ho hb))
    | (have h7 := getTwo; go_at_call 24; ((with_reducible refine (unhide C5 _ _ (unhide RD)).mono ?_); rintro e w9 ⟨rfl, hb⟩; (try have RA := hide ((unhide RA).below hb)); (try have RD := hide ((unhide RD).below hb)); (try have RO := hide ((unhide RO).below hb)); (try have R1 := hide ((unhide R1).below hb)); have HB := hide ((unhide HB).trans (hb.mono (unhide HB).size)); clear hb))
    | (go_at_call 24; ((with_reducible refine (unhide C4 _ _ (unhide RA)).mono ?_); rintro e w8 ⟨rfl, hb⟩; have getTwo := True.intro; (try have RA := hide ((unhide RA).below hb)); (try have RD := hide ((unhide RD).below hb)); (try have RO := hide ((unhide RO).below hb)); (try have R1 := hide ((unhide R1).below hb)); have HB := hide ((unhide HB).trans (hb.mono (unhide HB).size)); clear hb)))
  clear RO
  cases sm
  all_goals
    go_wp2_with (first
      | (go_at_call 18; ((with_reducible refine (unhide C6 _ _ (unhide RA)).mono ?_); rintro e w6 ⟨v6, rfl, ho, hb⟩; (try have RA := hide ((unhide RA).below hb)); (try have RD := hide ((unhide RD).below hb)); (try have RO := hide ((unhide RO).below hb)); (try have R1 := hide ((unhide R1).below hb)); have HB := hide ((unhide HB).trans (hb.mono (unhide HB).size)); have hq : Rd w6 v6 1 1 (strV [value]) := Rd.own ho; obtain ⟨aoV, cpV, rfl⟩ := hq.form; clear ho hb hq))
      | (go_at_call 18; ((with_reducible refine (unhide C7 (by trivial) _ _ (unhide RA)).mono ?_); rintro e w6 ⟨v6, rfl, ho, hb⟩; (try have RA := hide ((unhide RA).below hb)); (try have RD := hide ((unhide RD).below hb)); (try have RO := hide ((unhide RO).below hb)); (try have R1 := hide ((unhide R1).below hb)); have HB := hide ((unhide HB).trans (hb.mono (unhide HB).size)); obtain ⟨aoR1, cpR1, rfl⟩ := (Rd.own ho).form; have R1 := hide (Rd.own ho); clear ho hb))
      | (go_at_call 18; ((with_reducible refine (unhide C8 (by trivial) _ _ (unhide RD)).mono ?_); rintro e w6 ⟨v6, rfl, ho, hb⟩; (try have RA := hide ((unhide RA).below hb)); (try have RD := hide ((unhide RD).below hb)); (try have RO := hide ((unhide RO).below hb)); (try have R1 := hide ((unhide R1).below hb)); have HB := hide ((unhide HB).trans (hb.mono (unhide HB).size)); obtain ⟨aoR1, cpR1, rfl⟩ := (Rd.own ho).form; have R1 := hide (Rd.own ho); clear ho hb))
      | (go_at_call 18; ((with_reducible refine (unhide C9 _ _ ((unhide HV).below (unhide HB))).mono ?_); rintro e w6 ⟨v6, rfl, ho, hb⟩; (try have RA := hide ((unhide RA).below hb)); (try have RD := hide ((unhide RD).below hb)); (try have RO := hide ((unhide RO).below hb)); (try have R1 := hide ((unhide R1).below hb)); have HB := hide ((unhide HB).trans (hb.mono (unhide HB).size)); obtain ⟨aoR2, cpR2, rfl⟩ := (Rd.own ho).form; have R2 := hide (Rd.own ho); clear ho hb))
      | (go_at_call 25; ((with_reducible refine (unhide C16 _).mono ?_); rintro e w6 ⟨rfl, hb⟩; (try have RA := hide ((unhide RA).below hb)); (try have RD := hide ((unhide RD).below hb)); (try have RO := hide ((unhide RO).below hb)); (try have R1 := hide ((unhide R1).below hb)); have HB := hide ((unhide HB).trans (hb.mono (unhide HB).size)); clear hb))
      | (go_at_call 20; ((with_reducible refine (unhide C10 _ _ _ (unhide R1) (unhide R2)).mono ?_); rintro e w6 ⟨rfl, hb⟩; (try have RA := hide ((unhide RA).below hb)); (try have RD := hide ((unhide RD).below hb)); (try have RO := hide ((unhide RO).below hb)); (try have R1 := hide ((unhide R1).below hb)); have HB := hide ((unhide HB).trans (hb.mono (unhide HB).size)); clear hb))
      | (go_at_call 23; ((with_reducible refine (unhide C11 _ _ (unhide RA)).mono ?_); rintro e w6 ⟨v6, rfl, ho, hb⟩; (try have RA := hide ((unhide RA).below hb)); (try have RD := hide ((unhide RD).below hb)); (try have RO := hide ((unhide RO).below hb)); (try have R1 := hide ((unhide R1).below hb)); have HB := hide ((unhide HB).trans (hb.mono (unhide HB).size)); obtain ⟨ao3, cp3, rfl⟩ := (Rd.own ho).form; have R3 := hide (Rd.own ho); clear ho hb))
      | (have h7 := sameTwo; go_at_call 16; ((with_reducible refine (unhide C15 _ _ _ (unhide RX) (unhide RY)).mono ?_); rintro e w6 ⟨rfl, hb⟩; (try have RA := hide ((unhide RA).below hb)); (try have RD := hide ((unhide RD).below hb)); (try have RO := hide ((unhide RO).below hb)); (try have R1 := hide ((unhide R1).below hb)); have HB := hide ((unhide HB).trans (hb.mono (unhide HB).size)); clear hb))
      | (go_at_call 16; ((with_reducible refine (unhide C12 _ _ _ (unhide R3) (unhide RD)).mono ?_); rintro e w6 ⟨rfl, hb⟩; have sameTwo := True.intro; (try have RA := hide ((unhide RA).below hb)); (try have RD := hide ((unhide RD).below hb)); (try have RO := hide ((unhide RO).below hb)); (try have R1 := hide ((unhide R1).below hb)); have HB := hide ((unhide HB).trans (hb.mono (unhide HB).size)); clear hb))
      | (go_at_call 22; ((with_reducible refine (unhide C13 _ _ (unhide RD)).mono ?_); rintro e w6 ⟨v6, rfl, ho, hb⟩; (try have RA := hide ((unhide RA).below hb)); (try have RD := hide ((unhide RD).below hb)); (try have RO := hide ((unhide RO).below hb)); (try have R1 := hide ((unhide R1).below hb)); have HB := hide ((unhide HB).trans (hb.mono (unhide HB).size)); obtain ⟨aoX, cpX, rfl⟩ := (Rd.own ho).form; have RX := hide (Rd.own ho); clear ho hb))
      | (go_at_call 14; ((with_reducible refine (unhide C14 _ _ (unhide RD)).mono ?_); rintro e w8 ⟨v8, rfl, ho, hb⟩; obtain ⟨ao8, cp8, rfl⟩ := (Rd.own ho).form; have HBO := hide hb; have O8 := hide (⟨ho, Below.refl _ _, hb.size⟩ : Own w8 w8 _ 30 2 _ D.length (fldV D)); clear ho hb))
      | (at_builtin; refine wpList_unguard (by first | rfl | kernel_rfl) ?_; refine wpList_pushF (w0 := w8) rfl _ _ rfl _ _ _ _ rfl (unhide O8) name value rfl _ rfl (by omega) ?_; intro v9 w9 h9; have h10 : Rd w9 v9 (D.length + 1) 2 (fldV D ++ [.string name, .string value]) := Rd.own h9.own; have hb := (unhide HBO).trans h9.bel; have RX := hide ((unhide RX).below hb); have RY := hide (rd_plus HXD.out h10); obtain ⟨ao9, cp9, rfl⟩ := (unhide RY).form; have RD := hide ((unhide RD).below hb); have HB := hide ((unhide HB).trans (hb.mono (unhide HB).size)); clear h9 h10 hb))
    go_ret
    exact ⟨rfl, unhide HB⟩
end Go.Proofs.YtfohhhdebinikaaGreatDoor.Sp
