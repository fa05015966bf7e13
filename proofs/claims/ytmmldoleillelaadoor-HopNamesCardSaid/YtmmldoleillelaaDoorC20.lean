/- HopStays, the walk. -/
import Derived.Test.YtmmldoleillelaaDoorC19
namespace Go.Proofs.YtmmldoleillelaaDoor.Sp
open Go.RowKit Sl

theorem few_of {F : List Fld} (h : F.length ≤ 20 ∧ ∀ f ∈ F, f.1.size + f.2.size ≤ 600) : Few F := ⟨by omega, fun f hf => by have := h.2 f hf; omega⟩
theorem any_take (M : List ByteArray) (p : ByteArray → Bool) (k : Nat) (h : k < M.length) : (M.take (k + 1)).any p = ((M.take k).any p || p M[k]) := by
  rw [List.take_succ_eq_append_getElem h, List.any_append]; simp
theorem sameLS_self (A : List ByteArray) : sameLS A A = true := by simp [sameLS]
theorem sameLF_self (A : List Fld) : sameLF A A = true := by simp [sameLF]
def samN (name : ByteArray) (k : ByteArray) : Bool := same k.data.toList name.data.toList

set_option maxRecDepth 100000 in
set_option maxHeartbeats 4000000 in
theorem stays_any (me ta re bo : ByteArray) (st mi : Int) (fs tr : Value) (F T : List Fld) (h1 : me.size ≤ 9223372036854775807) (h2 : ta.size ≤ 9223372036854775807) (h3 : re.size ≤ 9223372036854775807) (h4 : bo.size ≤ 9223372036854775807)
    (hF : F.length ≤ 9223372036854775807) (hT : T.length ≤ 9223372036854775807) (hf : ∀ f ∈ F, f.1.size ≤ 1000000000000000 ∧ f.2.size ≤ 1000000000000000) (ht : ∀ f ∈ T, f.1.size ≤ 1000000000000000 ∧ f.2.size ≤ 1000000000000000)
    (name : ByteArray) (hn : name.size ≤ 9223372036854775807) (w : World) (hv : Rd w fs F.length 2 (fldV F)) (hu : Rd w tr T.length 2 (fldV T)) :
    Calls Tryd.prog 3 #[.agg (msgV me ta st re mi fs bo tr), .string name] w fun e w' => e = .returned (.bool true) ∧ Below w.heap.size w w' := by
  obtain ⟨ao, cap, rfl⟩ := hv.form
  obtain ⟨bo', caq, rfl⟩ := hu.form
  have HV := hide hv
  have hlight := hide (fun w' (h : Below w.heap.size w w') => light_any me ta re bo st mi _ _ F T h1 h2 h3 h4 hF hT hf ht w' (hv.below h) (hu.below h))
  have HB0 := hide ((Below.refl w.heap.size w).alloc (Nat.le_refl _) (.cells #[.string me, .string ta, .int .i64 st, .string re, .int .i64 mi, .slice ao F.length cap, .string bo, .slice bo' T.length caq] 24))
  clear hv hu hf ht
  unfold msgV at hlight ⊢
  have cc : ∀ w1 : World, Below (w.alloc (.cells #[.string me, .string ta, .int .i64 st, .string re, .int .i64 mi, .slice ao F.length cap, .string bo, .slice bo' T.length caq] 24)).heap.size (w.alloc (.cells #[.string me, .string ta, .int .i64 st, .string re, .int .i64 mi, .slice ao F.length cap, .string bo, .slice bo' T.length caq] 24)) w1 →
      ∀ i u, (#[.string me, .string ta, .int .i64 st, .string re, .int .i64 mi, .slice ao F.length cap, .string bo, .slice bo' T.length caq] : Array Value)[i]? = some u → w1.cell? ⟨w.heap.size, i, none⟩ = some u := by
    intro w1 hb i u hu
    refine cell_call hb ?_
    rw [World.cell?_alloc_at _ _ _ _ rfl]
    simpa using hu
  have CC := hide cc
  clear cc
  go_enter Tryd.func3, Tryd.ntmps3
  go_upto_region 3 with (go_at_call 8; refine (lives_any _).mono ?_; rintro e w1 ⟨rfl, hb1⟩; have K1 := hide hb1; have HB1 := hide ((unhide HB0).trans (hb1.mono (by simp))); clear hb1)
  have x0 := unhide CC _ (unhide K1) 0 _ rfl
  have x1 := unhide CC _ (unhide K1) 1 _ rfl
  have x2 := unhide CC _ (unhide K1) 2 _ rfl
  have x3 := unhide CC _ (unhide K1) 3 _ rfl
  have x4 := unhide CC _ (unhide K1) 4 _ rfl
  have x5 := unhide CC _ (unhide K1) 5 _ rfl
  have x6 := unhide CC _ (unhide K1) 6 _ rfl
  have x7 := unhide CC _ (unhide K1) 7 _ rfl
  go_wp2_with (first
    | (go_at_call 9; refine (unhide hlight _ (unhide HB1)).mono ?_; rintro e w2 ⟨r, rfl, hr, hb2⟩; have HR := hide hr; have K := hide ((unhide K1).trans (hb2.mono (unhide K1).size)); have y5 := unhide CC _ (unhide K) 5 _ rfl; have HB := hide ((unhide HB1).trans (hb2.mono (unhide HB1).size)); clear hr hb2)
    | (go_at_call 10; refine (strip_any _ F (few_of (unhide HR (by first | rfl | assumption))) _ ((unhide HV).below (unhide HB))).mono ?_; rintro e w3 ⟨v3, rfl, ho3, hb3⟩; obtain ⟨ao3, cp3, rfl⟩ := (Rd.own ho3).form; have R3 := hide (Rd.own ho3); have K := hide ((unhide K).trans (hb3.mono (unhide K).size)); have y5 := unhide CC _ (unhide K) 5 _ rfl; have HB := hide ((unhide HB).trans (hb3.mono (unhide HB).size)); clear ho3 hb3)
    | (go_at_call 11; refine (rlist_any _ F connB (few_of (unhide HR (by first | rfl | assumption))) (by decide) _ ((unhide HV).below (unhide HB))).mono ?_; rintro e w4 ⟨v4, rfl, ho4, hb4⟩; obtain ⟨ao4, cp4, rfl⟩ := (Rd.own ho4).form; have R4 := hide (Rd.own ho4); have R3 := hide ((unhide R3).below hb4); have K := hide ((unhide K).trans (hb4.mono (unhide K).size)); have HB := hide ((unhide HB).trans (hb4.mono (unhide HB).size)); clear ho4 hb4)
    | (go_at_call 12; refine (hop_any _ (by omega) _).mono ?_; rintro e w5 ⟨rfl, hb5⟩; have R4 := hide ((unhide R4).below hb5); have R3 := hide ((unhide R3).below hb5); have K := hide ((unhide K).trans (hb5.mono (unhide K).size)); have HB := hide ((unhide HB).trans (hb5.mono (unhide HB).size)); clear hb5))
  · go_ret
    exact ⟨rfl, unhide HB⟩
  · go_ret
    exact ⟨rfl, unhide HB⟩
  · have hlight2 := HR
    clear hlight HB0 HB1 K1 x0 x1 x2 x3 x4 x5 x6 x7
    have hfew := few_of (unhide HR (by first | rfl | assumption))
    have hM := listB_few hfew connB
    obtain ⟨M, hMe⟩ : ∃ M, listB F connB = M := ⟨_, rfl⟩
    rw [hMe] at R4 hM ⊢
    have HME := Lib.hid hMe
    have HMS := hide hM
    have HFEW := hide hfew
    have hn100 : name.size ≤ 100 := by omega
    have hml := hM.1
    clear hMe hM hfew
    have hsl := strip_len F
    have hfl := (unhide HFEW).1
    go_loopw [7, 8] (fun g i wr => ∃ k : Nat, i = .int .i64 k ∧ k ≤ M.length ∧ g = .bool (hopS name || (M.take k).any (samN name)) ∧ Below w5.heap.size w5 wr) (fun _ i _ => M.length - (intOf i).toNat)
    case atStart => exact ⟨0, rfl, Nat.zero_le _, by simp, Below.refl _ _⟩
    case round =>
      obtain ⟨k, rfl, hk, rfl, hbel⟩ := hrel
      have HBEL := hide hbel
      obtain ⟨gn, hgn⟩ : ∃ gn, (hopS name || (M.take k).any (samN name)) = gn := ⟨_, rfl⟩
      rw [hgn]
      have HG := Lib.hid hgn
      clear hgn
      rcases Nat.lt_or_ge k M.length with hlt | hge
      · obtain ⟨b, off, rfl, hb, c1⟩ := str_cell (unhide R4) k hlt
        have d1 := (hbel.cell (p := ⟨b, off + k, none⟩) hb).trans c1
        have hsz := (unhide HMS).2 M[k] (List.getElem_mem _)
        have hT : (hopS name || (M.take (k + 1)).any (samN name)) = (gn || samN name M[k]) := by rw [any_take M _ k hlt, ← Bool.or_assoc, HG.out]
        have HT := Lib.hid hT
        clear c1 hbel hT
        cases gn
        · go_wp2_with (go_at_call 13; refine (rsame_any _ _ (by omega) hn _).mono ?_; rintro e w6 ⟨rfl, hb6⟩; have HB6 := hide ((unhide HBEL).trans (hb6.mono (unhide HBEL).size)); clear hb6)
          go_roundw
          case rel => exact ⟨k + 1, by go_num, by omega, by rw [HT.out]; rfl, unhide HB6⟩
          case measure => simp [intOf]; omega
        · go_wp2_with fail
          go_roundw
          case rel => exact ⟨k + 1, by go_num, by omega, by rw [HT.out]; rfl, unhide HBEL⟩
          case measure => simp [intOf]; omega
      · have hgn : goneS (M.map low) name = gn := by
          have := HG.out
          rw [List.take_of_length_le hge] at this
          rw [gone_loop]; exact this
        have HGN := Lib.hid hgn
        have K := hide ((unhide K).trans (hbel.mono (unhide K).size))
        have HB := hide ((unhide HB).trans (hbel.mono (unhide HB).size))
        have R3 := hide ((unhide R3).below hbel)
        have y5 := unhide CC _ (unhide K) 5 _ rfl
        clear hgn hbel HBEL
        go_upto_region 13 with (go_at_call 14; refine (rall_any _ F name (unhide HFEW) (by omega) _ ((unhide HV).below (unhide HB))).mono ?_; rintro e w6 ⟨v6, rfl, ho6, hb6⟩; obtain ⟨ao6, cp6, rfl⟩ := (Rd.own ho6).form; have R6 := hide (Rd.own ho6); have R3 := hide ((unhide R3).below hb6); have K := hide ((unhide K).trans (hb6.mono (unhide K).size)); have HB := hide ((unhide HB).trans (hb6.mono (unhide HB).size)); clear ho6 hb6)
        cases gn
        · have hsame : sameLS (allB (stripF F) name) (allB F name) = true := by rw [all_strip, if_neg (by rw [HME.out, HGN.out]; decide)]; exact sameLS_self _
          have HSAME := Lib.hid hsame
          clear hsame
          go_wp2_with (first
            | (go_at_call 14; refine (rall_any _ (stripF F) name (strip_few (unhide HFEW)) (by omega) _ (unhide R3)).mono ?_; rintro e w7 ⟨v7, rfl, ho7, hb7⟩; obtain ⟨ao7, cp7, rfl⟩ := (Rd.own ho7).form; have R7 := hide (Rd.own ho7); have R3 := hide ((unhide R3).below hb7); have R6 := hide ((unhide R6).below hb7); have K := hide ((unhide K).trans (hb7.mono (unhide K).size)); have HB := hide ((unhide HB).trans (hb7.mono (unhide HB).size)); clear ho7 hb7)
            | (go_at_call 15; refine (ksameS_any _ _ (allB (stripF F) name) (allB F name) (by have := allB_len (stripF F) name; omega) (by have := allB_len F name; omega) _ (unhide R7) (unhide R6)).mono ?_; rintro e w8 ⟨he, hb8⟩; rw [HSAME.out] at he; subst he; have R3 := hide ((unhide R3).below hb8); have K := hide ((unhide K).trans (hb8.mono (unhide K).size)); have HB := hide ((unhide HB).trans (hb8.mono (unhide HB).size)); clear hb8)
            | (go_at_call 10; refine (strip_any _ (stripF F) (strip_few (unhide HFEW)) _ (unhide R3)).mono ?_; rintro e w9 ⟨v9, rfl, ho9, hb9⟩; rw [strip_twice] at ho9; obtain ⟨ao9, cp9, rfl⟩ := (Rd.own ho9).form; have R9 := hide (Rd.own ho9); have R3 := hide ((unhide R3).below hb9); have K := hide ((unhide K).trans (hb9.mono (unhide K).size)); have HB := hide ((unhide HB).trans (hb9.mono (unhide HB).size)); clear ho9 hb9)
            | (go_at_call 16; refine (ksameF_any _ _ (stripF F) (stripF F) (by omega) (by omega) _ (unhide R9) (unhide R3)).mono ?_; rintro e w10 ⟨he, hb10⟩; rw [sameLF_self] at he; subst he; have K := hide ((unhide K).trans (hb10.mono (unhide K).size)); have y5 := unhide CC _ (unhide K) 5 _ rfl; have HB := hide ((unhide HB).trans (hb10.mono (unhide HB).size)); clear hb10))
          go_ret
          exact ⟨rfl, unhide HB⟩
        · have hsame : sameLS (allB (stripF F) name) [] = true := by rw [all_strip, if_pos (by rw [HME.out]; exact HGN.out)]; exact sameLS_self _
          have HSAME := Lib.hid hsame
          clear hsame
          go_wp2_with (first
            | (go_at_call 14; refine (rall_any _ (stripF F) name (strip_few (unhide HFEW)) (by omega) _ (unhide R3)).mono ?_; rintro e w7 ⟨v7, rfl, ho7, hb7⟩; obtain ⟨ao7, cp7, rfl⟩ := (Rd.own ho7).form; have R7 := hide (Rd.own ho7); have R3 := hide ((unhide R3).below hb7); have K := hide ((unhide K).trans (hb7.mono (unhide K).size)); have HB := hide ((unhide HB).trans (hb7.mono (unhide HB).size)); clear ho7 hb7)
            | (go_at_call 15; refine (ksameS_any _ _ (allB (stripF F) name) [] (by have := allB_len (stripF F) name; omega) (by simp) _ (unhide R7) (Rd.nil _ 1)).mono ?_; rintro e w8 ⟨he, hb8⟩; rw [HSAME.out] at he; subst he; have R3 := hide ((unhide R3).below hb8); have K := hide ((unhide K).trans (hb8.mono (unhide K).size)); have HB := hide ((unhide HB).trans (hb8.mono (unhide HB).size)); clear hb8)
            | (go_at_call 10; refine (strip_any _ (stripF F) (strip_few (unhide HFEW)) _ (unhide R3)).mono ?_; rintro e w9 ⟨v9, rfl, ho9, hb9⟩; rw [strip_twice] at ho9; obtain ⟨ao9, cp9, rfl⟩ := (Rd.own ho9).form; have R9 := hide (Rd.own ho9); have R3 := hide ((unhide R3).below hb9); have K := hide ((unhide K).trans (hb9.mono (unhide K).size)); have HB := hide ((unhide HB).trans (hb9.mono (unhide HB).size)); clear ho9 hb9)
            | (go_at_call 16; refine (ksameF_any _ _ (stripF F) (stripF F) (by omega) (by omega) _ (unhide R9) (unhide R3)).mono ?_; rintro e w10 ⟨he, hb10⟩; rw [sameLF_self] at he; subst he; have K := hide ((unhide K).trans (hb10.mono (unhide K).size)); have y5 := unhide CC _ (unhide K) 5 _ rfl; have HB := hide ((unhide HB).trans (hb10.mono (unhide HB).size)); clear hb10))
          go_ret
          exact ⟨rfl, unhide HB⟩
end Go.Proofs.YtmmldoleillelaaDoor.Sp
