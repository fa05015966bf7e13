/- HopNamed, the walk. -/
import Derived.Test.YtmmldoleillelaaDoorE3
import Derived.Test.YtmmldoleillelaaDoorC20
namespace Go.Proofs.YtmmldoleillelaaDoor.Sp
open Go.RowKit Sl

theorem rd_snoc {w : World} {v : Value} {F : List Fld} {x y : ByteArray} (h : Rd w v (F.length + 1) 2 (fldV F ++ [.string x, .string y])) : Rd w v (F ++ [(x, y)]).length 2 (fldV (F ++ [(x, y)])) := by
  rw [fldV_app, List.length_append]; exact h
theorem few_snoc {F : List Fld} {name : ByteArray} (h : F.length ≤ 20 ∧ ∀ f ∈ F, f.1.size + f.2.size ≤ 600) (hn : name.size ≤ 60) : Few (F ++ [(conn1, qComma ++ name)]) := by
  refine ⟨by simp; omega, fun f hf => ?_⟩
  rcases List.mem_append.1 hf with hf | hf
  · have := h.2 f hf; omega
  · rw [List.mem_singleton] at hf
    subst hf
    refine ⟨by show conn1.size ≤ 2000; decide, ?_⟩
    show (qComma ++ name).size ≤ 2000
    rw [app_size]
    have : qComma.size = 3 := rfl
    omega
theorem del_few {F : List Fld} (h : Few F) (name : ByteArray) : Few (delF F name) := ⟨Nat.le_trans (delF_len F name) h.1, fun f hf => h.2 f (List.mem_filter.1 hf).1⟩

set_option maxRecDepth 100000 in
set_option maxHeartbeats 4000000 in
theorem named_any (me ta re bo : ByteArray) (st mi : Int) (fs tr ns : Value) (F T : List Fld) (A : List ByteArray) (h1 : me.size ≤ 9223372036854775807) (h2 : ta.size ≤ 9223372036854775807) (h3 : re.size ≤ 9223372036854775807) (h4 : bo.size ≤ 9223372036854775807)
    (hF : F.length ≤ 9223372036854775807) (hT : T.length ≤ 9223372036854775807) (hA : A.length ≤ 9223372036854775807) (hf : ∀ f ∈ F, f.1.size ≤ 1000000000000000 ∧ f.2.size ≤ 1000000000000000) (ht : ∀ f ∈ T, f.1.size ≤ 1000000000000000 ∧ f.2.size ≤ 1000000000000000) (ha : ∀ x ∈ A, x.size ≤ 1000000000000000)
    (name : ByteArray) (hn : name.size ≤ 9223372036854775807) (w : World) (hv : Rd w fs F.length 2 (fldV F)) (hu : Rd w tr T.length 2 (fldV T)) (hns : Rd w ns A.length 1 (strV A)) :
    Calls Tryd.prog 4 #[.agg (msgV me ta st re mi fs bo tr), .string name, ns] w fun e w' => e = .returned (.bool true) ∧ Below w.heap.size w w' := by
  obtain ⟨ao, cap, rfl⟩ := hv.form
  obtain ⟨bo', caq, rfl⟩ := hu.form
  obtain ⟨no, can, rfl⟩ := hns.form
  have HV := hide hv
  have HNS := hide hns
  have hlight := hide (fun w' (h : Below w.heap.size w w') => light_any me ta re bo st mi _ _ F T h1 h2 h3 h4 hF hT hf ht w' (hv.below h) (hu.below h))
  have hlt := hide (fun w' (h : Below w.heap.size w w') => lightT_any _ A 8 200 hA (by omega) (by omega) ha w' (hns.below h))
  have HB0 := hide ((Below.refl w.heap.size w).alloc (Nat.le_refl _) (.cells #[.string me, .string ta, .int .i64 st, .string re, .int .i64 mi, .slice ao F.length cap, .string bo, .slice bo' T.length caq] 24))
  clear hv hu hf ht hns ha
  unfold msgV at hlight ⊢
  have cc : ∀ w1 : World, Below (w.alloc (.cells #[.string me, .string ta, .int .i64 st, .string re, .int .i64 mi, .slice ao F.length cap, .string bo, .slice bo' T.length caq] 24)).heap.size (w.alloc (.cells #[.string me, .string ta, .int .i64 st, .string re, .int .i64 mi, .slice ao F.length cap, .string bo, .slice bo' T.length caq] 24)) w1 →
      ∀ i u, (#[.string me, .string ta, .int .i64 st, .string re, .int .i64 mi, .slice ao F.length cap, .string bo, .slice bo' T.length caq] : Array Value)[i]? = some u → w1.cell? ⟨w.heap.size, i, none⟩ = some u := by
    intro w1 hb i u hu
    refine cell_call hb ?_
    rw [World.cell?_alloc_at _ _ _ _ rfl]
    simpa using hu
  have CC := hide cc
  clear cc
  obtain ⟨tk, htk⟩ : ∃ tk, tokenS name.data.toList = tk := ⟨_, rfl⟩
  have htok := hide (rtoken_any name hn)
  rw [htk] at htok
  have HTK := Lib.hid htk
  clear htk
  go_enter Tryd.func4, Tryd.ntmps4
  go_upto_region 3 with (go_at_call 8; refine (lives_any _).mono ?_; rintro e w1 ⟨rfl, hb1⟩; have K1 := hide hb1; have HB1 := hide ((unhide HB0).trans (hb1.mono (by simp))); clear hb1)
  have x0 := unhide CC _ (unhide K1) 0 _ rfl
  have x1 := unhide CC _ (unhide K1) 1 _ rfl
  have x2 := unhide CC _ (unhide K1) 2 _ rfl
  have x3 := unhide CC _ (unhide K1) 3 _ rfl
  have x4 := unhide CC _ (unhide K1) 4 _ rfl
  have x5 := unhide CC _ (unhide K1) 5 _ rfl
  have x6 := unhide CC _ (unhide K1) 6 _ rfl
  have x7 := unhide CC _ (unhide K1) 7 _ rfl
  go_wp2_with (first
    | (go_at_call 9; refine (unhide hlight _ (unhide HB1)).mono ?_; rintro e w2 ⟨r, rfl, hr, hb2⟩; have HR := hide hr; have K := hide ((unhide K1).trans (hb2.mono (unhide K1).size)); have y5 := unhide CC _ (unhide K) 5 _ rfl; have HB := hide ((unhide HB1).trans (hb2.mono (unhide HB1).size)); clear hr hb2)
    | (go_at_call 17; refine (unhide htok _).mono ?_; rintro e w3 ⟨rfl, rfl⟩)
    | (go_at_call 18; refine (unhide hlt _ (unhide HB)).mono ?_; rintro e w4 ⟨r4, rfl, hr4, rfl⟩; have HR4 := hide hr4; clear hr4)
    | (go_at_call 10; refine (strip_any _ F (few_of (unhide HR (by first | rfl | assumption))) _ ((unhide HV).below (unhide HB))).mono ?_; rintro e w5 ⟨v5, rfl, ho5, hb5⟩; obtain ⟨ao5, cp5, rfl⟩ := (Rd.own ho5).form; have R5 := hide (Rd.own ho5); have K := hide ((unhide K).trans (hb5.mono (unhide K).size)); have y5 := unhide CC _ (unhide K) 5 _ rfl; have HB := hide ((unhide HB).trans (hb5.mono (unhide HB).size)); clear ho5 hb5))
  · go_ret
    exact ⟨rfl, unhide HB⟩
  · go_ret
    exact ⟨rfl, unhide HB⟩
  · go_ret
    exact ⟨rfl, unhide HB⟩
  · go_ret
    exact ⟨rfl, unhide HB⟩
  · have hlf := unhide HR (by first | rfl | assumption)
    have hla := unhide HR4 (by first | rfl | assumption | (simpa using ‹(!r4) = false›))
    have hn60 : name.size ≤ 60 := by omega
    have htk : tokenS name.data.toList = true := by rw [HTK.out]; first | rfl | assumption
    have HLF := hide hlf
    have HLA := hide hla
    have HTT := Lib.hid htk
    have hfl := hlf.1
    have hal := hla.1
    have hab := hla.2
    have HR5B := HB
    clear hlight HB0 HB1 K1 x0 x1 x2 x3 x4 x5 x6 x7 hlt htok HR HR4 hlf hla htk HTK
    go_upto_region 9 with (first
      | (at_builtin; refine wpList_pushF (w0 := w6) rfl _ _ rfl w5.heap.size _ _ _ rfl (unhide H7) conn1 (qComma ++ name) rfl _ rfl (by omega) ?_; intro v8 w8 h8; obtain ⟨ao8, cp8, rfl⟩ := (Rd.own h8.own).form; have R8 := hide (rd_snoc (Rd.own h8.own)); have RA := hide ((unhide R5).below ((unhide B6).trans h8.bel)); have HB := hide ((unhide HB).trans (((unhide B6).trans h8.bel).mono (unhide HB).size)); clear h8)
      | (go_at_call 10; refine (strip_any _ (F ++ [(conn1, qComma ++ name)]) (few_snoc (unhide HLF) hn60) _ (unhide R8)).mono ?_; rintro e w9 ⟨v9, rfl, ho9, hb9⟩; rw [strip_named F name HTT.out] at ho9; obtain ⟨ao9, cp9, rfl⟩ := (Rd.own ho9).form; have R9 := hide (Rd.own ho9); have RA := hide ((unhide RA).below hb9); have HB := hide ((unhide HB).trans (hb9.mono (unhide HB).size)); clear ho9 hb9)
      | (go_at_call 19; refine (own_any _ F (by omega) _ ((unhide HV).below (unhide HB))).mono ?_; rintro e w6 ⟨v6, rfl, ho6, hb6⟩; obtain ⟨ao6, cp6, rfl⟩ := (Rd.own ho6).form; have B6 := hide hb6; have O6 := hide ho6; clear ho6 hb6)
      | (go_at_call 20; refine (one_any _ _ _).mono ?_; rintro e w7 ⟨rfl, hb7⟩; have H7 := hide ((⟨unhide O6, Below.refl _ _, (unhide B6).size⟩ : Own w6 w6 w5.heap.size 35 2 _ F.length (fldV F)).call hb7); have B7 := hide ((unhide B6).trans (hb7.mono (unhide B6).size)); clear hb7))
    have hgf := del_few (del_few (strip_few (unhide HLF |> few_of)) name) qB
    have hgl := hgf.1
    have HSF := hide (strip_few (few_of (unhide HLF)))
    have hgd : sameLF (delF (delF (stripF F) name) qB) (delF (delF (stripF F) name) qB) = true := sameLF_self _
    have HGD := Lib.hid hgd
    clear hgf hgd
    go_wp2_with (first
      | (go_at_call 21; refine (rdel_any _ (delF (stripF F) name) qB (del_few (unhide HSF) name) (by decide) _ (unhide R10)).mono ?_; rintro e w11 ⟨v11, rfl, ho11, hb11⟩; obtain ⟨ao11, cp11, rfl⟩ := (Rd.own ho11).form; have R11 := hide (Rd.own ho11); have R9 := hide ((unhide R9).below hb11); have HB := hide ((unhide HB).trans (hb11.mono (unhide HB).size)); clear ho11 hb11)
      | (go_at_call 21; refine (rdel_any _ (stripF F) name (unhide HSF) (by omega) _ (unhide RA)).mono ?_; rintro e w10 ⟨v10, rfl, ho10, hb10⟩; obtain ⟨ao10, cp10, rfl⟩ := (Rd.own ho10).form; have R10 := hide (Rd.own ho10); have R9 := hide ((unhide R9).below hb10); have HB := hide ((unhide HB).trans (hb10.mono (unhide HB).size)); clear ho10 hb10)
      | (go_at_call 16; refine (ksameF_any _ _ (delF (delF (stripF F) name) qB) (delF (delF (stripF F) name) qB) (by omega) (by omega) _ (unhide R9) (unhide R11)).mono ?_; rintro e w12 ⟨he, hb12⟩; rw [HGD.out] at he; subst he; have HB := hide ((unhide HB).trans (hb12.mono (unhide HB).size)); clear hb12))
    clear HSF HLF HTT R5 R8 R9 R10 R11 RA
    go_loopw [9, 10, 11] (fun l u i wr => ∃ k : Nat, i = .int .i64 k ∧ k ≤ A.length ∧ u = .string (wantK A k) ∧ Rd wr l (wayL A k).length 2 (fldV (wayL A k)) ∧ Below w.heap.size w wr) (fun _ _ i _ => A.length - (intOf i).toNat)
    case atStart => exact ⟨0, rfl, Nat.zero_le _, rfl, Rd.nil _ 2, unhide HB⟩
    case round =>
      obtain ⟨k, rfl, hk, rfl, hrd, hbel⟩ := hrel
      obtain ⟨lo, lc, rfl⟩ := hrd.form
      have HW := hide hbel
      rcases Nat.lt_or_ge k A.length with hlt | hge
      · obtain ⟨b, off, rfl, hb, c1⟩ := str_cell ((unhide HNS).below hbel) k hlt
        have hm := lens_mem A k hlt
        have hw1 := want_size A k (by omega)
        have hw2 := lens_take_le A k
        have hvia := hide (via_any _ (wayL A k) (k % 2) A[k] (way_few A k (by omega) hal hab) (by omega) (by omega) _ hrd)
        have hway := way_next A k hlt
        have hvia2 : Calls Tryd.prog 22 #[.slice lo (wayL A k).length lc, .int .i64 ((k % 2 : Nat) : Int), .string A[k]] wr (RetF wr (wayL A (k + 1))) := by rw [← hway]; exact unhide hvia
        have HVIA := hide hvia2
        have hwn := want_next A k hlt
        have HWN := Lib.hid hwn
        obtain ⟨u, hu⟩ : ∃ u, wantK A k = u := ⟨_, rfl⟩
        rw [hu] at hw1 ⊢
        have HU := Lib.hid hu
        have hrem : Int.tmod (k : Int) 2 = ((k % 2 : Nat) : Int) := by rw [Int.tmod_eq_emod_of_nonneg (by omega)]; omega
        have hdig : (⟨#[48, 49]⟩ : ByteArray).extract (k % 2) (k % 2 + 1) = digB k := by
          unfold digB
          rcases Nat.mod_two_eq_zero_or_one k with h | h <;> rw [h] <;> decide +kernel
        obtain ⟨p, hp⟩ : ∃ p, k % 2 = p := ⟨_, rfl⟩
        have hp2 : p < 2 := by omega
        rw [hp] at hrem hdig HVIA
        obtain ⟨x, hx⟩ : ∃ x, A[k] = x := ⟨_, rfl⟩
        rw [hx] at c1 hm HVIA
        have HX := Lib.hid hx
        have HDIG := Lib.hid hdig
        have HHREM := Lib.hid hrem
        clear hvia hvia2 hway hwn hu hp hx hrd hbel hdig
        go_upto_region 17 with (go_at_call 22; refine (unhide HVIA).mono ?_; rintro e w13 ⟨v13, rfl, ho13, hb13⟩; obtain ⟨ao13, cp13, rfl⟩ := (Rd.own ho13).form; have R13 := hide (Rd.own ho13); have d1 := cell_call hb13 c1; have hbz := Nat.lt_of_lt_of_le hb hb13.size; have HW := hide ((unhide HW).trans (hb13.mono (unhide HW).size)); clear ho13 hb13)
        all_goals
          have hz13 := (unhide HW).size
          rcases (show p = 0 ∨ p = 1 by omega) with rfl | rfl
        all_goals
          refine Reg.region_more (by kernel_rfl) (by kernel_rfl) ?_
          repeat (go_big_quiet_step (fail))
          refine wpQuiet_nil ?_
          intro w9 hb9; obtain ⟨hc9, hf9, hz9⟩ := bcell hb9; (try simp at hz9)
          go_wp2_with fail
          go_roundw
          case rel =>
            refine ⟨k + 1, by go_num, by omega, ?_, (unhide R13).below hb9, (unhide HW).trans (hb9.mono (unhide HW).size)⟩
            rw [HWN.out, HU.out, HX.out, ← HDIG.out]
            first | rw [if_pos (by omega)] | rw [if_neg (by omega)]
            first | rfl | trace_state
          case measure => simp [intOf]; omega
      · have hke : k = A.length := by omega
        subst hke
        have hget := rget_any _ (wayL A A.length) viaN (way_few A A.length (by omega) hal hab) (by decide) wr hrd
        rw [way_get] at hget
        have HGET := hide hget
        have hwl := way_len A A.length
        obtain ⟨u, hu⟩ : ∃ u, wantK A A.length = u := ⟨_, rfl⟩
        rw [hu] at HGET ⊢
        obtain ⟨n1, hn1⟩ : ∃ n1, (wayL A A.length).length = n1 := ⟨_, rfl⟩
        rw [hn1] at hwl HGET ⊢
        have hwn := want_size A A.length (by omega)
        have HWL := Lib.hid hwl
        clear hget hu hrd hbel hwl hwn hn1
        go_wp2_with (go_at_call 23; refine (unhide HGET).mono ?_; rintro e w14 ⟨rfl, hb14⟩; have HW := hide ((unhide HW).trans (hb14.mono (unhide HW).size)); clear hb14)
        go_ret
        exact ⟨ret_bool (by have := HWL.out; rw [beq_iff_eq]; omega), unhide HW⟩
end Go.Proofs.YtmmldoleillelaaDoor.Sp
