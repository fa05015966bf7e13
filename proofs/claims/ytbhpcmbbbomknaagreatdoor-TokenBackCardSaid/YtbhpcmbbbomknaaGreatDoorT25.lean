/- The walk of the law TokenBack. -/
import Derived.Test.YtbhpcmbbbomknaaGreatDoorT23
import Derived.Test.YtbhpcmbbbomknaaGreatDoorT24
import Derived.Test.YtbhpcmbbbomknaaGreatDoorT11
import Derived.Test.YtbhpcmbbbomknaaGreatDoorT14
import Derived.Test.YtbhpcmbbbomknaaGreatDoorLT
import Derived.Test.YtbhpcmbbbomknaaGreatDoorO7
namespace Go.Proofs.YtbhpcmbbbomknaaGreatDoor.Sp
open Go.RowKit Sl

/-! ### plain -/
theorem lens_el : ∀ (A : List ByteArray) (x : ByteArray), x ∈ A → x.size ≤ lensB A
  | y :: r, x, h => by
    unfold lensB
    rw [List.map_cons, List.sum_cons]
    rcases List.mem_cons.1 h with rfl | h
    · omega
    · have := lens_el r x h
      unfold lensB at this
      omega
/-- those that can be quoted -/
def okB (A : List ByteArray) : List ByteArray := A.filter fun x => allS chr x.data.toList
theorem okB_take (A : List ByteArray) (k : Nat) (h : k < A.length) : okB (A.take (k + 1)) = okB (A.take k) ++ if allS chr A[k].data.toList = true then [A[k]] else [] := by
  unfold okB
  rw [List.take_succ_eq_append_getElem h, List.filter_append]
  congr 1
  cases hh : allS chr A[k].data.toList <;> simp [hh]
theorem okB_len (A : List ByteArray) : (okB A).length ≤ A.length := List.length_filter_le _ _
theorem quoS_L (s : ByteArray) : (quoS s).data.toList = quoL s.data.toList := quoS_data s
theorem split_quo (L : List ByteArray) (x : ByteArray) (h : x.data.toList = joinQ L) : splitB x = L.map quoS := by
  unfold splitB
  rw [h, splitS_join, List.map_map]
  apply List.map_congr_left
  intro y _
  show ofL (quoL y.data.toList) = quoS y
  rw [← quoS_L, ofL_of]
theorem quoS_size (s : ByteArray) : (quoS s).size ≤ 2 * s.size + 2 := by
  have h1 := esc_size s
  rw [size_list (quoS_L s)]
  unfold quoL
  rw [List.length_cons, List.length_append]
  simp; omega

theorem kText_len : ((List.range 1001).all fun k => decide ((kText k).length ≤ 10)) = true := by decide +kernel
theorem wtS_len (q : Nat) : (wtS q).length ≤ 10 := by
  unfold wtS
  split
  · have h1 := kText_len
    rw [List.all_eq_true] at h1
    have h2 := h1 (kOf q) (List.mem_range.2 (by have := kOf_le q; omega))
    simpa using h2
  · simp

set_option maxRecDepth 100000 in
set_option maxHeartbeats 8000000 in
theorem back_any (v : Value) (A : List ByteArray) (hA : A.length ≤ 9223372036854775807) (hf : ∀ x ∈ A, x.size ≤ 1000000000000000) (q : Nat) (w : World) (hv : Rd w v A.length 1 (strV A)) (ht : Pow10 w) (hM : MaxV w) (hE : RangeV w) :
    Calls Tryz.prog 4 #[v, .float .f64 q] w fun e w' => e = .returned (.bool true) ∧ Below w.heap.size w w' := by
  have c0 := hide (lives_any w ht)
  have c1 := hide (fun w hv => lightT_any v A 20 200 hA (by decide) (by decide) hf w hv)
  obtain ⟨ao, cap, rfl⟩ := hv.form
  have HV := hide hv
  have HT := hide ht
  have HM := hide hM
  have HE := hide hE
  clear hv ht hM hE hf hA
  go_enter Tryz.func4, Tryz.ntmps4
  go_wp2_with fail
  refine (unhide c0).mono ?_; rintro e w1 ⟨rfl, hb1⟩
  have HB1 := hide hb1
  have HV1 := hide ((unhide HV).below hb1)
  clear hb1 HV c0
  go_wp2_with fail
  refine (unhide c1 _ (unhide HV1)).mono ?_; rintro e w2 ⟨r, rfl, hlight, rfl⟩
  clear c1
  cases r
  · go_wp2_with fail
    go_ret
    exact ⟨rfl, unhide HB1⟩
  · obtain ⟨hlen, hsum⟩ := hlight rfl
    have HSUM := hide hsum
    clear hlight hsum
    go_wp2_with fail
    go_loopw [5, 6, 7] (fun al v i wr => ∃ (k : Nat) (x : ByteArray), i = .int .i64 k ∧ k ≤ A.length ∧ al = .string x ∧ x.data.toList = joinQ (okB (A.take k)) ∧ x.size ≤ 500 * k ∧ Own w1 wr w1.heap.size 9 1 v (okB (A.take k)).length (strV ((okB (A.take k)).map quoS))) (fun _ _ i _ => A.length - (intOf i).toNat)
    case atStart => exact ⟨0, ⟨#[]⟩, rfl, Nat.zero_le _, rfl, rfl, by decide, Own.start _ _ (Nat.le_refl _) _ _⟩
    case round =>
      obtain ⟨k, x, rfl, hk, rfl, hx, hxz, ho⟩ := hrel
      obtain ⟨bo, cp, rfl⟩ := (Rd.own ho.own).form
      have HO := hide ho
      have HX := Lib.hid hx
      clear hx
      have hok := okB_len (A.take k)
      rw [List.length_take] at hok
      rcases Nat.lt_or_ge k A.length with hlt | hge
      · have hkb : decide ((k : Int) < (A.length : Int)) = true := by rw [decide_eq_true_iff]; omega
        obtain ⟨b, off, rfl, hb, d0⟩ := str_cell (unhide HV1) k hlt
        have d1 := (ho.bel.cell (p := ⟨b, off + k, none⟩) hb).trans d0
        have hbw := Nat.lt_of_lt_of_le hb ho.bel.size
        have HT := Lib.hid (okB_take A k hlt)
        have hyz : A[k].size ≤ 200 := Nat.le_trans (lens_el A _ (List.getElem_mem _)) (unhide HSUM)
        obtain ⟨y, hy⟩ : ∃ y, A[k] = y := ⟨_, rfl⟩
        rw [hy] at d1 hyz HT
        clear ho hb d0 hy
        cases hc : allS chr y.data.toList
        · have cq := hide (fun w => quote_no y (by omega) hc w)
          have hT : okB (A.take (k + 1)) = okB (A.take k) := by rw [HT.out, if_neg (by rw [hc]; decide), List.append_nil]
          have HT2 := Lib.hid hT
          clear hT hc
          go_wp2_with (go_at_call 9; refine (unhide cq _).mono ?_; rintro e w3 ⟨rfl, hb3⟩; have H3 := hide ((unhide HO).call hb3); clear hb3)
          go_roundw
          case rel => exact ⟨k + 1, x, by go_num, by omega, rfl, by rw [HT2.out]; exact HX.out, by omega, by rw [HT2.out]; exact unhide H3⟩
          case measure => simp [intOf]; omega
        · have cq := hide (fun w => quote_ok y (by omega) hc w)
          have hq := quoted1 y.data.toList hc
          have cu := hide (fun w => unquote_any (quoS y) (by have := quoS_size y; omega) w)
          rw [quoS_L] at cu
          unfold quoL at cu
          rw [hq] at cu
          simp only [ofL_of] at cu
          have hT : okB (A.take (k + 1)) = okB (A.take k) ++ [y] := by rw [HT.out, if_pos hc]
          have HT2 := Lib.hid hT
          have hQd := quoS_L y
          have hQz := quoS_size y
          obtain ⟨Q, hQ⟩ : ∃ Q, quoS y = Q := ⟨_, rfl⟩
          rw [hQ] at cq cu hQd hQz
          have HQ := Lib.hid hQ
          obtain ⟨xQ, hxQ⟩ : ∃ xQ, x ++ Q = xQ := ⟨_, rfl⟩
          obtain ⟨xx, hxx⟩ : ∃ xx, xQ ++ ⟨#[32, 44, 9]⟩ = xx := ⟨_, rfl⟩
          have zxQ : xQ.size ≤ 500 * k + 402 := by rw [← hxQ, ByteArray.size_append]; omega
          have zlit : (⟨#[32, 44, 9]⟩ : ByteArray).size = 3 := rfl
          have zxx : xx.size ≤ 500 * k + 405 := by rw [← hxx, ByteArray.size_append]; omega
          have hxd : xx.data.toList = joinQ (okB (A.take (k + 1))) := by
            rw [hT, joinQ_app, ← HX.out, ← hQd, ← hxx, app_data, ← hxQ, app_data, List.append_assoc]
          have HXD := Lib.hid hxd
          clear hT hc hq hQd hQ hxd
          go_wp2_with (first
            | (at_builtin; refine wpList_pushS (w0 := w1) rfl _ _ rfl w1.heap.size _ _ _ rfl (unhide H4) Q rfl _ rfl (by omega) ?_; intro v' w5 h5; obtain ⟨ao', cp', rfl⟩ := (Rd.own h5.own).form; have H5 := hide h5; clear h5)
            | (go_at_call 7; refine (unhide cu _).mono ?_; rintro e w4 ⟨rfl, hb4⟩; have d3 := (hb4.cell (p := ⟨b, off + k, none⟩) hbw3).trans d2; have H4 := hide ((unhide H3).call hb4); clear hb4)
            | (go_at_call 9; refine (unhide cq _).mono ?_; rintro e w3 ⟨rfl, hb3⟩; have d2 := (hb3.cell (p := ⟨b, off + k, none⟩) hbw).trans d1; have hbw3 := Nat.lt_of_lt_of_le hbw hb3.size; have H3 := hide ((unhide HO).call hb3); clear hb3))
          go_roundw
          case rel => exact ⟨k + 1, xx, by go_num, by omega, rfl, HXD.out, by omega, by rw [HT2.out, List.length_append, List.map_append, strV_app]; show Own w1 w5 _ _ _ _ _ (_ ++ [.string (quoS y)]); rw [HQ.out]; exact unhide H5⟩
          case measure => simp [intOf]; omega
      · have hkb : decide ((k : Int) < (A.length : Int)) = false := by rw [decide_eq_false_iff_not]; omega
        have htk : A.take k = A := List.take_of_length_le hge
        rw [htk] at HO HX hok ⊢
        have hsp := split_quo (okB A) x HX.out
        have hbel := hide ((unhide HB1).trans (ho.bel.mono (unhide HB1).size))
        have cs := hide (fun w => split_any x (by omega) w)
        rw [hsp] at cs
        have cwt := hide (fun w ht => weightText_any q w ht)
        have cw := hide (fun w hM hE => weight_any (ofL (wtS q)) (by have := wtS_len q; rw [size_list (l := wtS q) rfl]; omega) w hM hE)
        obtain ⟨L, hL⟩ : ∃ L, (okB A).map quoS = L := ⟨_, rfl⟩
        have hLn : (okB A).length = L.length := by rw [← hL, List.length_map]
        rw [hL] at cs HO
        rw [hLn] at HO hok ⊢
        clear ho htk hsp hL hLn HX
        have HN := hide hok
        clear hok
        go_wp2_with (first
          | (go_at_call 11; refine (ksameS_any _ _ L L (by have := unhide HN; omega) (by have := unhide HN; omega) _ (Rd.own (unhide HS3)) (Rd.own (unhide H3).own)).mono ?_; rw [show sameLS L L = true by unfold sameLS; exact decide_eq_true rfl]; rintro e w4 ⟨rfl, hb4⟩; have HB4 := hide ((unhide HB3).trans (hb4.mono (unhide HB3).size)); clear hb4)
          | (go_at_call 12; refine (unhide cs _).mono ?_; rintro e w3 ⟨v3, rfl, ho3, hb3⟩; obtain ⟨ao3, cp3, rfl⟩ := (Rd.own ho3).form; have HS3 := hide ho3; have H3 := hide ((unhide HO).call hb3); have HB3 := hide ((unhide hbel).trans (hb3.mono (unhide hbel).size)); clear ho3 hb3))
        refine (unhide cwt _ ((unhide HT).below (unhide HB4))).mono ?_; rintro e w5 ⟨rfl, hb5⟩
        have HB5 := hide ((unhide HB4).trans (hb5.mono (unhide HB4).size))
        clear hb5
        go_wp2_with fail
        refine (unhide cw _ ((unhide HM).below (unhide HB5)) ((unhide HE).below (unhide HB5))).mono ?_; rintro e w6 ⟨rfl, hb6⟩
        have HB6 := hide ((unhide HB5).trans (hb6.mono (unhide HB5).size))
        clear hb6 cwt cw cs
        rw [show (ofL (wtS q)).data.toList = wtS q from rfl]
        cases hin : inF q
        · rw [wtS_out hin, wR_empty, show ofL [] = (⟨#[]⟩ : ByteArray) from rfl]
          unfold inF geF leF at hin
          rcases order_cases q 0 with h1 | h1 | h1 | h1 <;> rcases order_cases q 4607182418800017408 with h2 | h2 | h2 | h2 <;> rw [h1, h2] at hin <;> first | (exfalso; revert hin; decide) | skip
          all_goals
            clear hin
            go_wp2_with fail
            go_ret
            exact ⟨rfl, unhide HB6⟩
        · have hle := back_le hin
          have hkl := kOf_le q
          rw [wtS_in hin, text_wR _ hkl]
          have hnear : kOf q = 1000 ∨ (∀ w, (binOp .add 30 (.float .f64 (fB (kOf q))) (.float .f64 4562254970085971183)).run Tryz.prog w = .ok (.float .f64 (fA (kOf q))) w) ∧ FloatKind.f64.format.order (fA (kOf q)) q = some .gt := by
            by_cases hk1 : kOf q = 1000
            · exact .inl hk1
            · have hk2 : kOf q < 1000 := by omega
              exact .inr ⟨fun w => run_float_arith w .add 30 .f64 _ _ _ (fA_add _ hk2).1, back_near hin hk2⟩
          have hone : kOf q = 1000 → FloatKind.f64.format.order (fB (kOf q)) 4607182418800017408 = some .eq := fun h => by rw [h]; decide +kernel
          generalize kOf q = n at *
          unfold leF at hle
          unfold inF geF leF at hin
          rcases order_cases q 0 with h1 | h1 | h1 | h1 <;> rcases order_cases q 4607182418800017408 with h2 | h2 | h2 | h2 <;> rw [h1, h2] at hin <;> first | (exfalso; revert hin; decide) | skip
          all_goals rcases order_cases (fB n) q with h3 | h3 | h3 | h3 <;> rw [h3] at hle <;> first | (exfalso; revert hle; decide) | skip
          all_goals
            clear hin hle
            rcases hnear with hn | ⟨hadd, hn⟩
            · have h4 := hone hn
              clear hone hn
              go_wp2_with fail
              go_ret
              exact ⟨rfl, unhide HB6⟩
            · clear hone
              rcases order_cases (fB n) 4607182418800017408 with h4 | h4 | h4 | h4
              all_goals
                go_wp2_with fail
                go_ret
                exact ⟨rfl, unhide HB6⟩
end Go.Proofs.YtbhpcmbbbomknaaGreatDoor.Sp
