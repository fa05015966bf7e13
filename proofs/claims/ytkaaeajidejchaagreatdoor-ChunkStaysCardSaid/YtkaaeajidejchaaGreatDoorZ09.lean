/- Lemmas for the statement's proof, several texts in one: P20, T6, Hx, L1, Tx, Frame. -/
import Derived.Test.YtkaaeajidejchaaGreatDoorZ08
import Derived.Test.YtkaaeajidejchaaGreatDoorZ01
import Derived.Lib.AppendIntMem
import Derived.Lib.LaidTab
import Derived.Test.YtkaaeajidejchaaGreatDoorZ03
import Derived.LaidSub
import Derived.LaidLaws
import Derived.Lib.TrailingZeros
import Derived.Test.YtkaaeajidejchaaGreatDoorZ02
import Derived.ProofKit
import Derived.OpenShut
import Derived.Deep.SlicePairs
import Derived.SizedLaws
import Derived.Lib.SmallJoins
import Derived.Deep.Slices
import Derived.Test.YtkaaeajidejchaaGreatDoorRows
import Derived.WalkKit
import Derived.Below
import Derived.Carry
/- The walk of the law ChunkStays. -/
namespace Go.Proofs.YtkaaeajidejchaaGreatDoor.Sp
open Go.RowKit Sl

theorem lensB_le (A : List ByteArray) (i : Nat) : lensB (A.take i) ≤ lensB A := by
  have : A = A.take i ++ A.drop i := (List.take_append_drop i A).symm
  unfold lensB
  conv => rhs; rw [this, List.map_append, List.sum_append]
  omega
theorem stat_cases {n : Nat} (h : statB n = true) : n = 0 ∨ n = 400 ∨ n = 413 ∨ n = 431 := by
  unfold statB at h
  simp only [Bool.or_eq_true, beq_iff_eq] at h
  omega

set_option maxRecDepth 100000 in
set_option maxHeartbeats 8000000 in
theorem cstays_any (L H C B : Int) (hB1 : B ≤ 9223372036854775807) (v : Value) (A : List ByteArray) (hA : A.length ≤ 9223372036854775807) (hS : ∀ x ∈ A, x.size ≤ 1000000000000000) (w : World) (hv : Rd w v A.length 1 (strV A)) (hM : MaxV w) :
    Calls Tryz.prog 3 #[.agg #[.int .i64 L, .int .i64 H, .int .i64 C, .int .i64 B], v] w fun e w' => e = .returned (.bool true) ∧ Below w.heap.size w w' := by
  obtain ⟨ao, cap, rfl⟩ := hv.form
  have HL0 := hide (Reg.Has.new w [.int .i64 L, .int .i64 H, .int .i64 C, .int .i64 B] 23)
  have hb0 : Below w.heap.size w (w.alloc (.cells #[.int .i64 L, .int .i64 H, .int .i64 C, .int .i64 B] 23)) := (Below.refl _ _).alloc (Nat.le_refl _) _
  have HV := hide (hv.below hb0)
  have HM := hide (hM.below hb0)
  have HB0 := hide hb0
  have hlt0 : w.heap.size < (w.alloc (.cells #[.int .i64 L, .int .i64 H, .int .i64 C, .int .i64 B] 23)).heap.size := by simp
  have c0 := hide (lives5_any _ (unhide HM))
  clear hv hM hb0
  go_enter Tryz.func3, Tryz.ntmps3
  go_wp2_with fail
  generalize w.alloc (.cells #[.int .i64 L, .int .i64 H, .int .i64 C, .int .i64 B] 23) = wb at *
  generalize hbl : w.heap.size = bl at *
  refine (unhide c0).mono ?_; rintro e w1 ⟨rfl, hb1⟩
  have HB1 := hide hb1
  clear hb1 c0
  go_wp2_with fail
  refine (lightT_any _ A 20 200 hA (by omega) (by omega) hS w1 ((unhide HV).below (unhide HB1))).mono ?_; rintro e w1' ⟨r, rfl, hr, rfl⟩
  cases r
  · go_wp2_with fail
    go_ret
    exact ⟨rfl, by rw [hbl]; exact (unhide HB0).trans ((unhide HB1).mono (by omega))⟩
  obtain ⟨-, hsum⟩ := hr rfl
  have HSUM := hide hsum
  clear hr hsum hS
  have HL1 := hide ((unhide HL0).call (unhide HB1))
  have l0 := (unhide HL1).cell 0 _ rfl
  have l1 := (unhide HL1).cell 1 _ rfl
  have l2 := (unhide HL1).cell 2 _ rfl
  have l3 := (unhide HL1).cell 3 _ rfl
  go_wp2_with fail
  refine (new_any _ _ _ _ _).mono ?_; rintro e w2 ⟨rfl, h2, hb2⟩
  have HB2 := hide ((unhide HB1).trans (hb2.mono (unhide HB1).size))
  have hbase : wb.heap.size ≤ w1.heap.size := (unhide HB1).size
  have hMl : 5 < w1.heap.size := Nat.lt_of_lt_of_le (unhide HM).lt (unhide HB1).size
  have H2 := hide h2
  have hsz2 : w1.heap.size ≤ w2.heap.size := hb2.size
  clear l0 l1 l2 l3 HL1 h2 hb2
  generalize w1.heap.size = base at *
  go_wp2_with fail
  go_loopw [6, 7] (fun bd i wr => ∃ (j : Nat) (di : Dec) (ln bdv tr : Value), i = .int .i64 j ∧ bd = .int .i64 di.bad ∧ j ≤ A.length ∧ DecAt wr base (base + 1) (nextV (base + 1) di.st) di ln bdv tr ∧ Okd (lensB (A.take j)) di ∧ Below wb.heap.size wb wr ∧ base ≤ wr.heap.size ∧ di.B = B.toNat) (fun _ i _ => A.length - (intOf i).toNat)
  case atStart => exact ⟨0, newD L H C B, _, _, _, rfl, rfl, Nat.zero_le _, unhide H2, newD_ok _ _ _ _, unhide HB2, hsz2, rfl⟩
  case round =>
    clear H2 HB2 hsz2
    obtain ⟨j, di, ln, bdv, tr, rfl, rfl, hj, hD, hok, hbel, hbw, hBB⟩ := hrel
    rcases Nat.lt_or_ge j A.length with hlt | hge
    · obtain ⟨ab, aoff, rfl, hab, hac0⟩ := str_cell (unhide HV) j hlt
      have hac : wr.cell? ⟨ab, aoff + j, none⟩ = some (.string A[j]) := (hbel.cell (p := ⟨ab, aoff + j, none⟩) hab).trans hac0
      have hjj : lensB (A.take (j + 1)) = lensB (A.take j) + A[j].size := lensB_take A j hlt
      have hs200 : lensB (A.take (j + 1)) ≤ 200 := Nat.le_trans (lensB_le A (j + 1)) (unhide HSUM)
      obtain ⟨⟨d2, n⟩, hf⟩ : ∃ r, feedS sizeF flF di A[j].data.toList = r := ⟨_, rfl⟩
      have hn : n ≤ A[j].size := by
        have := feedS_le sizeF flF A[j].data.toList di
        rw [hf] at this
        simpa using this
      have hok2 := feedS_ok (fl := flF) sizeF_stat A[j].data.toList _ di hok
      rw [hf] at hok2
      have hlim := (feedS_lim (sz := sizeF) (fl := flF) A[j].data.toList di).1
      rw [hf] at hlim
      simp only at hok2 hlim
      have hlen : A[j].data.toList.length = A[j].size := by simp
      rw [hlen, ← hjj] at hok2
      have hstop : stopS di = true → d2 = di ∧ n = 0 := fun hs => by
        rw [feedS_stop sizeF flF hs] at hf
        injection hf with h1 h2
        exact ⟨h1.symm, h2.symm⟩
      have hgo : stopS d2 = false → n = A[j].size := fun hs => by
        have := feedS_go sizeF flF A[j].data.toList di (by rw [hf]; exact hs)
        rw [hf] at this
        simpa using this
      have FE := hide (feedN_any wr (base + 1) di ln bdv tr A[j] _ base hD hok (by omega) hbw (by rw [hBB]; omega) ((unhide HM).below hbel) hMl d2 n hf)
      have DN := hide (done_any wr base (base + 1) _ di ln bdv tr hD)
      have HD := hide hD
      have HBE := hide hbel
      have ha8 : A[j].size ≤ 200 := by omega
      clear hD hok hbel hf
      go_upto_region 11 with (go_at_call 12; refine (unhide DN).mono ?_; rintro e w3 ⟨rfl, rfl⟩)
      go_upto_region 12 with (go_at_call 13; refine (unhide FE).mono ?_; rintro e w4 ⟨rfl, ln4, bd4, tr4, h4, m4⟩)
      have HD4 := hide h4
      have HB4 := hide ((unhide HBE).trans (m4.below (unhide HD) hbase (Nat.le_trans hbase hbw)))
      have hb4w : base ≤ w4.heap.size := by have := m4.but.size; omega
      have a4 : w4.cell? ⟨ab, aoff + j, none⟩ = some (.string A[j]) := ((unhide HB4).cell (p := ⟨ab, aoff + j, none⟩) hab).trans hac0
      have l3 : w4.cell? ⟨bl, 3, none⟩ = some (.int .i64 B) := ((unhide HL0).below (unhide HB4) hlt0).cell 3 _ rfl
      have habw : ab < w4.heap.size := by have := (unhide HB4).size; omega
      have hblw : bl < w4.heap.size := by have := (unhide HB4).size; omega
      have HAC := hide hac0
      obtain ⟨x, hx⟩ : ∃ x, ofL d2.body = x := ⟨_, rfl⟩
      have hxs : x.size ≤ B.toNat := by
        have h1 : x.size = d2.body.length := by rw [← hx]; show d2.body.toArray.size = _; simp
        have h2 := hok2.bo
        rw [hlim, hBB] at h2
        omega
      have HX := Lib.hid hx
      have mB := max_nat B
      obtain ⟨bN, hbN⟩ : ∃ bN, B.toNat = bN := ⟨_, rfl⟩
      rw [hbN] at mB hxs
      have t9 : ¬ (bN : Int) < x.size := by omega
      have t9b : decide ((bN : Int) < x.size) = false := decide_eq_false t9
      have t1 : ¬ (n : Int) < 0 := by omega
      have t2 : ¬ (A[j].size : Int) < n := by omega
      have t2b : decide ((A[j].size : Int) < n) = false := decide_eq_false t2
      have t1b : decide ((n : Int) < 0) = false := decide_eq_false t1
      have HOK2 := hide hok2
      have HLIM := Lib.hid hlim
      have HBQ := Lib.hid hBB
      clear h4 m4 hok2 hlim hBB hx hxs hbN hac hac0 hjj hs200 hlen FE DN
      by_cases hbad : di.bad = 0
      · cases hdn : di.done
        · have hns : stopS di = false := by unfold stopS; rw [hbad, hdn]; rfl
          have e1 : ((di.bad : Int) == 0) = true := by rw [hbad]; rfl
          have e2 : ((di.bad : Int) != 0) = false := by rw [hbad]; rfl
          clear hstop hns
          have HBAD := Lib.hid hbad
          clear hbad
          by_cases hb2 : d2.bad = 0
          · have f1 : ((d2.bad : Int) == 0) = true := by rw [hb2]; rfl
            obtain ⟨dn2, hdn2⟩ : ∃ dn2, d2.done = dn2 := ⟨_, rfl⟩
            have DQ := Lib.hid hdn2
            cases dn2
            · obtain rfl := hgo (by unfold stopS; rw [hb2, hdn2]; rfl)
              clear hgo hb2 hdn2
              refine Reg.region_more (by kernel_rfl) (by kernel_rfl) ?_
              repeat (go_big_quiet_step ((first | (go_at_call 14; exact Reg.Calls.more_same ((body_any _ base (base + 1) _ d2 ln4 bd4 tr4 ((unhide HD4).call (Reg.More.hb _))).mono (fun _ _ hh => ⟨hh.1.trans (by rw [HX.out]), hh.2⟩))) | (go_at_call 12; exact Reg.Calls.more_same ((done_any _ base (base + 1) _ d2 ln4 bd4 tr4 ((unhide HD4).call (Reg.More.hb _))).mono (fun _ _ hh => ⟨hh.1.trans (by rw [DQ.out]), hh.2⟩))))))
              refine wpQuiet_nil ?_
              intro w5 hb5; obtain ⟨hc5, hf5, hz5⟩ := bcell hb5; (try simp at hz5)
              have HD5 := hide ((unhide HD4).call hb5)
              have HB5 := hide ((unhide HB4).trans (hb5.mono (unhide HB4).size))
              have a5 : w5.cell? ⟨ab, aoff + j, none⟩ = some (.string A[j]) := ((unhide HB5).cell (p := ⟨ab, aoff + j, none⟩) hab).trans (unhide HAC)
              have hb5w : base ≤ w5.heap.size := by omega
              have DN5 := hide (done_any w5 base (base + 1) _ d2 ln4 bd4 tr4 (unhide HD5))
              rw [DQ.out] at DN5
              clear hb5 hc5 hf5 hz5 a4 l3
              go_wp2_with (go_at_call 12; refine (unhide DN5).mono ?_; rintro e w6 ⟨rfl, rfl⟩)
              go_roundw
              case rel => exact ⟨j + 1, d2, ln4, bd4, tr4, by go_num, rfl, by omega, unhide HD5, unhide HOK2, unhide HB5, hb5w, by first | exact HBQ.out | rw [HLIM.out, HBQ.out]⟩
              case measure => simp [intOf]; omega
            · clear hgo hb2 hdn2
              refine Reg.region_more (by kernel_rfl) (by kernel_rfl) ?_
              repeat (go_big_quiet_step ((first | (go_at_call 14; exact Reg.Calls.more_same ((body_any _ base (base + 1) _ d2 ln4 bd4 tr4 ((unhide HD4).call (Reg.More.hb _))).mono (fun _ _ hh => ⟨hh.1.trans (by rw [HX.out]), hh.2⟩))) | (go_at_call 12; exact Reg.Calls.more_same ((done_any _ base (base + 1) _ d2 ln4 bd4 tr4 ((unhide HD4).call (Reg.More.hb _))).mono (fun _ _ hh => ⟨hh.1.trans (by rw [DQ.out]), hh.2⟩))))))
              refine wpQuiet_nil ?_
              intro w5 hb5; obtain ⟨hc5, hf5, hz5⟩ := bcell hb5; (try simp at hz5)
              have HD5 := hide ((unhide HD4).call hb5)
              have HB5 := hide ((unhide HB4).trans (hb5.mono (unhide HB4).size))
              have a5 : w5.cell? ⟨ab, aoff + j, none⟩ = some (.string A[j]) := ((unhide HB5).cell (p := ⟨ab, aoff + j, none⟩) hab).trans (unhide HAC)
              have hb5w : base ≤ w5.heap.size := by omega
              have DN5 := hide (done_any w5 base (base + 1) _ d2 ln4 bd4 tr4 (unhide HD5))
              rw [DQ.out] at DN5
              clear hb5 hc5 hf5 hz5 a4 l3
              go_wp2_with (go_at_call 12; refine (unhide DN5).mono ?_; rintro e w6 ⟨rfl, rfl⟩)
              go_roundw
              case rel => exact ⟨j + 1, d2, ln4, bd4, tr4, by go_num, rfl, by omega, unhide HD5, unhide HOK2, unhide HB5, hb5w, by first | exact HBQ.out | rw [HLIM.out, HBQ.out]⟩
              case measure => simp [intOf]; omega
          · have f1 : ((d2.bad : Int) == 0) = false := by rw [beq_eq_false_iff_ne]; omega
            obtain ⟨dn2, hdn2⟩ : ∃ dn2, d2.done = dn2 := ⟨_, rfl⟩
            have DQ := Lib.hid hdn2
            clear hgo hb2 hdn2
            cases dn2
            ·
              refine Reg.region_more (by kernel_rfl) (by kernel_rfl) ?_
              repeat (go_big_quiet_step ((first | (go_at_call 14; exact Reg.Calls.more_same ((body_any _ base (base + 1) _ d2 ln4 bd4 tr4 ((unhide HD4).call (Reg.More.hb _))).mono (fun _ _ hh => ⟨hh.1.trans (by rw [HX.out]), hh.2⟩))) | (go_at_call 12; exact Reg.Calls.more_same ((done_any _ base (base + 1) _ d2 ln4 bd4 tr4 ((unhide HD4).call (Reg.More.hb _))).mono (fun _ _ hh => ⟨hh.1.trans (by rw [DQ.out]), hh.2⟩))))))
              refine wpQuiet_nil ?_
              intro w5 hb5; obtain ⟨hc5, hf5, hz5⟩ := bcell hb5; (try simp at hz5)
              have HD5 := hide ((unhide HD4).call hb5)
              have HB5 := hide ((unhide HB4).trans (hb5.mono (unhide HB4).size))
              have a5 : w5.cell? ⟨ab, aoff + j, none⟩ = some (.string A[j]) := ((unhide HB5).cell (p := ⟨ab, aoff + j, none⟩) hab).trans (unhide HAC)
              have hb5w : base ≤ w5.heap.size := by omega
              have DN5 := hide (done_any w5 base (base + 1) _ d2 ln4 bd4 tr4 (unhide HD5))
              rw [DQ.out] at DN5
              clear hb5 hc5 hf5 hz5 a4 l3
              go_wp2_with (go_at_call 12; refine (unhide DN5).mono ?_; rintro e w6 ⟨rfl, rfl⟩)
              go_roundw
              case rel => exact ⟨j + 1, d2, ln4, bd4, tr4, by go_num, rfl, by omega, unhide HD5, unhide HOK2, unhide HB5, hb5w, by first | exact HBQ.out | rw [HLIM.out, HBQ.out]⟩
              case measure => simp [intOf]; omega
            ·
              refine Reg.region_more (by kernel_rfl) (by kernel_rfl) ?_
              repeat (go_big_quiet_step ((first | (go_at_call 14; exact Reg.Calls.more_same ((body_any _ base (base + 1) _ d2 ln4 bd4 tr4 ((unhide HD4).call (Reg.More.hb _))).mono (fun _ _ hh => ⟨hh.1.trans (by rw [HX.out]), hh.2⟩))) | (go_at_call 12; exact Reg.Calls.more_same ((done_any _ base (base + 1) _ d2 ln4 bd4 tr4 ((unhide HD4).call (Reg.More.hb _))).mono (fun _ _ hh => ⟨hh.1.trans (by rw [DQ.out]), hh.2⟩))))))
              refine wpQuiet_nil ?_
              intro w5 hb5; obtain ⟨hc5, hf5, hz5⟩ := bcell hb5; (try simp at hz5)
              have HD5 := hide ((unhide HD4).call hb5)
              have HB5 := hide ((unhide HB4).trans (hb5.mono (unhide HB4).size))
              have a5 : w5.cell? ⟨ab, aoff + j, none⟩ = some (.string A[j]) := ((unhide HB5).cell (p := ⟨ab, aoff + j, none⟩) hab).trans (unhide HAC)
              have hb5w : base ≤ w5.heap.size := by omega
              have DN5 := hide (done_any w5 base (base + 1) _ d2 ln4 bd4 tr4 (unhide HD5))
              rw [DQ.out] at DN5
              clear hb5 hc5 hf5 hz5 a4 l3
              go_wp2_with (go_at_call 12; refine (unhide DN5).mono ?_; rintro e w6 ⟨rfl, rfl⟩)
              go_roundw
              case rel => exact ⟨j + 1, d2, ln4, bd4, tr4, by go_num, rfl, by omega, unhide HD5, unhide HOK2, unhide HB5, hb5w, by first | exact HBQ.out | rw [HLIM.out, HBQ.out]⟩
              case measure => simp [intOf]; omega
        · obtain ⟨rfl, hn0⟩ := hstop (by unfold stopS; rw [hdn]; simp)
          have k1 : ((n : Int) != 0) = false := by rw [hn0]; rfl
          have k2 : ((n : Int) == 0) = true := by rw [hn0]; rfl
          clear hn0
          have e1 : ((d2.bad : Int) == 0) = true := by rw [hbad]; rfl
          have e2 : ((d2.bad : Int) != 0) = false := by rw [hbad]; rfl
          have DQ := Lib.hid hdn
          clear hstop hgo hbad
          refine Reg.region_more (by kernel_rfl) (by kernel_rfl) ?_
          repeat (go_big_quiet_step ((first | (go_at_call 14; exact Reg.Calls.more_same ((body_any _ base (base + 1) _ d2 ln4 bd4 tr4 ((unhide HD4).call (Reg.More.hb _))).mono (fun _ _ hh => ⟨hh.1.trans (by rw [HX.out]), hh.2⟩))) | (go_at_call 12; exact Reg.Calls.more_same ((done_any _ base (base + 1) _ d2 ln4 bd4 tr4 ((unhide HD4).call (Reg.More.hb _))).mono (fun _ _ hh => ⟨hh.1.trans (by rw [DQ.out]), hh.2⟩))))))
          refine wpQuiet_nil ?_
          intro w5 hb5; obtain ⟨hc5, hf5, hz5⟩ := bcell hb5; (try simp at hz5)
          have HD5 := hide ((unhide HD4).call hb5)
          have HB5 := hide ((unhide HB4).trans (hb5.mono (unhide HB4).size))
          have a5 : w5.cell? ⟨ab, aoff + j, none⟩ = some (.string A[j]) := ((unhide HB5).cell (p := ⟨ab, aoff + j, none⟩) hab).trans (unhide HAC)
          have hb5w : base ≤ w5.heap.size := by omega
          have DN5 := hide (done_any w5 base (base + 1) _ d2 ln4 bd4 tr4 (unhide HD5))
          rw [DQ.out] at DN5
          clear hb5 hc5 hf5 hz5 a4 l3
          go_wp2_with (go_at_call 12; refine (unhide DN5).mono ?_; rintro e w6 ⟨rfl, rfl⟩)
          go_roundw
          case rel => exact ⟨j + 1, d2, ln4, bd4, tr4, by go_num, rfl, by omega, unhide HD5, unhide HOK2, unhide HB5, hb5w, by first | exact HBQ.out | rw [HLIM.out, HBQ.out]⟩
          case measure => simp [intOf]; omega
      · obtain ⟨rfl, hn0⟩ := hstop (by unfold stopS; simp [hbad])
        have k1 : ((n : Int) != 0) = false := by rw [hn0]; rfl
        have k2 : ((n : Int) == 0) = true := by rw [hn0]; rfl
        clear hn0
        have e1 : ((d2.bad : Int) == 0) = false := by rw [beq_eq_false_iff_ne]; omega
        have e2 : ((d2.bad : Int) != 0) = true := by rw [bne, e1]; rfl
        have e3 : ((d2.bad : Int) != (d2.bad : Int)) = false := bne_self_eq_false _
        clear hstop hgo hbad
        cases hdn2 : d2.done
        ·
          have DQ := Lib.hid hdn2
          refine Reg.region_more (by kernel_rfl) (by kernel_rfl) ?_
          repeat (go_big_quiet_step ((first | (go_at_call 14; exact Reg.Calls.more_same ((body_any _ base (base + 1) _ d2 ln4 bd4 tr4 ((unhide HD4).call (Reg.More.hb _))).mono (fun _ _ hh => ⟨hh.1.trans (by rw [HX.out]), hh.2⟩))) | (go_at_call 12; exact Reg.Calls.more_same ((done_any _ base (base + 1) _ d2 ln4 bd4 tr4 ((unhide HD4).call (Reg.More.hb _))).mono (fun _ _ hh => ⟨hh.1.trans (by rw [DQ.out]), hh.2⟩))))))
          refine wpQuiet_nil ?_
          intro w5 hb5; obtain ⟨hc5, hf5, hz5⟩ := bcell hb5; (try simp at hz5)
          have HD5 := hide ((unhide HD4).call hb5)
          have HB5 := hide ((unhide HB4).trans (hb5.mono (unhide HB4).size))
          have a5 : w5.cell? ⟨ab, aoff + j, none⟩ = some (.string A[j]) := ((unhide HB5).cell (p := ⟨ab, aoff + j, none⟩) hab).trans (unhide HAC)
          have hb5w : base ≤ w5.heap.size := by omega
          have DN5 := hide (done_any w5 base (base + 1) _ d2 ln4 bd4 tr4 (unhide HD5))
          rw [DQ.out] at DN5
          clear hb5 hc5 hf5 hz5 a4 l3
          go_wp2_with (go_at_call 12; refine (unhide DN5).mono ?_; rintro e w6 ⟨rfl, rfl⟩)
          go_roundw
          case rel => exact ⟨j + 1, d2, ln4, bd4, tr4, by go_num, rfl, by omega, unhide HD5, unhide HOK2, unhide HB5, hb5w, by first | exact HBQ.out | rw [HLIM.out, HBQ.out]⟩
          case measure => simp [intOf]; omega
        ·
          have DQ := Lib.hid hdn2
          refine Reg.region_more (by kernel_rfl) (by kernel_rfl) ?_
          repeat (go_big_quiet_step ((first | (go_at_call 14; exact Reg.Calls.more_same ((body_any _ base (base + 1) _ d2 ln4 bd4 tr4 ((unhide HD4).call (Reg.More.hb _))).mono (fun _ _ hh => ⟨hh.1.trans (by rw [HX.out]), hh.2⟩))) | (go_at_call 12; exact Reg.Calls.more_same ((done_any _ base (base + 1) _ d2 ln4 bd4 tr4 ((unhide HD4).call (Reg.More.hb _))).mono (fun _ _ hh => ⟨hh.1.trans (by rw [DQ.out]), hh.2⟩))))))
          refine wpQuiet_nil ?_
          intro w5 hb5; obtain ⟨hc5, hf5, hz5⟩ := bcell hb5; (try simp at hz5)
          have HD5 := hide ((unhide HD4).call hb5)
          have HB5 := hide ((unhide HB4).trans (hb5.mono (unhide HB4).size))
          have a5 : w5.cell? ⟨ab, aoff + j, none⟩ = some (.string A[j]) := ((unhide HB5).cell (p := ⟨ab, aoff + j, none⟩) hab).trans (unhide HAC)
          have hb5w : base ≤ w5.heap.size := by omega
          have DN5 := hide (done_any w5 base (base + 1) _ d2 ln4 bd4 tr4 (unhide HD5))
          rw [DQ.out] at DN5
          clear hb5 hc5 hf5 hz5 a4 l3
          go_wp2_with (go_at_call 12; refine (unhide DN5).mono ?_; rintro e w6 ⟨rfl, rfl⟩)
          go_roundw
          case rel => exact ⟨j + 1, d2, ln4, bd4, tr4, by go_num, rfl, by omega, unhide HD5, unhide HOK2, unhide HB5, hb5w, by first | exact HBQ.out | rw [HLIM.out, HBQ.out]⟩
          case measure => simp [intOf]; omega
    · have hke : j = A.length := by omega
      have hji : ¬ (j : Int) < A.length := by omega
      have hst := stat_cases hok.ba
      have HF := hide ((unhide HB0).trans (hbel.mono (by omega)))
      clear hD hok hbel hbw hBB hke
      obtain ⟨f, hfq⟩ : ∃ f, di.bad = f := ⟨_, rfl⟩
      rw [hfq] at hst
      rw [hfq]
      rcases hst with rfl | rfl | rfl | rfl
      all_goals
        go_wp2_with fail
        go_ret
        exact ⟨rfl, unhide HF⟩
end Go.Proofs.YtkaaeajidejchaaGreatDoor.Sp

/- Plain: the digits of a number; strconv.Itoa of any number. -/
namespace Go.Proofs.YtkaaeajidejchaaGreatDoor.Sp
open Go.RowKit

def decB (u : Nat) : ByteArray := ⟨(Lib.decDigits u).toArray⟩
def itoaB (n : Int) : ByteArray := ⟨(Lib.itoa n).toArray⟩
def tenB : ByteArray := ⟨#[48, 49, 50, 51, 52, 53, 54, 55, 56, 57]⟩
theorem dec_small (u : Nat) (h : u < 10) : tenB.extract u (u + 1) = decB u := by
  have h1 : ∀ i, i < 10 → (tenB.extract i (i + 1)).data.toList = Lib.decDigits i := by decide +kernel
  exact ba_eq (h1 u h)
theorem dec_more (u : Nat) (h : 10 ≤ u) : decB u = decB (u / 10) ++ decB (u % 10) := by
  have e : Lib.decDigits u = Lib.decDigits (u / 10) ++ Lib.decDigits (u % 10) := by
    conv => lhs; rw [Lib.decDigits, dif_neg (by omega)]
    have e2 : Lib.decDigits (u % 10) = [UInt8.ofNat (48 + u % 10)] := by rw [Lib.decDigits, dif_pos (by omega)]
    rw [e2]
  have h2 : (decB (u / 10) ++ decB (u % 10)).data.toList = Lib.decDigits u := by rw [app_data, e]; rfl
  exact (ba_eq h2).symm
theorem decB_size (u : Nat) : (decB u).size ≤ u + 1 := by
  have h : ∀ n u, u ≤ n → (Lib.decDigits u).length ≤ u + 1 := by
    intro n
    induction n with
    | zero => intro u hu; obtain rfl : u = 0 := by omega
              decide +kernel
    | succ n ih =>
      intro u hu
      rw [Lib.decDigits]
      split
      · simp
      · have := ih (u / 10) (by omega)
        rw [List.length_append]; simp; omega
  have := h u u (Nat.le_refl _)
  rw [show (decB u).size = (Lib.decDigits u).length from size_list rfl]
  exact this
theorem decB_20 (u : Nat) (h : u < 10000000000000000000) : (decB u).size ≤ 19 := by
  have step : ∀ (k u : Nat), u < 10 ^ k → 0 < k → (Lib.decDigits u).length ≤ k := by
    intro k
    induction k with
    | zero => intro u h h0; omega
    | succ k ih =>
      intro u h _
      rw [Lib.decDigits]
      split
      · simp
      · rcases Nat.eq_zero_or_pos k with h0 | h0
        · subst h0; simp at h; omega
        · have := ih (u / 10) (by rw [Nat.pow_succ] at h; omega) h0
          rw [List.length_append]; simp; omega
  rw [show (decB u).size = (Lib.decDigits u).length from size_list rfl]
  exact step 19 u h (by omega)

theorem itoa_size (n : Int) (h0 : -9223372036854775808 ≤ n) (h1 : n ≤ 9223372036854775807) : (itoaB n).size ≤ 20 := by
  rw [show (itoaB n).size = (Lib.itoa n).length from size_list rfl]
  unfold Lib.itoa
  split
  · have := decB_20 n.natAbs (by omega)
    rw [show (decB n.natAbs).size = (Lib.decDigits n.natAbs).length from size_list rfl] at this
    simp; omega
  · have := decB_20 n.toNat (by omega)
    rw [show (decB n.toNat).size = (Lib.decDigits n.toNat).length from size_list rfl] at this
    omega
theorem itoa_neg (n : Int) (h : n < 0) : (⟨#[45]⟩ : ByteArray) ++ decB n.natAbs = itoaB n := by
  unfold itoaB Lib.itoa
  rw [if_pos h]
  have : ((⟨#[45]⟩ : ByteArray) ++ decB n.natAbs).data.toList = 45 :: Lib.decDigits n.natAbs := by rw [app_data]; rfl
  exact ba_eq this
theorem itoa_pos (n : Int) (h : 0 ≤ n) : decB n.toNat = itoaB n := by
  unfold itoaB Lib.itoa
  rw [if_neg (by omega)]; rfl

/-! ### the table of powers of ten -/
abbrev Pow10 (w : World) : Prop := Lib.TabIs Tryz.prog w "internal/strconv.uint64pow10" .u64 Lib.pow10Tab
theorem Pow10.below {w w' : World} (h : Pow10 w) (hb : Below w.heap.size w w') : Pow10 w' := by
  have hgn : Tryz.prog.globalNamed "internal/strconv.uint64pow10" = some 2 := by kernel_rfl
  unfold Pow10 Lib.TabIs World.var? at h ⊢
  rw [hgn] at h ⊢
  simp only [Option.bind_some] at h ⊢
  have hlt : 2 < w.heap.size := by
    rcases Nat.lt_or_ge 2 w.heap.size with h' | h'
    · exact h'
    · rw [Array.getElem?_eq_none h'] at h; cases h
  rw [hb.block 2 hlt]
  exact h
theorem itoa_any (n : Int) (h0 : -9223372036854775808 ≤ n) (h1 : n ≤ 9223372036854775807) (w : World) (ht : Pow10 w) : Calls Tryz.prog 86 #[.int .i64 n] w fun e w' => e = .returned (.string (itoaB n)) ∧ Below w.heap.size w w' := by
  refine (Tryz.strconv_Itoa n h0 h1 w ht).mono ?_
  rintro e w' ⟨rfl, k, os, rfl⟩
  exact ⟨rfl, Lib.below_grow _ w (Nat.le_refl _) k os⟩
end Go.Proofs.YtkaaeajidejchaaGreatDoor.Sp

/- Numbers by sixteen: strconv.FormatInt at base 16 (below 4096), the reference's digits. -/
namespace Go.Proofs.YtkaaeajidejchaaGreatDoor.Sp
open Go.RowKit

/-- a digit by sixteen -/
def hxC (d : Nat) : UInt8 := if d < 10 then UInt8.ofNat (48 + d) else UInt8.ofNat (87 + d)
/-- a number's digits by sixteen (numbers below 4096) -/
def hxL (n : Nat) : List UInt8 := if n < 16 then [hxC n] else if n < 256 then [hxC (n / 16), hxC (n % 16)] else [hxC (n / 256), hxC (n / 16 % 16), hxC (n % 16)]
theorem hxL_len (n : Nat) : (hxL n).length ≤ 3 := by
  unfold hxL
  split
  · simp
  · split <;> simp
def Bru (w : World) : Prop := w.cell? ⟨4, 15, none⟩ = some (.int .u8 4)
theorem lt_cell {w : World} {a : Addr} {v : Value} (h : w.cell? a = some v) : a.block < w.heap.size := by
  rcases Nat.lt_or_ge a.block w.heap.size with h' | h'
  · exact h'
  · unfold World.cell? at h
    rw [Array.getElem?_eq_none h'] at h; cases h
theorem Bru.below {w w' : World} (h : Bru w) (hb : Below w.heap.size w w') : Bru w' := (hb.cell (lt_cell h)).trans h

set_option maxRecDepth 100000 in
theorem pow2_16 (w : World) : Calls Tryz.prog 91 #[.int .i64 16] w fun e w' => e = .returned (.bool true) ∧ w = w' := by
  go_enter Tryz.func91, Tryz.ntmps91
  go_wp2_with fail
  go_ret
  exact ⟨rfl, rfl⟩
set_option maxRecDepth 100000 in
theorem tz_16 (w : World) (h : Bru w) : Calls Tryz.prog 92 #[.int .u64 16] w fun e w' => e = .returned (.int .i64 4) ∧ w = w' := by
  unfold Bru at h
  have e1 : bits BinOp.and IntKind.u64 16 (IntKind.u64.wrap (-16)) = 16 := by kernel_rfl
  have e2 : IntKind.u64.wrap 4573923408821661840 = 4573923408821661840 := by kernel_rfl
  go_enter Tryz.func92, Tryz.ntmps92
  go_wp2
  go_ret
  exact ⟨rfl, rfl⟩
theorem text1 (b off cap : Nat) (c : UInt8) (w : World) (h : w.cell? ⟨b, off, none⟩ = some (.int .u8 c.toNat)) : (convert 56 9 (.slice (some ⟨b, off, none⟩) 1 cap)).run Tryz.prog w = .ok (.string ⟨#[c]⟩) w := by
  refine Mem.run_text (l := [c]) 56 5 9 Tryz.underlying56 Tryz.underlying5 Tryz.underlying9 b off cap (fun i v hv => ?_)
  rcases i with _ | i
  · simp [Mem.bytesV] at hv; subst hv; exact h
  · simp [Mem.bytesV] at hv
theorem text2 (b off cap : Nat) (c d : UInt8) (w : World) (h : w.cell? ⟨b, off, none⟩ = some (.int .u8 c.toNat)) (h1 : w.cell? ⟨b, off + 1, none⟩ = some (.int .u8 d.toNat)) : (convert 56 9 (.slice (some ⟨b, off, none⟩) 2 cap)).run Tryz.prog w = .ok (.string ⟨#[c, d]⟩) w := by
  refine Mem.run_text (l := [c, d]) 56 5 9 Tryz.underlying56 Tryz.underlying5 Tryz.underlying9 b off cap (fun i v hv => ?_)
  rcases i with _ | _ | i
  · simp [Mem.bytesV] at hv; subst hv; exact h
  · simp [Mem.bytesV] at hv; subst hv; exact h1
  · simp [Mem.bytesV] at hv
theorem text3 (b off cap : Nat) (c d e : UInt8) (w : World) (h : w.cell? ⟨b, off, none⟩ = some (.int .u8 c.toNat)) (h1 : w.cell? ⟨b, off + 1, none⟩ = some (.int .u8 d.toNat)) (h2 : w.cell? ⟨b, off + 2, none⟩ = some (.int .u8 e.toNat)) : (convert 56 9 (.slice (some ⟨b, off, none⟩) 3 cap)).run Tryz.prog w = .ok (.string ⟨#[c, d, e]⟩) w := by
  refine Mem.run_text (l := [c, d, e]) 56 5 9 Tryz.underlying56 Tryz.underlying5 Tryz.underlying9 b off cap (fun i v hv => ?_)
  rcases i with _ | _ | _ | i
  · simp [Mem.bytesV] at hv; subst hv; exact h
  · simp [Mem.bytesV] at hv; subst hv; exact h1
  · simp [Mem.bytesV] at hv; subst hv; exact h2
  · simp [Mem.bytesV] at hv
def dig36 : ByteArray := ⟨#[48, 49, 50, 51, 52, 53, 54, 55, 56, 57, 97, 98, 99, 100, 101, 102, 103, 104, 105, 106, 107, 108, 109, 110, 111, 112, 113, 114, 115, 116, 117, 118, 119, 120, 121, 122]⟩
theorem dig36_at (k : Nat) (h : k < 16) (w : World) : (Instr.index 9 (.string dig36) (.int .u64 k)).run Tryz.prog w = .ok (.int .u8 (hxC k).toNat) w := by
  have h1 : (0 : Int) ≤ (k : Int) ∧ (k : Int) < 36 := by omega
  have h2 : ∀ k : Fin 16, (dig36.data[k.val]!).toNat = (hxC k.val).toNat := by decide
  have h3 := h2 ⟨k, h⟩
  have h4 : k < dig36.data.size := by show k < 36; omega
  simp only at h3
  have h5 : dig36[k]? = some (hxC k) := by
    have e : dig36.data[k]! = hxC k := UInt8.toNat_inj.1 h3
    rw [getElem!_pos dig36.data k h4] at e
    have h6 : k < dig36.size := h4
    rw [getElem?_pos dig36 k h6]
    exact congrArg some e
  have h7 : ((dig36.size : Nat) : Int) = 36 := rfl
  generalize dig36 = D at h5 h7 ⊢
  simp [Instr.index, run_underlying Tryz.underlying9, asIntOf, part, go_sem, h1, h5, h7]
theorem and15 (n : Nat) (h : n < 4096) : bits BinOp.and IntKind.u64 (n : Int) 15 = ((n % 16 : Nat) : Int) := by
  have := bits_and_u64_nat n 15 (by omega) (by omega)
  rw [show ((15 : Nat) : Int) = 15 from rfl] at this
  rw [this]
  congr 1
  exact Nat.and_two_pow_sub_one_eq_mod n 4

set_option maxRecDepth 100000 in
set_option maxHeartbeats 4000000 in
theorem fbits_any (n : Nat) (hn : n < 4096) (w : World) (hT : Bru w) :
    Calls Tryz.prog 75 #[.slice none 0 0, .int .u64 n, .int .i64 16, .bool false, .bool false] w fun e w' => e = .returned (.tuple #[.slice none 0 0, .string (⟨(hxL n).toArray⟩)]) ∧ Below w.heap.size w w' := by
  have HT := hide hT
  clear hT
  go_enter Tryz.func75, Tryz.ntmps75
  go_wp2_with (first
    | (go_at_call 91; refine (pow2_16 _).mono ?_; rintro e w2 ⟨rfl, rfl⟩)
    | (go_at_call 92; refine (tz_16 _ ((unhide HT).below ((Below.refl w.heap.size w).alloc (Nat.le_refl _) _))).mono ?_; rintro e w3 ⟨rfl, rfl⟩))
  have HH := hide (Reg.Has.new w (List.replicate 65 (Value.int IntKind.u8 0)) 131)
  go_loopw [1, 13] (fun u i wr => ∃ (k m : Nat) (xs : List Value), u = .int .u64 m ∧ i = .int .i64 ((65 - k : Nat) : Int) ∧ xs.length = 65 ∧ Reg.Has wr w.heap.size xs ∧ Below w.heap.size w wr ∧ ((k = 0 ∧ m = n) ∨ (k = 1 ∧ 16 ≤ n ∧ m = n / 16 ∧ xs[64]? = some (.int .u8 (hxC (n % 16)).toNat)) ∨ (k = 2 ∧ 256 ≤ n ∧ m = n / 256 ∧ xs[63]? = some (.int .u8 (hxC (n / 16 % 16)).toNat) ∧ xs[64]? = some (.int .u8 (hxC (n % 16)).toNat)))) (fun u i _ => (intOf i).toNat)
  case atStart => exact ⟨0, n, List.replicate 65 (Value.int IntKind.u8 0), rfl, rfl, by simp, unhide HH, (Below.refl w.heap.size w).alloc (Nat.le_refl _) _, .inl ⟨rfl, rfl⟩⟩
  case round =>
    obtain ⟨k, m, xs, rfl, rfl, hlen, hhas, hbel, hcase⟩ := hrel
    have hc := fun i (h : i < 65) => hhas.cell i xs[i] (by simp [hlen, h])
    have hf := fun i (h : i < 65) => hhas.free i (by omega)
    have HHa := hide hhas
    have HBe := hide hbel
    have hm4 : m < 4096 := by rcases hcase with ⟨-, e⟩ | ⟨-, -, e, -⟩ | ⟨-, -, e, -⟩ <;> omega
    have ha := and15 m hm4
    clear hhas hbel
    rcases Nat.lt_or_ge m 16 with hm | hm
    · have hx2 := fun w => dig36_at m hm w
      unfold dig36 at hx2
      clear ha
      obtain ⟨x, hx⟩ : ∃ x, hxC m = x := ⟨_, rfl⟩
      rw [hx] at hx2
      rcases hcase with ⟨rfl, e⟩ | ⟨rfl, hn1, e, g1⟩ | ⟨rfl, hn1, e, g1, g2⟩
      · have c64 := hc 64 (by omega)
        have f64 := hf 64 (by omega)
        have cv := fun w' => text1 w.heap.size 64 1 x w'
        have HE := Lib.hid (show hxL n = [x] by unfold hxL; rw [if_pos (by omega), ← hx, e])
        clear hf hc e hx
        go_wp2_with fail
        go_ret2
        exact ⟨by rw [HE.out]; rfl, (unhide HBe).setCell (Nat.le_refl _) _⟩
      · have c64 := (unhide HHa).cell 64 _ g1
        have c63 := hc 63 (by omega)
        have f63 := hf 63 (by omega)
        obtain ⟨y, hy⟩ : ∃ y, hxC (n % 16) = y := ⟨_, rfl⟩
        rw [hy] at c64
        have cv := fun w' => text2 w.heap.size 63 2 x y w'
        have HE := Lib.hid (show hxL n = [x, y] by unfold hxL; rw [if_neg (by omega), if_pos (by omega), ← hx, ← hy, e])
        clear hf hc g1 e hx hy
        go_wp2_with fail
        go_ret2
        exact ⟨by rw [HE.out]; rfl, (unhide HBe).setCell (Nat.le_refl _) _⟩
      · have c64 := (unhide HHa).cell 64 _ g2
        have c63 := (unhide HHa).cell 63 _ g1
        have c62 := hc 62 (by omega)
        have f62 := hf 62 (by omega)
        obtain ⟨y, hy⟩ : ∃ y, hxC (n / 16 % 16) = y := ⟨_, rfl⟩
        obtain ⟨z, hz⟩ : ∃ y, hxC (n % 16) = y := ⟨_, rfl⟩
        rw [hy] at c63
        rw [hz] at c64
        have cv := fun w' => text3 w.heap.size 62 3 x y z w'
        have HE := Lib.hid (show hxL n = [x, y, z] by unfold hxL; rw [if_neg (by omega), if_neg (by omega), ← hx, ← hy, ← hz, e])
        clear hf hc g1 g2 e hx hy hz
        go_wp2_with fail
        go_ret2
        exact ⟨by rw [HE.out]; rfl, (unhide HBe).setCell (Nat.le_refl _) _⟩
    · have hx1 := fun w => dig36_at (m % 16) (by omega) w
      unfold dig36 at hx1
      obtain ⟨x, hx⟩ : ∃ x, hxC (m % 16) = x := ⟨_, rfl⟩
      rw [hx] at hx1
      obtain ⟨q, hq⟩ : ∃ q, m % 16 = q := ⟨_, rfl⟩
      rw [hq] at hx1 ha hx
      have hq16 : q < 16 := by omega
      rcases hcase with ⟨rfl, e⟩ | ⟨rfl, hn1, e, g1⟩ | ⟨rfl, hn1, e, g1, g2⟩
      · have c64 := hc 64 (by omega)
        have f64 := hf 64 (by omega)
        have HE := Lib.hid (show m / 16 = n / 16 by rw [e])
        have HX := Lib.hid (show x = hxC (n % 16) by rw [← hx, ← hq, e])
        have hn16 : 16 ≤ n := by omega
        clear hf hc e hx hq
        go_wp2_with fail
        go_roundw
        case rel => exact ⟨1, m / 16, xs.set 64 (.int .u8 x.toNat), by go_num, by go_num, by simp [hlen], (unhide HHa).put 64 _, (unhide HBe).setCell (Nat.le_refl _) _, .inr (.inl ⟨rfl, hn16, HE.out, by rw [← HX.out]; simp [hlen]⟩)⟩
        case measure => simp [intOf]
      · have c63 := hc 63 (by omega)
        have f63 := hf 63 (by omega)
        have HE := Lib.hid (show m / 16 = n / 256 by omega)
        have HX := Lib.hid (show x = hxC (n / 16 % 16) by rw [← hx, ← hq, e])
        have hn256 : 256 ≤ n := by omega
        clear hf hc e hx hq
        go_wp2_with fail
        go_roundw
        case rel => exact ⟨2, m / 16, xs.set 63 (.int .u8 x.toNat), by go_num, by go_num, by simp [hlen], (unhide HHa).put 63 _, (unhide HBe).setCell (Nat.le_refl _) _, .inr (.inr ⟨rfl, hn256, HE.out, by rw [← HX.out]; simp [hlen], by rw [List.getElem?_set_ne (by omega)]; exact g1⟩)⟩
        case measure => simp [intOf]
      · omega
def hxB (n : Nat) : ByteArray := ⟨(hxL n).toArray⟩
theorem hxB_size (n : Nat) : (hxB n).size ≤ 3 := by
  have := hxL_len n
  show (hxL n).toArray.size ≤ 3
  simpa using this
theorem hxB_data (n : Nat) : (hxB n).data.toList = hxL n := rfl
set_option maxRecDepth 100000 in
set_option maxHeartbeats 2000000 in
theorem fmtI_any (n : Nat) (hn : n < 4096) (w : World) (hT : Bru w) :
    Calls Tryz.prog 53 #[.int .i64 n, .int .i64 16] w fun e w' => e = .returned (.string (hxB n)) ∧ Below w.heap.size w w' := by
  have c1 := hide (fbits_any n hn w hT)
  have hw : IntKind.u64.wrap (n : Int) = n := by
    rw [IntKind.wrap_u64]; omega
  clear hT
  go_enter Tryz.func53, Tryz.ntmps53
  go_wp2_with fail
  refine (unhide c1).mono ?_; rintro e w1 ⟨rfl, hb1⟩
  go_wp2_with fail
  go_ret
  exact ⟨rfl, hb1⟩
set_option maxRecDepth 100000 in
set_option maxHeartbeats 2000000 in
theorem fmt16_any (n : Nat) (hn : n < 4096) (w : World) (hT : Bru w) :
    Calls Tryz.prog 35 #[.int .i64 n, .int .i64 16] w fun e w' => e = .returned (.string (hxB n)) ∧ Below w.heap.size w w' := by
  have c1 := hide (fmtI_any n hn w hT)
  clear hT
  go_enter Tryz.func35, Tryz.ntmps35
  go_wp2_with fail
  refine (unhide c1).mono ?_; rintro e w1 ⟨rfl, hb1⟩
  go_wp2_with fail
  go_ret
  exact ⟨rfl, hb1⟩
def hex16 : ByteArray := ⟨#[48, 49, 50, 51, 52, 53, 54, 55, 56, 57, 97, 98, 99, 100, 101, 102]⟩
theorem hex16_at (k : Nat) (h : k < 16) : hex16.extract k (k + 1) = ⟨#[hxC k]⟩ := by
  have h1 : ∀ k : Fin 16, (hex16.extract k.val (k.val + 1)).data.toList = [hxC k.val] := by decide +kernel
  have := h1 ⟨k, h⟩
  exact ba_eq this
set_option maxRecDepth 100000 in
set_option maxHeartbeats 2000000 in
theorem rdigits_any (n : Nat) (hn : n < 4096) (w : World) :
    Calls Tryz.prog 38 #[.int .i64 n] w fun e w' => e = .returned (.string (hxB n)) ∧ w = w' := by
  go_enter Tryz.func38, Tryz.ntmps38
  go_wp2_with fail
  go_loop [0, 3] (fun u o => ∃ (k m : Nat) (x : ByteArray), u = .int .i64 m ∧ o = .string x ∧ x.size = k ∧ ((k = 0 ∧ m = n) ∨ (k = 1 ∧ 16 ≤ n ∧ m = n / 16 ∧ x.data.toList = [hxC (n % 16)]) ∨ (k = 2 ∧ 256 ≤ n ∧ m = n / 256 ∧ x.data.toList = [hxC (n / 16 % 16), hxC (n % 16)]))) (fun u _ => (intOf u).toNat)
  case atStart => exact ⟨0, n, ⟨#[]⟩, rfl, rfl, rfl, .inl ⟨rfl, rfl⟩⟩
  case round =>
    obtain ⟨k, m, x, rfl, rfl, hx, hcase⟩ := hrel
    have hx3 : x.size ≤ 3 := by rcases hcase with ⟨e, -⟩ | ⟨e, -⟩ | ⟨e, -⟩ <;> omega
    have HC := hide hcase
    clear hcase
    have HE := Lib.hid (hex16_at (m % 16) (by omega))
    obtain ⟨a, ha⟩ : ∃ a, m / 16 = a := ⟨_, rfl⟩
    obtain ⟨b, hb⟩ : ∃ b, m % 16 = b := ⟨_, rfl⟩
    have hd : Int.tdiv (m : Int) 16 = (a : Int) := by rw [Int.tdiv_eq_ediv_of_nonneg (by omega)]; omega
    have hr : Int.tmod (m : Int) 16 = (b : Int) := by rw [Int.tmod_eq_emod_of_nonneg (by omega)]; omega
    have hd2 : (m : Int) / 16 = (a : Int) := by omega
    have hr2 : (m : Int) % 16 = (b : Int) := by omega
    have hb16 : b < 16 := by omega
    rw [hb] at HE
    unfold hex16 at HE
    have HA := Lib.hid ha
    have HB := Lib.hid hb
    clear ha hb
    obtain ⟨c, hc⟩ : ∃ c, hxC b = c := ⟨_, rfl⟩
    rw [hc] at HE
    have HHC := Lib.hid hc
    clear hc
    have hm4 : m < 4096 := by rcases unhide HC with ⟨-, e⟩ | ⟨-, -, e, -⟩ | ⟨-, -, e, -⟩ <;> omega
    have ha4 : a < 256 := by have := HA.out; omega
    have hw : wrap64 (a : Int) = a := by unfold wrap64; omega
    rcases Nat.eq_zero_or_pos a with h0 | h0
    · subst h0
      go_wp2_with fail
      go_ret
      refine ⟨?_, rfl⟩
      rw [HE.out]
      refine congrArg (fun x => Ending.returned (.string x)) (ba_eq ?_)
      rw [app_data]
      have h1 := HA.out
      have h2 := HB.out
      have h3 := HHC.out
      unfold hxL
      rcases unhide HC with ⟨e0, e⟩ | ⟨e0, e1, e, e2⟩ | ⟨e0, e1, e, e2⟩
      · rw [if_pos (by omega)]
        have : x.data.toList = [] := List.eq_nil_of_length_eq_zero (by rw [← e0, ← hx]; simp)
        rw [this, ← h3, ← h2, ← e, Nat.mod_eq_of_lt (by omega)]; rfl
      · rw [if_neg (by omega), if_pos (by omega), e2, ← h3, ← h2, e, Nat.mod_eq_of_lt (by omega)]; rfl
      · rw [if_neg (by omega), if_neg (by omega), e2, ← h3, ← h2, e, Nat.mod_eq_of_lt (by omega)]; rfl
    · have h0b : decide ((a : Int) = 0) = false := decide_eq_false (by omega)
      go_wp2_with fail
      refine ⟨⟨k + 1, a, ⟨#[c]⟩ ++ x, by go_num, by rw [HE.out], by rw [ByteArray.size_append]; show 1 + x.size = k + 1; omega, ?_⟩, ?_⟩
      · have h1 := HA.out
        have h2 := HB.out
        have h3 := HHC.out
        rcases unhide HC with ⟨e0, e⟩ | ⟨e0, e1, e, e2⟩ | ⟨e0, e1, e, e2⟩
        · refine .inr (.inl ⟨by omega, by omega, by omega, ?_⟩)
          have : x.data.toList = [] := List.eq_nil_of_length_eq_zero (by rw [← e0, ← hx]; simp)
          rw [app_data, this, ← h3, ← h2, ← e]; rfl
        · refine .inr (.inr ⟨by omega, by omega, by omega, ?_⟩)
          rw [app_data, e2, ← h3, ← h2, e]; rfl
        · omega
      · simp [intOf, hw]; have := HA.out; omega
end Go.Proofs.YtkaaeajidejchaaGreatDoor.Sp

/- What a row's listed variables give: the table of powers of ten; the table of trailing zeros. -/
namespace Go.Proofs.YtkaaeajidejchaaGreatDoor.Sp
open Go.ChangeShapes Go.WideShapes Go.ChangeAt Go.RowKit

def pow10Row : List (String × DataW Unit) := [("internal/strconv.uint64pow10", Lib.tabData .u64 Lib.pow10Tab)]
theorem pow10_of {W : World} {l : List (String × DataW Unit)} (hl : (l.filter fun x => x.1 == "internal/strconv.uint64pow10") = pow10Row) (h : laidMet Tryz.prog l W) : Pow10 W := by
  have h2 := laidMet.filter (fun x => x.1 == "internal/strconv.uint64pow10") h
  rw [hl] at h2
  exact Lib.tabIs_of_head (g := 2) (by kernel_rfl) (by kernel_rfl) Tryz.underlying130 Tryz.underlying62 (by kernel_rfl) (by kernel_rfl) h2
def bruTab : List Int := Lib.deBruijn64tab.map Int.ofNat
def bruRow : List (String × DataW Unit) := [("math/bits.deBruijn64tab", Lib.tabData .u8 bruTab)]
theorem bru_of {W : World} {l : List (String × DataW Unit)} (hl : (l.filter fun x => x.1 == "math/bits.deBruijn64tab") = bruRow) (h : laidMet Tryz.prog l W) : Bru W := by
  have h2 := laidMet.filter (fun x => x.1 == "math/bits.deBruijn64tab") h
  rw [hl] at h2
  have h3 : Lib.TabIs Tryz.prog W "math/bits.deBruijn64tab" .u8 bruTab := Lib.tabIs_of_head (g := 4) (by kernel_rfl) (by kernel_rfl) Tryz.underlying179 Tryz.underlying5 (by kernel_rfl) (by kernel_rfl) h2
  exact h3.cell (g := 4) (by kernel_rfl) 15 (by decide)
end Go.Proofs.YtkaaeajidejchaaGreatDoor.Sp

/- A slice of texts that came in is opened. -/
namespace Go.Proofs.YtkaaeajidejchaaGreatDoor.Sp
open Go.ChangeShapes Go.WideShapes Go.ChangeAt Go.RowKit Go.Deep Sl Go.Joins

theorem wAll {H : Type} {P : Program} {e : TypeId} {d : DataW H} {n : Nat} : ∀ {l : List (DataW H)}, d ∈ l → n ∈ d.weights P e → n ∈ DataW.weightsAll P e l
  | x :: r, h, hn => by
    simp only [DataW.weightsAll, List.mem_append]
    rcases List.mem_cons.1 h with rfl | h
    · exact .inl hn
    · exact .inr (wAll h hn)

set_option maxRecDepth 100000 in
theorem texts_of {H : Type} {enc : TypeId × Value → H} {W : World} {b0 : Nat} {v : Value} {d : DataW H} {p : List MemPlace} (hv : Value.okWide Tryz.prog W .any b0 24 v)
    (h : DataW.Trod enc Tryz.prog W 0 (fun _ => true) true 24 v d p) (hw : ∀ n ∈ d.weights Tryz.prog 24, n ≤ reachBytes) :
    ∃ A : List ByteArray, A.length ≤ 9223372036854775807 ∧ (∀ x ∈ A, x.size ≤ 1000000000000000) ∧ Rd W v A.length 1 (strV A) := by
  obtain ⟨ao, ln, cp, rfl⟩ := okWide_slice Tryz.underlying24 hv
  obtain ⟨fuel, hf⟩ := h
  have hf' : DataW.trod enc Tryz.prog W 0 (fun _ => true) true fuel 24 [.slice ao ln cp] = some (d, p) := hf
  rcases open_slice1 Tryz.underlying24 (by kernel_rfl) hf' with ⟨hcs, _⟩ | ⟨a, len, cap, m, n, V, D, Pl, hcs, _, hlc, hm, hmm, hx, hi⟩
  · simp at hcs
    obtain ⟨rfl, rfl, rfl⟩ := hcs
    exact ⟨[], by simp, by simp, Rd.nil W 1⟩
  · simp at hcs
    obtain ⟨rfl, rfl, rfl⟩ := hcs
    simp only [if_true] at hmm
    subst hmm
    simp only [Prod.mk.injEq] at hx
    have each : ∀ i, i < ln → ∃ s : ByteArray, W.cell? (a.add i) = some (.string s) ∧ s.size ≤ 1000000000000000 := fun i hi' => by
      obtain ⟨h0, t0⟩ := hi i (by omega)
      obtain ⟨s0, e0, q0, _⟩ := DataW.trod_string Tryz.underlying9 t0
      simp only [List.cons.injEq, and_true, Prod.mk.injEq] at e0 q0
      have hmem : D i ∈ (List.range ln).map D := List.mem_map.2 ⟨i, List.mem_range.2 hi', rfl⟩
      have hsub : ∀ q, q ∈ (D i).weights Tryz.prog 9 → q ≤ reachBytes := fun q hq => hw q (by
        rw [hx.1]
        simp only [DataW.weights, Tryz.underlying24, List.mem_cons, List.mem_append]
        exact .inr (.inl (wAll hmem hq)))
      refine ⟨s0, by rw [h0, e0], ?_⟩
      have := hsub s0.data.toList.length (by simp [DataW.weights, q0.1])
      have h9 : s0.data.toList.length = s0.size := by simp
      unfold reachBytes at this
      omega
    obtain ⟨f, hf'⟩ := choose_lt each
    refine ⟨(List.range ln).map f, by simp; unfold maxLen at hm; omega, fun x hx => ?_, ?_⟩
    · obtain ⟨i, hi', rfl⟩ := List.mem_map.1 hx
      exact (hf' i (List.mem_range.1 hi')).2
    · refine ⟨some a, m, by simp, by simpa using hlc, (fun h => by cases h), strV_len _, fun hne => ?_⟩
      have hpos : 0 < ln := by
        rcases Nat.eq_zero_or_pos ln with h0 | h0
        · subst h0; simp [strV] at hne
        · exact h0
      have h0 := (hf' 0 hpos).1
      obtain ⟨b, off, spot⟩ := a
      have hspot : spot = none := by simpa [Addr.add] using World.cell?_spot h0
      subst hspot
      refine ⟨b, off, rfl, by have := World.block_lt_of_cell? W _ h0; simpa [Addr.add] using this, fun i u hu => ?_⟩
      have hlen : ((List.range ln).map f).length = ln := by simp
      have hil : i < ln := by
        have := (List.getElem?_eq_some_iff.1 hu).1
        rw [strV_len, hlen] at this
        omega
      have hg := strV_get ((List.range ln).map f) i (by rw [hlen]; omega)
      rw [hg] at hu
      cases hu
      have := (hf' i hil).1
      rw [Addr.add_mid] at this
      simpa using this
end Go.Proofs.YtkaaeajidejchaaGreatDoor.Sp

/- The frame of a law's row: what a law leaves behind (it returns true, has made memory, and changed nothing that was there) is what the row asks. -/
namespace Go.Proofs.YtkaaeajidejchaaGreatDoor.Frame
open Go.ChangeShapes Go.WideShapes Go.ChangeAt Go.RowKit
variable {H : Type} {enc : TypeId × Value → H} {P : Program}

/-- What was read of the arguments reads so still. -/
theorem args_stay (hl : laidOutB P = true) {W W' : World} (hb : Below W.heap.size W W') : ∀ (ts : List TypeId) (vs : List Value) (ds : List (DataW H)) (ps : List MemPlace),
    (∀ t ∈ ts, P.readableRec t = true ∧ t < P.types.size) → DataW.TrodAll enc P W 0 (fun _ => true) true ts vs ds ps → (∀ x ∈ ps, x.block < W.heap.size) →
    DataW.TrodAll enc P W' 0 (fun b => decide (b < W.heap.size)) true ts vs ds ps
  | [], vs, ds, ps, _, h, _ => by
    obtain ⟨rfl, rfl, rfl⟩ := trodAll_nil h
    exact trodAll_mk0
  | t :: ts, vs, ds, ps, hts, h, hlt => by
    obtain ⟨v, vs', d, ds', p, q, rfl, rfl, rfl, h0, hr⟩ := trodAll_cons h
    refine trodAll_cons_mk ?_ (args_stay hl hb ts vs' ds' q (fun t ht => hts t (List.mem_cons_of_mem _ ht)) hr (fun x hx => hlt x (List.mem_append.2 (.inr hx))))
    have ht := hts t (List.mem_cons.2 (.inl rfl))
    exact Below.trod hl ht.1 ht.2 h0 hb (fun x hx => hlt x (List.mem_append.2 (.inl hx)))

/-- THE FRAME. -/
theorem law_post {f : Func} {s : ChangeSpec} {W W' : World} {args : Array Value} {ds gs : List (DataW H)} {before : List MemPlace} {tb : TypeId}
    (hW : DataW.Whole enc P f.params.toList s.vars false W args.toList ds gs before) (hvars : s.vars = []) (hl : laidOutB P = true) (hts : ∀ t ∈ f.params.toList, P.readableRec t = true ∧ t < P.types.size)
    (hrt : f.resultTypes = #[tb]) (htb : P.underlying tb = some .bool) (hres : (s.fn H ds).results = [.lit (.bool true)]) (hargs : (s.fn H ds).args = ds) (hvs : (s.fn H ds).vars = []) (hb : Below W.heap.size W W') :
    s.post enc P f false true false false W args (.bool true) W' := by
  have hlt := hW.lt
  have hW' := hW
  obtain ⟨p, q, hA, hV, rfl, hfz, hnd⟩ := hW
  rw [hvars] at hV
  obtain ⟨rfl, rfl⟩ := trodVars_none hV
  refine ⟨ds, [], p ++ [], [], p, [], hW', ?_, ?_, ?_, hb.frame _, fun h => by cases h⟩
  · rw [List.append_nil, hres, hrt]
    exact trodAll_cons_mk (shut_bool htb _) trodAll_mk0
  · rw [List.append_nil, hargs]
    exact args_stay hl hb _ _ _ _ hts hA (fun x hx => hlt x (List.mem_append.2 (.inl hx)))
  · rw [hvars, List.append_nil, hvs]
    exact rfl
end Go.Proofs.YtkaaeajidejchaaGreatDoor.Frame
