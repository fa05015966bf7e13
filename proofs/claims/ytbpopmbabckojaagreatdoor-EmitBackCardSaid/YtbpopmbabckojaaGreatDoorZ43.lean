/- Lemmas for the statement's proof, several texts in one: Q8f. -/
import Derived.Test.YtbpopmbabckojaaGreatDoorZ21
set_option linter.unusedVariables false
set_option linter.unusedSimpArgs false
/- The reference's parser: head, of requests. -/
section
namespace Go.Proofs.YtbpopmbabckojaaGreatDoor.Sp
open Go.RowKit Sl

set_option maxRecDepth 100000 in
set_option maxHeartbeats 8000000 in
theorem head_f (s : ByteArray) (L H C B b : Nat) (hs : s.size ≤ 100000) (hL : L ≤ 2000) (hH : H ≤ 1000000) (hC : C ≤ 99) (w : World) (hp : Par w b L H C B false s) :
    Calls Tryz.prog 64 #[.pointer (some ⟨b, 0, none⟩)] w (HeadO (hdS false L H C s.data.toList) w) := by
  have HP := hide hp
  have hbw : b < w.heap.size := hp.2.2.2.2.2.2
  clear hp
  go_enter Tryz.func64, Tryz.ntmps64
  go_wp2_with fail
  have hst0 : HSt w ((w.alloc (.cells zeroM.toArray 24)).alloc (.cells zeroM.toArray 24)) w.heap.size Hd.none (.slice none 0 0) :=
    ⟨Reg.Has.at _ _ zeroM 24 (by simp), (Reg.Has.new w zeroM 24).alloc _, World.ownsRow_nil _ _ _ _, ((Below.refl w.heap.size w).alloc (Nat.le_refl _) _).alloc (by simp) _, by simp⟩
  have HS0 := hide hst0
  clear hst0
  go_loopw [5, 6] (fun at_ bg wr => ∃ (k f : Nat) (gb : Bool) (m : Hd) (fs : Value), at_ = .int .i64 k ∧ bg = .bool gb ∧ k ≤ s.size ∧ (s.data.toList.drop k).length < f ∧ hdS false L H C s.data.toList = hdG false L H C f (s.data.toList.drop k) k gb m ∧ HSt w wr w.heap.size m fs ∧ m.F.length ≤ C ∧ SzF m.F) (fun at_ _ _ => s.size - (intOf at_).toNat)
  case atStart => exact ⟨0, s.data.toList.length + 1, false, Hd.none, .slice none 0 0, rfl, rfl, Nat.zero_le _, by simp, rfl, unhide HS0, Nat.zero_le _, fun f hf => by cases hf⟩
  case round =>
    obtain ⟨k, f0, gb, m, fs, rfl, rfl, hk, hf0, hd, hst, hmC, hsz⟩ := hrel
    obtain ⟨f, rfl⟩ : ∃ f, f0 = f + 1 := ⟨f0 - 1, by omega⟩
    obtain ⟨ao, cap, rfl⟩ := hst.rd.form
    obtain ⟨me, ta, re, sta, mi, F⟩ := m
    simp only at hmC hsz
    obtain ⟨l, hl⟩ : ∃ l, s.data.toList.drop k = l := ⟨_, rfl⟩
    have hll : l.length = s.size - k := by rw [← hl, List.length_drop]; simp
    obtain ⟨⟨n, st⟩, hn⟩ : ∃ r, lnS L 431 l = r := ⟨_, rfl⟩
    obtain ⟨t, ht⟩ : ∃ t, lnT L 431 l = t := ⟨_, rfl⟩
    have hts : t.size ≤ 2000 := by rw [← ht]; exact Nat.le_trans (lnT_size L 431 l) hL
    have hnl : n ≤ s.size - k := by have := (lnS_le L 431 l).1; rw [hn] at this; omega
    have hn2 : n = 0 ∨ 2 ≤ n := by have := lnS_two L 431 l; rwa [hn] at this
    have hdr : ∀ n, l.drop n = s.data.toList.drop (k + n) := fun n => by rw [← hl, List.drop_drop]
    rw [hl] at hd hf0
    have hx : (s.extract k s.size).data.toList = l := by rw [Lib.extract_to_end, hl]
    have hxs : (s.extract k s.size).size = s.size - k := by rw [size_list hx, hll]
    have hln := line5_any (s.extract k s.size) L 431 (by omega)
    unfold lnE at hln
    rw [hx, ht, hn] at hln
    simp only at hln
    have HLN := hide hln
    have hmo := hide (fun w => more_any (n : Int) w)
    have hys : (s.extract 0 k).size = k := by rw [ByteArray.size_extract]; omega
    have HD := Lib.hid hd
    have HN := Lib.hid hn
    have HT := Lib.hid ht
    have HST := hide hst
    have HSZ := hide hsz
    have HPX := hide ((unhide HP).call hst.bel)
    have HDR := hide hdr
    clear hd hst hsz hln hx ht hn hdr hl
    obtain ⟨P0, P1, P2, P3, P4, P6, zb⟩ := unhide HPX
    go_upto_region 3 with fail
    refine Reg.region_more (by kernel_rfl) (by kernel_rfl) ?_
    repeat (go_big_quiet_step ((go_at_call 81; exact Reg.Calls.more_same (unhide HLN _))))
    refine wpQuiet_nil ?_
    intro w3 hb3; obtain ⟨hc3, hf3, hz3⟩ := bcell hb3; (try simp at hz3)
    have HS3 := hide ((unhide HST).call hb3)
    have HP3 := hide ((unhide HPX).call hb3)
    clear P0 P1 P2 P3 P4 P6 zb HST HPX hb3 hc3 hf3 hz3 HLN
    obtain ⟨P0, P1, P2, P3, P4, P6, zb⟩ := unhide HP3
    by_cases s0 : st ≠ 0
    · have HE := Lib.hid (show hdS false L H C s.data.toList = (⟨me, ta, re, sta, mi, F⟩, 0, (st : Int)) by rw [HD.out]; exact hdG_bad HN.out s0)
      have b1 : ((st : Int) == 0) = false := by rw [beq_eq_false_iff_ne]; omega
      have b2 : ((st : Int) != 0) = true := by rw [bne_iff_ne]; omega
      clear HD HN s0
      go_upto_region 4 with fail
      refine Reg.region_more (by kernel_rfl) (by kernel_rfl) ?_
      repeat (go_big_quiet_step (fail))
      refine wpQuiet_nil ?_
      intro w4 hb4; obtain ⟨hc4, hf4, hz4⟩ := bcell hb4; (try simp at hz4)
      have HS4 := hide ((unhide HS3).call hb4)
      clear P0 P1 P2 P3 P4 P6 zb hb4 hc4 hf4 hz4
      go_wp2_with (first
        | (refine wpList_loadM rfl _ rfl (w.heap.size + 1) rfl _ rfl (unhide HS4).box ?_)
        | (refine wpList_storeM rfl _ _ rfl w.heap.size rfl #[.string me, .string ta, .int .i64 sta, .string re, .int .i64 mi, .slice ao F.length cap, .string ⟨#[]⟩, .slice none 0 0] rfl rfl _ rfl (unhide HS4).res (by kernel_rfl) ?_; intro HZ; generalize hzz : World.setCells _ w.heap.size 0 _ = w9 at HZ ⊢; have HO : Hid (HeadO (hdS false L H C s.data.toList) w (.returned (.tuple #[.agg (hdM ⟨me, ta, re, sta, mi, F⟩ (.slice ao F.length cap)), .int .i64 ((0 : Nat) : Int), .int .i64 st])) w9) := hide (by rw [← hzz]; exact (unhide HS4).ret (by rw [HE.out]) (fun h => absurd h (Nat.lt_irrefl 0))); have ZZ := hide HZ; clear hzz HZ))
      have hrl := run_loadM w.heap.size #[.string me, .string ta, .int .i64 sta, .string re, .int .i64 mi, .slice ao F.length cap, .string ⟨#[]⟩, .slice none 0 0] rfl (unhide ZZ)
      exact bodyPost_ret (results_cell3 (ad := ⟨w.heap.size, 0, none⟩) Tryz.results64 rfl hrl) rfl (unhide HO)
    · obtain rfl : st = 0 := by omega
      clear s0
      by_cases n0 : n = 0
      · subst n0
        have HE0 := Lib.hid (HD.out.trans (hdG_zero HN.out))
        have hmo1 : (if ((0 : Nat) : Int) = 0 then (1 : Int) else 0) = 1 := rfl
        rw [hmo1] at hmo
        rw [hll] at HE0
        by_cases g : H < k + (s.size - k)
        · have HE := Lib.hid (show hdS false L H C s.data.toList = (⟨me, ta, re, sta, mi, F⟩, 0, 431) by rw [HE0.out, if_pos g])
          have gb1 : decide ((H : Int) < (k : Int) + ((s.size - k : Nat) : Int)) = true := decide_eq_true (by omega)
          clear HE0 g HD HN
          go_upto_region 4 with fail
          refine Reg.region_more (by kernel_rfl) (by kernel_rfl) ?_
          repeat (go_big_quiet_step ((go_at_call 82; exact Reg.Calls.more_same (unhide hmo _))))
          refine wpQuiet_nil ?_
          intro w4 hb4; obtain ⟨hc4, hf4, hz4⟩ := bcell hb4; (try simp at hz4)
          have HS4 := hide ((unhide HS3).call hb4)
          have HP4 := hide ((unhide HP3).call hb4)
          clear P0 P1 P2 P3 P4 P6 zb hb4 hc4 hf4 hz4 HS3 HP3 hmo
          go_wp2_with (first
            | (refine wpList_loadM rfl _ rfl (w.heap.size + 1) rfl _ rfl (unhide HS4).box ?_)
            | (refine wpList_storeM rfl _ _ rfl w.heap.size rfl #[.string me, .string ta, .int .i64 sta, .string re, .int .i64 mi, .slice ao F.length cap, .string ⟨#[]⟩, .slice none 0 0] rfl rfl _ rfl (unhide HS4).res (by kernel_rfl) ?_; intro HZ; generalize hzz : World.setCells _ w.heap.size 0 _ = w9 at HZ ⊢; have HO : Hid (HeadO (hdS false L H C s.data.toList) w (.returned (.tuple #[.agg (hdM ⟨me, ta, re, sta, mi, F⟩ (.slice ao F.length cap)), .int .i64 ((0 : Nat) : Int), .int .i64 431])) w9) := hide (by rw [← hzz]; exact (unhide HS4).ret (by rw [HE.out]) (fun h => absurd h (Nat.lt_irrefl 0))); have ZZ := hide HZ; clear hzz HZ))
          have hrl := run_loadM w.heap.size #[.string me, .string ta, .int .i64 sta, .string re, .int .i64 mi, .slice ao F.length cap, .string ⟨#[]⟩, .slice none 0 0] rfl (unhide ZZ)
          exact bodyPost_ret (results_cell3 (ad := ⟨w.heap.size, 0, none⟩) Tryz.results64 rfl hrl) rfl (unhide HO)
        · have HE := Lib.hid (show hdS false L H C s.data.toList = (⟨me, ta, re, sta, mi, F⟩, 0, 0) by rw [HE0.out, if_neg g])
          have gb1 : decide ((H : Int) < (k : Int) + ((s.size - k : Nat) : Int)) = false := decide_eq_false (by omega)
          clear HE0 g HD HN
          go_upto_region 4 with fail
          refine Reg.region_more (by kernel_rfl) (by kernel_rfl) ?_
          repeat (go_big_quiet_step ((go_at_call 82; exact Reg.Calls.more_same (unhide hmo _))))
          refine wpQuiet_nil ?_
          intro w4 hb4; obtain ⟨hc4, hf4, hz4⟩ := bcell hb4; (try simp at hz4)
          have HS4 := hide ((unhide HS3).call hb4)
          have HP4 := hide ((unhide HP3).call hb4)
          clear P0 P1 P2 P3 P4 P6 zb hb4 hc4 hf4 hz4 HS3 HP3 hmo
          go_wp2_with (first
            | (refine wpList_loadM rfl _ rfl (w.heap.size + 1) rfl _ rfl (unhide HS4).box ?_)
            | (refine wpList_storeM rfl _ _ rfl w.heap.size rfl #[.string me, .string ta, .int .i64 sta, .string re, .int .i64 mi, .slice ao F.length cap, .string ⟨#[]⟩, .slice none 0 0] rfl rfl _ rfl (unhide HS4).res (by kernel_rfl) ?_; intro HZ; generalize hzz : World.setCells _ w.heap.size 0 _ = w9 at HZ ⊢; have HO : Hid (HeadO (hdS false L H C s.data.toList) w (.returned (.tuple #[.agg (hdM ⟨me, ta, re, sta, mi, F⟩ (.slice ao F.length cap)), .int .i64 ((0 : Nat) : Int), .int .i64 0])) w9) := hide (by rw [← hzz]; exact (unhide HS4).ret (by rw [HE.out]) (fun h => absurd h (Nat.lt_irrefl 0))); have ZZ := hide HZ; clear hzz HZ))
          have hrl := run_loadM w.heap.size #[.string me, .string ta, .int .i64 sta, .string re, .int .i64 mi, .slice ao F.length cap, .string ⟨#[]⟩, .slice none 0 0] rfl (unhide ZZ)
          exact bodyPost_ret (results_cell3 (ad := ⟨w.heap.size, 0, none⟩) Tryz.results64 rfl hrl) rfl (unhide HO)
      · have HE00 := Lib.hid (HD.out.trans (hdG_more HN.out n0))
        rw [HT.out] at HE00
        have hmo1 : (if (n : Int) = 0 then (1 : Int) else 0) = 0 := by rw [if_neg (by omega)]
        rw [hmo1] at hmo
        have hn2' : 2 ≤ n := by omega
        have hdl := drop_lt hf0 hn2' (by omega)
        by_cases g : H < k + n
        · have HE := Lib.hid (show hdS false L H C s.data.toList = (⟨me, ta, re, sta, mi, F⟩, 0, 431) by rw [HE00.out, if_pos g])
          have gb1 : decide ((H : Int) < (k : Int) + (n : Int)) = true := decide_eq_true (by omega)
          clear HE00 g HD HN hn2
          go_upto_region 4 with fail
          refine Reg.region_more (by kernel_rfl) (by kernel_rfl) ?_
          repeat (go_big_quiet_step ((go_at_call 82; exact Reg.Calls.more_same (unhide hmo _))))
          refine wpQuiet_nil ?_
          intro w4 hb4; obtain ⟨hc4, hf4, hz4⟩ := bcell hb4; (try simp at hz4)
          have HS4 := hide ((unhide HS3).call hb4)
          have HP4 := hide ((unhide HP3).call hb4)
          clear P0 P1 P2 P3 P4 P6 zb hb4 hc4 hf4 hz4 HS3 HP3 hmo
          go_wp2_with (first
            | (refine wpList_loadM rfl _ rfl (w.heap.size + 1) rfl _ rfl (unhide HS4).box ?_)
            | (refine wpList_storeM rfl _ _ rfl w.heap.size rfl #[.string me, .string ta, .int .i64 sta, .string re, .int .i64 mi, .slice ao F.length cap, .string ⟨#[]⟩, .slice none 0 0] rfl rfl _ rfl (unhide HS4).res (by kernel_rfl) ?_; intro HZ; generalize hzz : World.setCells _ w.heap.size 0 _ = w9 at HZ ⊢; have HO : Hid (HeadO (hdS false L H C s.data.toList) w (.returned (.tuple #[.agg (hdM ⟨me, ta, re, sta, mi, F⟩ (.slice ao F.length cap)), .int .i64 ((0 : Nat) : Int), .int .i64 431])) w9) := hide (by rw [← hzz]; exact (unhide HS4).ret (by rw [HE.out]) (fun h => absurd h (Nat.lt_irrefl 0))); have ZZ := hide HZ; clear hzz HZ))
          have hrl := run_loadM w.heap.size #[.string me, .string ta, .int .i64 sta, .string re, .int .i64 mi, .slice ao F.length cap, .string ⟨#[]⟩, .slice none 0 0] rfl (unhide ZZ)
          exact bodyPost_ret (results_cell3 (ad := ⟨w.heap.size, 0, none⟩) Tryz.results64 rfl hrl) rfl (unhide HO)
        · have HE01 := Lib.hid (HE00.out.trans (if_neg g))
          have gb1 : decide ((H : Int) < (k : Int) + (n : Int)) = false := decide_eq_false (by omega)
          clear HE00 g HD HN hn2
          go_upto_region 4 with fail
          refine Reg.region_more (by kernel_rfl) (by kernel_rfl) ?_
          repeat (go_big_quiet_step ((go_at_call 82; exact Reg.Calls.more_same (unhide hmo _))))
          refine wpQuiet_nil ?_
          intro w4 hb4; obtain ⟨hc4, hf4, hz4⟩ := bcell hb4; (try simp at hz4)
          have HS4 := hide ((unhide HS3).call hb4)
          have HP4 := hide ((unhide HP3).call hb4)
          clear P0 P1 P2 P3 P4 P6 zb hb4 hc4 hf4 hz4 HS3 HP3 hmo
          cases gb
          · have HE0 := Lib.hid (HE01.out.trans (if_pos rfl))
            clear HE01
            obtain ⟨P0, P1, P2, P3, P4, P6, zb⟩ := unhide HP4
            by_cases c : t.toList.isEmpty = true ∧ false = false ∧ k + n = 2
            · obtain ⟨em, _, h2⟩ := c
              have HDX := Lib.hid (show hdS false L H C s.data.toList = hdG false L H C f (l.drop n) (k + n) false ⟨me, ta, re, sta, mi, F⟩ by rw [HE0.out, if_pos ⟨em, rfl, h2⟩])
              have k2 : ((k : Int) + (n : Int) == 2) = true := by rw [beq_iff_eq]; omega
              have k2' : (k : Int) + (n : Int) = 2 := by omega
              clear HE0
              go_wp2_with fail
              go_roundw
              case rel => exact ⟨k + n, f, false, ⟨me, ta, re, sta, mi, F⟩, (.slice ao F.length cap), by go_num, rfl, by omega, by rw [← (unhide HDR)]; exact hdl, by rw [← (unhide HDR)]; exact HDX.out, unhide HS4, hmC, unhide HSZ⟩
              case measure => simp [intOf]; omega
            · cases em : t.toList.isEmpty
              · obtain ⟨⟨⟨me', ta', re', sta', mi', F'⟩, st'⟩, hfs⟩ : ∃ r, firstS false t = r := ⟨_, rfl⟩
                have hF' : F' = [] := by have := firstS_nil false t; rw [hfs] at this; exact this
                subst hF'
                have HE1 := Lib.hid (show hdS false L H C s.data.toList = if st' ≠ 0 then (⟨me', ta', re', sta', mi', []⟩, 0, st') else hdG false L H C f (l.drop n) (k + n) true ⟨me', ta', re', sta', mi', []⟩ by rw [HE0.out, if_neg c, hfs])
                have hft := first_any false t s L H C B b (by omega) _ (unhide HP4)
                unfold FirstO hdM msgV at hft
                rw [hfs] at hft
                simp only at hft
                have HFT := hide hft
                clear HE0 c hfs hft
                go_wp2_with fail
                refine (unhide HFT).mono ?_; rintro e w5 ⟨rfl, hb5⟩
                have HS5 := hide ((unhide HS4).call hb5)
                have HP5 := hide ((unhide HP4).call hb5)
                clear HS4 HP4 hb5 HFT P0 P1 P2 P3 P4 P6 zb
                by_cases s1 : st' = 0
                · subst s1
                  have hdx : hdS false L H C s.data.toList = hdG false L H C f (l.drop n) (k + n) true ⟨me', ta', re', sta', mi', []⟩ := by rw [HE1.out, if_neg (by simp)]
                  have HDX := Lib.hid hdx
                  clear HE1 hdx
                  go_wp2_with (refine wpList_storeM rfl _ _ rfl (w.heap.size + 1) rfl #[.string me', .string ta', .int .i64 sta', .string re', .int .i64 mi', .slice none 0 0, .string ⟨#[]⟩, .slice none 0 0] rfl rfl _ rfl (unhide HS5).box (by kernel_rfl) ?_; intro HZ; generalize hzz : World.setCells _ (w.heap.size + 1) 0 _ = w6 at HZ ⊢; have HS6 : Hid (HSt w w6 w.heap.size ⟨me', ta', re', sta', mi', []⟩ (.slice none 0 0)) := hide (by rw [← hzz] at HZ ⊢; exact (unhide HS5).store ⟨me', ta', re', sta', mi', []⟩ rfl HZ); clear hzz HZ)
                  go_roundw
                  case rel => exact ⟨k + n, f, true, ⟨me', ta', re', sta', mi', []⟩, .slice none 0 0, by go_num, rfl, by omega, by rw [← (unhide HDR)]; exact hdl, by rw [← (unhide HDR)]; exact HDX.out, unhide HS6, Nat.zero_le _, fun f hf => by cases hf⟩
                  case measure => simp [intOf]; omega
                · have HE := Lib.hid (show hdS false L H C s.data.toList = (⟨me', ta', re', sta', mi', []⟩, 0, st') by rw [HE1.out, if_pos s1])
                  have b5 : (st' != 0) = true := by rw [bne_iff_ne]; exact s1
                  clear HE1 s1
                  go_wp2_with (first
                    | (refine wpList_loadM rfl _ rfl (w.heap.size + 1) rfl _ rfl (unhide HS6).box ?_)
                    | (refine wpList_storeM rfl _ _ rfl w.heap.size rfl #[.string me', .string ta', .int .i64 sta', .string re', .int .i64 mi', .slice none 0 0, .string ⟨#[]⟩, .slice none 0 0] rfl rfl _ rfl (unhide HS6).res (by kernel_rfl) ?_; intro HZ; generalize hzz : World.setCells _ w.heap.size 0 _ = w9 at HZ ⊢; have HO : Hid (HeadO (hdS false L H C s.data.toList) w (.returned (.tuple #[.agg (hdM ⟨me', ta', re', sta', mi', []⟩ (.slice none 0 0)), .int .i64 ((0 : Nat) : Int), .int .i64 st'])) w9) := hide (by rw [← hzz]; exact (unhide HS6).ret (by rw [HE.out]) (fun h => absurd h (Nat.lt_irrefl 0))); have ZZ := hide HZ; clear hzz HZ)
                    | (refine wpList_storeM rfl _ _ rfl (w.heap.size + 1) rfl #[.string me', .string ta', .int .i64 sta', .string re', .int .i64 mi', .slice none 0 0, .string ⟨#[]⟩, .slice none 0 0] rfl rfl _ rfl (unhide HS5).box (by kernel_rfl) ?_; intro HZ; generalize hzz : World.setCells _ (w.heap.size + 1) 0 _ = w6 at HZ ⊢; have HS6 : Hid (HSt w w6 w.heap.size ⟨me', ta', re', sta', mi', []⟩ (.slice none 0 0)) := hide (by rw [← hzz] at HZ ⊢; exact (unhide HS5).store ⟨me', ta', re', sta', mi', []⟩ rfl HZ); clear hzz HZ))
                  have hrl := run_loadM w.heap.size #[.string me', .string ta', .int .i64 sta', .string re', .int .i64 mi', .slice none 0 0, .string ⟨#[]⟩, .slice none 0 0] rfl (unhide ZZ)
                  exact bodyPost_ret (results_cell3 (ad := ⟨w.heap.size, 0, none⟩) Tryz.results64 rfl hrl) rfl (unhide HO)
              · have k2 : ((k : Int) + (n : Int) == 2) = false := by rw [beq_eq_false_iff_ne]; intro e; exact c ⟨em, rfl, by omega⟩
                have k2' : ¬ (k : Int) + (n : Int) = 2 := fun e => c ⟨em, rfl, by omega⟩
                have k2n : ¬ k + n = 2 := fun e => c ⟨em, rfl, e⟩
                obtain ⟨⟨⟨me', ta', re', sta', mi', F'⟩, st'⟩, hfs⟩ : ∃ r, firstS false t = r := ⟨_, rfl⟩
                have hF' : F' = [] := by have := firstS_nil false t; rw [hfs] at this; exact this
                subst hF'
                have HE1 := Lib.hid (show hdS false L H C s.data.toList = if st' ≠ 0 then (⟨me', ta', re', sta', mi', []⟩, 0, st') else hdG false L H C f (l.drop n) (k + n) true ⟨me', ta', re', sta', mi', []⟩ by rw [HE0.out, if_neg c, hfs])
                have hft := first_any false t s L H C B b (by omega) _ (unhide HP4)
                unfold FirstO hdM msgV at hft
                rw [hfs] at hft
                simp only at hft
                have HFT := hide hft
                clear HE0 c hfs hft
                go_wp2_with fail
                refine (unhide HFT).mono ?_; rintro e w5 ⟨rfl, hb5⟩
                have HS5 := hide ((unhide HS4).call hb5)
                have HP5 := hide ((unhide HP4).call hb5)
                clear HS4 HP4 hb5 HFT P0 P1 P2 P3 P4 P6 zb
                by_cases s1 : st' = 0
                · subst s1
                  have hdx : hdS false L H C s.data.toList = hdG false L H C f (l.drop n) (k + n) true ⟨me', ta', re', sta', mi', []⟩ := by rw [HE1.out, if_neg (by simp)]
                  have HDX := Lib.hid hdx
                  clear HE1 hdx
                  go_wp2_with (refine wpList_storeM rfl _ _ rfl (w.heap.size + 1) rfl #[.string me', .string ta', .int .i64 sta', .string re', .int .i64 mi', .slice none 0 0, .string ⟨#[]⟩, .slice none 0 0] rfl rfl _ rfl (unhide HS5).box (by kernel_rfl) ?_; intro HZ; generalize hzz : World.setCells _ (w.heap.size + 1) 0 _ = w6 at HZ ⊢; have HS6 : Hid (HSt w w6 w.heap.size ⟨me', ta', re', sta', mi', []⟩ (.slice none 0 0)) := hide (by rw [← hzz] at HZ ⊢; exact (unhide HS5).store ⟨me', ta', re', sta', mi', []⟩ rfl HZ); clear hzz HZ)
                  go_roundw
                  case rel => exact ⟨k + n, f, true, ⟨me', ta', re', sta', mi', []⟩, .slice none 0 0, by go_num, rfl, by omega, by rw [← (unhide HDR)]; exact hdl, by rw [← (unhide HDR)]; exact HDX.out, unhide HS6, Nat.zero_le _, fun f hf => by cases hf⟩
                  case measure => simp [intOf]; omega
                · have HE := Lib.hid (show hdS false L H C s.data.toList = (⟨me', ta', re', sta', mi', []⟩, 0, st') by rw [HE1.out, if_pos s1])
                  have b5 : (st' != 0) = true := by rw [bne_iff_ne]; exact s1
                  clear HE1 s1
                  go_wp2_with (first
                    | (refine wpList_loadM rfl _ rfl (w.heap.size + 1) rfl _ rfl (unhide HS6).box ?_)
                    | (refine wpList_storeM rfl _ _ rfl w.heap.size rfl #[.string me', .string ta', .int .i64 sta', .string re', .int .i64 mi', .slice none 0 0, .string ⟨#[]⟩, .slice none 0 0] rfl rfl _ rfl (unhide HS6).res (by kernel_rfl) ?_; intro HZ; generalize hzz : World.setCells _ w.heap.size 0 _ = w9 at HZ ⊢; have HO : Hid (HeadO (hdS false L H C s.data.toList) w (.returned (.tuple #[.agg (hdM ⟨me', ta', re', sta', mi', []⟩ (.slice none 0 0)), .int .i64 ((0 : Nat) : Int), .int .i64 st'])) w9) := hide (by rw [← hzz]; exact (unhide HS6).ret (by rw [HE.out]) (fun h => absurd h (Nat.lt_irrefl 0))); have ZZ := hide HZ; clear hzz HZ)
                    | (refine wpList_storeM rfl _ _ rfl (w.heap.size + 1) rfl #[.string me', .string ta', .int .i64 sta', .string re', .int .i64 mi', .slice none 0 0, .string ⟨#[]⟩, .slice none 0 0] rfl rfl _ rfl (unhide HS5).box (by kernel_rfl) ?_; intro HZ; generalize hzz : World.setCells _ (w.heap.size + 1) 0 _ = w6 at HZ ⊢; have HS6 : Hid (HSt w w6 w.heap.size ⟨me', ta', re', sta', mi', []⟩ (.slice none 0 0)) := hide (by rw [← hzz] at HZ ⊢; exact (unhide HS5).store ⟨me', ta', re', sta', mi', []⟩ rfl HZ); clear hzz HZ))
                  have hrl := run_loadM w.heap.size #[.string me', .string ta', .int .i64 sta', .string re', .int .i64 mi', .slice none 0 0, .string ⟨#[]⟩, .slice none 0 0] rfl (unhide ZZ)
                  exact bodyPost_ret (results_cell3 (ad := ⟨w.heap.size, 0, none⟩) Tryz.results64 rfl hrl) rfl (unhide HO)
          · have HE0 := Lib.hid (HE01.out.trans (if_neg (by simp)))
            clear HE01
            obtain ⟨P0, P1, P2, P3, P4, P6, zb⟩ := unhide HP4
            cases em : t.toList.isEmpty
            · rw [em] at HE0
              have hrl0 := rline_any t (by omega) w4
              unfold fldOut at hrl0
              obtain ⟨hz1, hz2⟩ := lineF_size t
              obtain ⟨⟨x0, y0⟩, hxy⟩ : ∃ r, lineF t = r := ⟨_, rfl⟩
              rw [hxy] at hrl0 HE0 hz1 hz2
              simp only at hrl0 hz1 hz2
              obtain ⟨x, hx⟩ : ∃ x, (if lineB t = true then x0 else ⟨#[]⟩) = x := ⟨_, rfl⟩
              obtain ⟨y, hy⟩ : ∃ y, (if lineB t = true then y0 else ⟨#[]⟩) = y := ⟨_, rfl⟩
              rw [hx, hy] at hrl0
              unfold errI at hrl0
              have HRL := hide hrl0
              clear hrl0 hxy
              by_cases hok : lineB t = true
              · have HE1 := Lib.hid (show hdS false L H C s.data.toList = if C ≤ F.length then (⟨me, ta, re, sta, mi, F⟩, 0, 431) else hdG false L H C f (l.drop n) (k + n) true ⟨me, ta, re, sta, mi, F ++ [(x0, y0)]⟩ by rw [HE0.out, if_neg (by decide), if_neg (by rw [hok]; decide)])
                clear HE0
                rw [if_pos hok] at HRL hx hy
                subst hx hy
                go_wp2_with fail
                refine (unhide HRL).mono ?_; rintro e w5 ⟨rfl, hb5⟩
                have HS5 := hide ((unhide HS4).call hb5)
                have HP5 := hide ((unhide HP4).call hb5)
                clear HS4 HP4 hb5 HRL P0 P1 P2 P3 P4 P6 zb
                clear hok
                by_cases lc : C ≤ F.length
                · have HE := Lib.hid (show hdS false L H C s.data.toList = (⟨me, ta, re, sta, mi, F⟩, 0, 431) by rw [HE1.out, if_pos lc])
                  clear HE1
                  have HF5 := hide (Reg.Has.new w5 [.string ⟨#[]⟩, .string ⟨#[]⟩] 55)
                  have HBF5 := hide ((Below.refl w5.heap.size w5).alloc (Nat.le_refl _) (.cells #[.string ⟨#[]⟩, .string ⟨#[]⟩] 55))
                  go_upto_region 10 with (refine wpList_storeF rfl _ _ rfl w5.heap.size rfl #[.string x0, .string y0] rfl rfl _ rfl (unhide HF5) (by kernel_rfl) ?_; intro HZ; have HBZ := below_setCells w5.heap.size (Nat.le_refl _) (#[.string x0, .string y0] : Array Value).toList 0 _ (unhide HBF5); generalize World.setCells _ w5.heap.size 0 _ = w6 at HZ HBZ ⊢; have HZF := hide HZ; have HBF := hide HBZ; clear HZ HBZ)
                  have HS6 := hide ((unhide HS5).call (unhide HBF))
                  have HP6 := hide ((unhide HP5).call (unhide HBF))
                  clear HF5 HBF5 HBF HS5 HP5
                  generalize w5.heap.size = g5 at HZF ⊢
                  obtain ⟨P0, P1, P2, P3, P4, P6, zb⟩ := unhide HP6
                  have G := (unhide HS6).box
                  have p5 := G.cell 5 _ rfl
                  have z5 := G.lt
                  have lb : decide ((C : Int) ≤ (F.length : Int)) = true := decide_eq_true (by omega)
                  go_upto_region 12 with fail
                  refine Reg.region_more (by kernel_rfl) (by kernel_rfl) ?_
                  repeat (go_big_quiet_step (fail))
                  refine wpQuiet_nil ?_
                  intro w7 hb7; obtain ⟨hc7, hf7, hz7⟩ := bcell hb7; (try simp at hz7)
                  have HS7 := hide ((unhide HS6).call hb7)
                  have HZF7 := hide ((unhide HZF).call hb7)
                  clear hb7 hc7 hf7 hz7 p5 z5 G P0 P1 P2 P3 P4 P6 zb HS6 HP6 HZF
                  have G := (unhide HS7).box
                  have p5 := G.cell 5 _ rfl
                  have u5 := G.free 5 (by simp [hdM, msgV])
                  have z5 := G.lt
                  have HN8 := hide (Reg.Has.new w7 [.string x0, .string y0] 55)
                  have HS8 := hide ((unhide HS7).call ((Below.refl _ _).alloc (Nat.le_refl _) (.cells #[.string x0, .string y0] 55)))
                  go_upto_region 23 with (first
                    | (refine wpList_loadF rfl _ rfl g5 rfl _ rfl (unhide HZF7) ?_)
                    | (at_builtin; refine wpList_pushFW rfl _ _ rfl (w.heap.size + 2) (.slice ao F.length cap) F rfl (unhide HS8).row (x0, y0) w7.heap.size _ (unhide HN8) rfl (by omega) (unhide HS8).le ?_; intro fs' w8 h2 hg hat; obtain ⟨ao', cap', rfl⟩ := (Rd.own h2).form; have HS9 := hide ((unhide HS8).push (x0, y0) hg h2); have G8 := (unhide HS8).box_grown hg; have q5 := G8.cell 5 _ rfl; have v5 := G8.free 5 (by simp [hdM, msgV]); have zq := G8.lt; clear p5 u5 z5 G G8 h2 hg hat))
                  generalize World.setCell _ ⟨w.heap.size + 1, 5, none⟩ _ = wz at HS9 ⊢
                  clear q5 v5 zq
                  go_wp2_with (first
                    | (refine wpList_loadM rfl _ rfl (w.heap.size + 1) rfl _ rfl (unhide HS9).box ?_)
                    | (refine wpList_storeM rfl _ _ rfl w.heap.size rfl #[.string me, .string ta, .int .i64 sta, .string re, .int .i64 mi, .slice ao' (F.length + 1) cap', .string ⟨#[]⟩, .slice none 0 0] rfl rfl _ rfl (unhide HS9).res (by kernel_rfl) ?_; intro HZ; generalize hzz : World.setCells _ w.heap.size 0 _ = w9 at HZ ⊢; have HO : Hid (HeadO (hdS false L H C s.data.toList) w (.returned (.tuple #[.agg (hdM ⟨me, ta, re, sta, mi, F ++ [(x0, y0)]⟩ (.slice ao' (F.length + 1) cap')), .int .i64 ((0 : Nat) : Int), .int .i64 431])) w9) := hide (by rw [← hzz]; exact (unhide HS9).ret (by rw [HE.out]) (fun h => absurd h (Nat.lt_irrefl 0))); have ZZ := hide HZ; clear hzz HZ))
                  have hrl := run_loadM w.heap.size #[.string me, .string ta, .int .i64 sta, .string re, .int .i64 mi, .slice ao' (F.length + 1) cap', .string ⟨#[]⟩, .slice none 0 0] rfl (unhide ZZ)
                  exact bodyPost_ret (results_cell3 (ad := ⟨w.heap.size, 0, none⟩) Tryz.results64 rfl hrl) rfl (unhide HO)
                · have HDX := Lib.hid (show hdS false L H C s.data.toList = hdG false L H C f (l.drop n) (k + n) true ⟨me, ta, re, sta, mi, F ++ [(x0, y0)]⟩ by rw [HE1.out, if_neg lc])
                  clear HE1
                  have HF5 := hide (Reg.Has.new w5 [.string ⟨#[]⟩, .string ⟨#[]⟩] 55)
                  have HBF5 := hide ((Below.refl w5.heap.size w5).alloc (Nat.le_refl _) (.cells #[.string ⟨#[]⟩, .string ⟨#[]⟩] 55))
                  go_upto_region 10 with (refine wpList_storeF rfl _ _ rfl w5.heap.size rfl #[.string x0, .string y0] rfl rfl _ rfl (unhide HF5) (by kernel_rfl) ?_; intro HZ; have HBZ := below_setCells w5.heap.size (Nat.le_refl _) (#[.string x0, .string y0] : Array Value).toList 0 _ (unhide HBF5); generalize World.setCells _ w5.heap.size 0 _ = w6 at HZ HBZ ⊢; have HZF := hide HZ; have HBF := hide HBZ; clear HZ HBZ)
                  have HS6 := hide ((unhide HS5).call (unhide HBF))
                  have HP6 := hide ((unhide HP5).call (unhide HBF))
                  clear HF5 HBF5 HBF HS5 HP5
                  generalize w5.heap.size = g5 at HZF ⊢
                  obtain ⟨P0, P1, P2, P3, P4, P6, zb⟩ := unhide HP6
                  have G := (unhide HS6).box
                  have p5 := G.cell 5 _ rfl
                  have z5 := G.lt
                  have lb : decide ((C : Int) ≤ (F.length : Int)) = false := decide_eq_false (by omega)
                  go_upto_region 12 with fail
                  refine Reg.region_more (by kernel_rfl) (by kernel_rfl) ?_
                  repeat (go_big_quiet_step (fail))
                  refine wpQuiet_nil ?_
                  intro w7 hb7; obtain ⟨hc7, hf7, hz7⟩ := bcell hb7; (try simp at hz7)
                  have HS7 := hide ((unhide HS6).call hb7)
                  have HZF7 := hide ((unhide HZF).call hb7)
                  clear hb7 hc7 hf7 hz7 p5 z5 G P0 P1 P2 P3 P4 P6 zb HS6 HP6 HZF
                  have G := (unhide HS7).box
                  have p5 := G.cell 5 _ rfl
                  have u5 := G.free 5 (by simp [hdM, msgV])
                  have z5 := G.lt
                  have HN8 := hide (Reg.Has.new w7 [.string x0, .string y0] 55)
                  have HS8 := hide ((unhide HS7).call ((Below.refl _ _).alloc (Nat.le_refl _) (.cells #[.string x0, .string y0] 55)))
                  go_upto_region 23 with (first
                    | (refine wpList_loadF rfl _ rfl g5 rfl _ rfl (unhide HZF7) ?_)
                    | (at_builtin; refine wpList_pushFW rfl _ _ rfl (w.heap.size + 2) (.slice ao F.length cap) F rfl (unhide HS8).row (x0, y0) w7.heap.size _ (unhide HN8) rfl (by omega) (unhide HS8).le ?_; intro fs' w8 h2 hg hat; obtain ⟨ao', cap', rfl⟩ := (Rd.own h2).form; have HS9 := hide ((unhide HS8).push (x0, y0) hg h2); have G8 := (unhide HS8).box_grown hg; have q5 := G8.cell 5 _ rfl; have v5 := G8.free 5 (by simp [hdM, msgV]); have zq := G8.lt; clear p5 u5 z5 G G8 h2 hg hat))
                  generalize World.setCell _ ⟨w.heap.size + 1, 5, none⟩ _ = wz at HS9 ⊢
                  clear q5 v5 zq
                  go_wp2_with fail
                  go_roundw
                  case rel => exact ⟨k + n, f, true, ⟨me, ta, re, sta, mi, F ++ [(x0, y0)]⟩, (.slice ao' (F.length + 1) cap'), by go_num, rfl, by omega, by rw [← (unhide HDR)]; exact hdl, by rw [← (unhide HDR)]; exact HDX.out, unhide HS9, by simp; omega, (unhide HSZ).snoc (show x0.size ≤ 2000 by omega) (show y0.size ≤ 2000 by omega)⟩
                  case measure => simp [intOf]; omega
              · have HE := Lib.hid (show hdS false L H C s.data.toList = (⟨me, ta, re, sta, mi, F⟩, 0, 400) by rw [HE0.out, if_neg (by decide), if_pos (by simpa using hok)])
                clear HE0
                rw [if_neg hok] at HRL
                clear hx hy
                go_wp2_with fail
                refine (unhide HRL).mono ?_; rintro e w5 ⟨rfl, hb5⟩
                have HS5 := hide ((unhide HS4).call hb5)
                have HP5 := hide ((unhide HP4).call hb5)
                clear HS4 HP4 hb5 HRL P0 P1 P2 P3 P4 P6 zb
                clear hok
                have HF5 := hide (Reg.Has.new w5 [.string ⟨#[]⟩, .string ⟨#[]⟩] 55)
                have HBF5 := hide ((Below.refl w5.heap.size w5).alloc (Nat.le_refl _) (.cells #[.string ⟨#[]⟩, .string ⟨#[]⟩] 55))
                go_upto_region 10 with (refine wpList_storeF rfl _ _ rfl w5.heap.size rfl #[.string x, .string y] rfl rfl _ rfl (unhide HF5) (by kernel_rfl) ?_; intro HZ; have HBZ := below_setCells w5.heap.size (Nat.le_refl _) (#[.string x, .string y] : Array Value).toList 0 _ (unhide HBF5); generalize World.setCells _ w5.heap.size 0 _ = w6 at HZ HBZ ⊢; have HZF := hide HZ; have HBF := hide HBZ; clear HZ HBZ)
                have HS6 := hide ((unhide HS5).call (unhide HBF))
                have HP6 := hide ((unhide HP5).call (unhide HBF))
                clear HF5 HBF5 HBF HS5 HP5
                generalize w5.heap.size = g5 at HZF ⊢
                obtain ⟨P0, P1, P2, P3, P4, P6, zb⟩ := unhide HP6
                have G := (unhide HS6).box
                have p5 := G.cell 5 _ rfl
                have z5 := G.lt
                have G := (unhide HS6).box
                have p5 := G.cell 5 _ rfl
                have u5 := G.free 5 (by simp [hdM, msgV])
                have z5 := G.lt
                have HN8 := hide (Reg.Has.new w6 [.string x, .string y] 55)
                have HS8 := hide ((unhide HS6).call ((Below.refl _ _).alloc (Nat.le_refl _) (.cells #[.string x, .string y] 55)))
                go_upto_region 23 with (first
                  | (refine wpList_loadF rfl _ rfl g5 rfl _ rfl (unhide HZF) ?_)
                  | (at_builtin; refine wpList_pushFW rfl _ _ rfl (w.heap.size + 2) (.slice ao F.length cap) F rfl (unhide HS8).row (x, y) w6.heap.size _ (unhide HN8) rfl (by omega) (unhide HS8).le ?_; intro fs' w8 h2 hg hat; obtain ⟨ao', cap', rfl⟩ := (Rd.own h2).form; have HS9 := hide ((unhide HS8).push (x, y) hg h2); have G8 := (unhide HS8).box_grown hg; have q5 := G8.cell 5 _ rfl; have v5 := G8.free 5 (by simp [hdM, msgV]); have zq := G8.lt; clear p5 u5 z5 G G8 h2 hg hat))
                generalize World.setCell _ ⟨w.heap.size + 1, 5, none⟩ _ = wz at HS9 ⊢
                clear q5 v5 zq
                go_wp2_with (first
                  | (refine wpList_loadM rfl _ rfl (w.heap.size + 1) rfl _ rfl (unhide HS9).box ?_)
                  | (refine wpList_storeM rfl _ _ rfl w.heap.size rfl #[.string me, .string ta, .int .i64 sta, .string re, .int .i64 mi, .slice ao' (F.length + 1) cap', .string ⟨#[]⟩, .slice none 0 0] rfl rfl _ rfl (unhide HS9).res (by kernel_rfl) ?_; intro HZ; generalize hzz : World.setCells _ w.heap.size 0 _ = w9 at HZ ⊢; have HO : Hid (HeadO (hdS false L H C s.data.toList) w (.returned (.tuple #[.agg (hdM ⟨me, ta, re, sta, mi, F ++ [(x, y)]⟩ (.slice ao' (F.length + 1) cap')), .int .i64 ((0 : Nat) : Int), .int .i64 400])) w9) := hide (by rw [← hzz]; exact (unhide HS9).ret (by rw [HE.out]) (fun h => absurd h (Nat.lt_irrefl 0))); have ZZ := hide HZ; clear hzz HZ))
                have hrl := run_loadM w.heap.size #[.string me, .string ta, .int .i64 sta, .string re, .int .i64 mi, .slice ao' (F.length + 1) cap', .string ⟨#[]⟩, .slice none 0 0] rfl (unhide ZZ)
                exact bodyPost_ret (results_cell3 (ad := ⟨w.heap.size, 0, none⟩) Tryz.results64 rfl hrl) rfl (unhide HO)
            · rw [em, if_pos rfl] at HE0
              have HE1 := HE0
              clear HE0
              obtain ⟨ok, hok⟩ : ∃ ok, hostM ⟨me, ta, re, sta, mi, F⟩ = ok := ⟨_, rfl⟩
              have hfew : Few F := (unhide HSZ).few (by omega)
              have hho := host_any ⟨me, ta, re, sta, mi, F⟩ (.slice ao F.length cap) hfew w4 (unhide HS4).rd
              rw [hok] at hho
              unfold hdM msgV at hho
              have HHO := hide hho
              rw [hok] at HE1
              clear hho hok hfew
              cases ok
              · have HE := Lib.hid (show hdS false L H C s.data.toList = (⟨me, ta, re, sta, mi, F⟩, 0, 400) by rw [HE1.out]; rw [if_pos ⟨rfl, rfl⟩])
                clear HE1
                have G := (unhide HS4).box
                have pa0 := G.cell 0 _ rfl; have pa1 := G.cell 1 _ rfl; have pa2 := G.cell 2 _ rfl; have pa3 := G.cell 3 _ rfl; have pa4 := G.cell 4 _ rfl; have pa5 := G.cell 5 _ rfl; have pa6 := G.cell 6 _ rfl; have pa7 := G.cell 7 _ rfl; have za := G.lt
                clear G
                go_wp2_with fail
                refine (unhide HHO).mono ?_; rintro e w5 ⟨rfl, hb5⟩
                have HS5 := hide ((unhide HS4).call hb5)
                clear HS4 hb5 HHO pa0 pa1 pa2 pa3 pa4 pa5 pa6 pa7 za
                go_wp2_with (first
                  | (refine wpList_loadM rfl _ rfl (w.heap.size + 1) rfl _ rfl (unhide HS5).box ?_)
                  | (refine wpList_storeM rfl _ _ rfl w.heap.size rfl #[.string me, .string ta, .int .i64 sta, .string re, .int .i64 mi, .slice ao F.length cap, .string ⟨#[]⟩, .slice none 0 0] rfl rfl _ rfl (unhide HS5).res (by kernel_rfl) ?_; intro HZ; generalize hzz : World.setCells _ w.heap.size 0 _ = w9 at HZ ⊢; have HO : Hid (HeadO (hdS false L H C s.data.toList) w (.returned (.tuple #[.agg (hdM ⟨me, ta, re, sta, mi, F⟩ (.slice ao F.length cap)), .int .i64 ((0 : Nat) : Int), .int .i64 400])) w9) := hide (by rw [← hzz]; exact (unhide HS5).ret (by rw [HE.out]) (fun h => absurd h (Nat.lt_irrefl 0))); have ZZ := hide HZ; clear hzz HZ))
                have hrl := run_loadM w.heap.size #[.string me, .string ta, .int .i64 sta, .string re, .int .i64 mi, .slice ao F.length cap, .string ⟨#[]⟩, .slice none 0 0] rfl (unhide ZZ)
                exact bodyPost_ret (results_cell3 (ad := ⟨w.heap.size, 0, none⟩) Tryz.results64 rfl hrl) rfl (unhide HO)
              · have HE := Lib.hid (show hdS false L H C s.data.toList = (⟨me, ta, re, sta, mi, F⟩, k + n, 0) by rw [HE1.out]; rw [if_neg (by simp)])
                clear HE1
                have G := (unhide HS4).box
                have pa0 := G.cell 0 _ rfl; have pa1 := G.cell 1 _ rfl; have pa2 := G.cell 2 _ rfl; have pa3 := G.cell 3 _ rfl; have pa4 := G.cell 4 _ rfl; have pa5 := G.cell 5 _ rfl; have pa6 := G.cell 6 _ rfl; have pa7 := G.cell 7 _ rfl; have za := G.lt
                clear G
                go_wp2_with fail
                refine (unhide HHO).mono ?_; rintro e w5 ⟨rfl, hb5⟩
                have HS5 := hide ((unhide HS4).call hb5)
                clear HS4 hb5 HHO pa0 pa1 pa2 pa3 pa4 pa5 pa6 pa7 za
                go_wp2_with (first
                  | (refine wpList_loadM rfl _ rfl (w.heap.size + 1) rfl _ rfl (unhide HS5).box ?_)
                  | (refine wpList_storeM rfl _ _ rfl w.heap.size rfl #[.string me, .string ta, .int .i64 sta, .string re, .int .i64 mi, .slice ao F.length cap, .string ⟨#[]⟩, .slice none 0 0] rfl rfl _ rfl (unhide HS5).res (by kernel_rfl) ?_; intro HZ; generalize hzz : World.setCells _ w.heap.size 0 _ = w9 at HZ ⊢; have HO : Hid (HeadO (hdS false L H C s.data.toList) w (.returned (.tuple #[.agg (hdM ⟨me, ta, re, sta, mi, F⟩ (.slice ao F.length cap)), .int .i64 ((k + n : Nat) : Int), .int .i64 0])) w9) := hide (by rw [← hzz]; exact (unhide HS5).ret (by rw [HE.out]) (fun _ => by rw [HE.out])); have ZZ := hide HZ; clear hzz HZ))
                have hrl := run_loadM w.heap.size #[.string me, .string ta, .int .i64 sta, .string re, .int .i64 mi, .slice ao F.length cap, .string ⟨#[]⟩, .slice none 0 0] rfl (unhide ZZ)
                exact bodyPost_ret (results_cell3 (ad := ⟨w.heap.size, 0, none⟩) Tryz.results64 rfl hrl) rfl (unhide HO)
end Go.Proofs.YtbpopmbabckojaaGreatDoor.Sp
end
