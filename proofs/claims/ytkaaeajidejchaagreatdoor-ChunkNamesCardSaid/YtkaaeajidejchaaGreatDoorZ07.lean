/- Lemmas for the statement's proof, several texts in one: P7, P8. -/
import Derived.Test.YtkaaeajidejchaaGreatDoorZ06
import Derived.Defers
import Derived.Recover
set_option linter.unusedVariables false
set_option linter.unusedSimpArgs false
/- The decoder's state field. -/
section
namespace Go.Proofs.YtkaaeajidejchaaGreatDoor.Sp
open Go.RowKit Sl
theorem MaxV.moves {w w' : World} {base b : Nat} {nx : Value} {d : Dec} {ln bd tr ln' bd' tr' : Value} (hM : MaxV w) (hd : DecAt w base b nx d ln bd tr) (h : Moves b w ln bd tr w' ln' bd' tr') (hMb : 5 < base) : MaxV w' := by
  obtain ⟨m, hm⟩ := hM
  exact ⟨m, h.but.cell hm (fun e => by have := hd.foot_ge _ e; simp only at this; omega)⟩

set_option maxRecDepth 100000 in
set_option maxHeartbeats 4000000 in
theorem dfield_any (w : World) (base b : Nat) (nx : Value) (d : Dec) (ln bd tr : Value) (c : UInt8) (h : DecAt w base b nx d ln bd tr) (hst : d.st = .field) (hl : d.line.length ≤ 900000) (hbase : base ≤ w.heap.size) (hbh : d.behind ≤ 900000) (htr : d.tr.length ≤ 900000) (hM : MaxV w) (hMb : 5 < base) :
    Calls Tryz.prog 43 #[.pointer (some ⟨b, 0, none⟩), .int .u8 c.toNat] w fun e w' => stE b (stepS sizeF flF d c) e ∧ Went b base nx w ln bd tr (stepS sizeF flF d c).1 w' := by
  obtain ⟨f, hf⟩ : ∃ f, (eatS d.L d.line c).1 = f := ⟨_, rfl⟩
  obtain ⟨wh, hwh⟩ : ∃ wh, (eatS d.L d.line c).2 = wh := ⟨_, rfl⟩
  have hee : eatS d.L d.line c = (f, wh) := by rw [← hf, ← hwh]
  have p8 := h.has.cell 8 _ rfl
  have u8 := h.has.free 8 (by simp [decV])
  have HD1 := hide (h.put (d' := { d with behind := d.behind + 1 }) 8 (.int .i64 ((d.behind : Int) + 1)) rfl rfl rfl rfl)
  have HM1 := hide ((Moves.refl b w ln bd tr).put 8 (.int .i64 ((d.behind : Int) + 1)))
  have H0 := hide h
  have HMV := hide hM
  have hbs : base ≤ (w.setCell ⟨b, 8, none⟩ (.int .i64 ((d.behind : Int) + 1))).heap.size := by simpa [World.setCell] using hbase
  have HB1 := hide hbs
  clear h hM hbs
  by_cases hf0 : f ≠ 0
  · have HS := Lib.hid (show stepS sizeF flF d c = ({ d with behind := d.behind + 1, line := d.line ++ [c] }, f) by unfold stepS; rw [hst]; simp only; rw [hee, if_pos hf0])
    have HE := hide (eat_bad _ base b nx _ ln bd tr c (unhide HD1) (by show d.line.length ≤ _; omega) (unhide HB1) f wh hee hf0)
    have HF := Lib.hid hf0
    clear hee hf hwh hf0
    go_enter Tryz.func43, Tryz.ntmps43
    go_wp2_with (go_at_call 41; refine (unhide HE).mono ?_; rintro e w1 ⟨rfl, ln', h1, h2⟩)
    exact ⟨rfl, stE_bad HS.out HF.out, went_of HS.out h1 ((unhide HM1).trans h2)⟩
  · obtain rfl : f = 0 := by omega
    have HE := hide (eat_ok _ base b nx _ ln bd tr c (unhide HD1) (by show d.line.length ≤ _; omega) (unhide HB1) wh hee)
    clear hf0
    go_enter Tryz.func43, Tryz.ntmps43
    go_upto_region 3 with (go_at_call 41; refine (unhide HE).mono ?_; rintro e w2 ⟨rfl, ln', h1, h2⟩)
    have HD2 := hide h1
    have HM2 := hide ((unhide HM1).trans h2)
    have p1 := h1.has.cell 1 _ rfl
    have q8 := h1.has.cell 8 _ rfl
    have zb := h1.has.lt
    simp only at p1 q8
    clear h1 h2 HE HD1 HM1
    refine Reg.region_more (by kernel_rfl) (by kernel_rfl) ?_
    repeat (go_big_quiet_step (fail))
    refine wpQuiet_nil ?_
    intro w3 hb3; obtain ⟨hc3, hf3, hz3⟩ := bcell hb3; (try simp at hz3)
    have HD3 := hide ((unhide HD2).call hb3)
    have HM3 := hide ((unhide HM2).call hb3)
    have hbase3 : base ≤ w3.heap.size := by have := (unhide HM2).but.size; omega
    have HB3 := hide hbase3
    clear hb3 hc3 hf3 hz3 p1 q8 zb HD2 HM2 p8 u8 HB1 hbase3
    by_cases g1 : d.H < d.behind + 1
    · have HQ := Lib.hid (show stepS sizeF flF d c = ({ d with behind := d.behind + 1, line := d.line ++ [c] }, 431) by unfold stepS; rw [hst]; simp only; rw [hee, if_neg (by simp), if_pos g1])
      have g2 : (d.H : Int) < (d.behind : Int) + 1 := by omega
      clear g1 hst hf hee hwh
      go_wp2_with fail
      exact ⟨rfl, stE_bad HQ.out (by decide), went_of HQ.out (unhide HD3) (unhide HM3)⟩
    have g2 : ¬ (d.H : Int) < (d.behind : Int) + 1 := by omega
    cases wh
    · have HQ := Lib.hid (show stepS sizeF flF d c = ({ d with behind := d.behind + 1, line := d.line ++ [c] }, 0) by unfold stepS; rw [hst]; simp only; rw [hee, if_neg (by simp), if_neg g1, if_pos rfl])
      have HST := Lib.hid hst
      clear g1 hst hf hee hwh
      go_wp2_with fail
      go_ret
      exact ⟨stE_ok HQ.out HST.out, went_of HQ.out (unhide HD3) (unhide HM3)⟩
    · obtain ⟨rfl, x, hx⟩ := eatS_whole hee
      have hxl : x.length ≤ 900000 := by rw [hx] at hl; simp at hl; omega
      have hS0 : stepS sizeF flF d 10 = if x = [] then ({ d with behind := d.behind + 1, line := [], done := true }, 0) else match flF x with
          | none => ({ d with behind := d.behind + 1, line := [] }, 400)
          | some f => if d.C ≤ d.tr.length then ({ d with behind := d.behind + 1, line := [] }, 431) else ({ d with behind := d.behind + 1, line := [], tr := d.tr ++ [f] }, 0) := by
        unfold stepS
        rw [hst]
        simp only
        rw [hee, if_neg (by simp), if_neg g1, if_neg (by simp), hx, List.dropLast_concat]
        rfl
      have HS := Lib.hid hS0
      have HX := Lib.hid hx
      have HST := Lib.hid hst
      clear hS0 hx g1 hst hf hee hwh
      go_upto_region 8 with (go_at_call 42; refine (take_any _ base b nx _ _ _ _ x 13 10 (unhide HD3) (by show d.line ++ [10] = _; rw [HX.out]; simp) (by omega)).mono ?_; rintro e w4 ⟨rfl, h3, h4⟩)
      have HD4 := hide h3
      have HM4 := hide ((unhide HM3).trans h4)
      have p11 := h3.has.cell 11 _ rfl
      have u11 := h3.has.free 11 (by simp [decV])
      have hbase4 : base ≤ w4.heap.size := Nat.le_trans (unhide HB3) h4.but.size
      clear h3 h4 HD3 HM3 HB3
      simp only at p11
      by_cases hxe : x = []
      · have HQ := Lib.hid (show stepS sizeF flF d 10 = ({ d with behind := d.behind + 1, line := [], done := true }, 0) by rw [HS.out, if_pos hxe])
        subst hxe
        clear HS
        go_wp2_with fail
        go_ret
        exact ⟨stE_ok HQ.out HST.out, went_of HQ.out ((unhide HD4).put (d' := { d with behind := d.behind + 1, line := [], done := true }) 11 (.bool true) rfl rfl rfl rfl) ((unhide HM4).put 11 _)⟩
      · obtain ⟨s, hs⟩ : ∃ s : ByteArray, ofL x = s := ⟨_, rfl⟩
        have hsx : s.data.toList = x := by rw [← hs]; rfl
        have hsz : s.size = x.length := size_list hsx
        have hne : s.toList.isEmpty = false := by
          rcases empty_case s with ⟨_, h⟩ | ⟨h, _⟩
          · rw [hsx] at h; exact absurd h hxe
          · exact h
        obtain ⟨⟨f1, f2⟩, hff⟩ : ∃ f, lineF s = f := ⟨_, rfl⟩
        obtain ⟨ok, hok⟩ : ∃ ok, lineB s = ok := ⟨_, rfl⟩
        have hfl : flF x = if ok = true then some (f1, f2) else none := by unfold flF; rw [hs, hok, hff]
        have HL := line_any s (by omega) w4 ((unhide HMV).moves (unhide H0) (unhide HM4) hMb)
        rw [hff, hok] at HL
        unfold fldOut at HL
        have HFL := Lib.hid hfl
        have HXE := Lib.hid hxe
        rw [show (⟨x.toArray⟩ : ByteArray) = s from hs]
        clear hsx hsz hff hok hfl hxe p11 u11 hs
        cases ok
        · have HQ := Lib.hid (show stepS sizeF flF d 10 = ({ d with behind := d.behind + 1, line := [] }, 400) by rw [HS.out, if_neg HXE.out, HFL.out]; rfl)
          simp only [Bool.false_eq_true, if_false, errI] at HL
          have HLH := hide HL
          clear HL
          go_upto_region 12 with (first
            | (go_at_call 57; refine (unhide HLH).mono ?_; rintro e w5 ⟨rfl, h5⟩; have H5 := hide h5; clear h5; have HR := hide (Reg.Has.new w5 [.string ⟨#[]⟩, .string ⟨#[]⟩] 50))
            | (refine wpList_storeF rfl _ _ rfl w5.heap.size rfl #[.string ⟨#[]⟩, .string ⟨#[]⟩] rfl rfl _ rfl (unhide HR) (by kernel_rfl) ?_; intro HZ; have HBZ := below_setCells (B := w5.heap.size) w5.heap.size (Nat.le_refl _) (#[.string ⟨#[]⟩, .string ⟨#[]⟩] : Array Value).toList 0 _ ((Below.refl w5.heap.size w5).alloc (Nat.le_refl _) (.cells #[.string ⟨#[]⟩, .string ⟨#[]⟩] 50)); generalize World.setCells _ w5.heap.size 0 _ = w6 at HZ HBZ ⊢; have ZZ := hide HZ; have BZ := hide HBZ; clear HZ HBZ))
          have HB6 := hide ((unhide H5).trans ((unhide BZ).mono (unhide H5).size))
          have HD6 := hide ((unhide HD4).call (unhide HB6))
          have HM6 := hide ((unhide HM4).call (unhide HB6))
          clear ZZ HLH HR
          go_wp2_with fail
          exact ⟨rfl, stE_bad HQ.out (by decide), went_of HQ.out (unhide HD6) (unhide HM6)⟩
        · simp only [if_true, errI] at HL
          have HLH := hide HL
          clear HL
          go_upto_region 12 with (first
            | (go_at_call 57; refine (unhide HLH).mono ?_; rintro e w5 ⟨rfl, h5⟩; have H5 := hide h5; clear h5; have HR := hide (Reg.Has.new w5 [.string ⟨#[]⟩, .string ⟨#[]⟩] 50))
            | (refine wpList_storeF rfl _ _ rfl w5.heap.size rfl #[.string f1, .string f2] rfl rfl _ rfl (unhide HR) (by kernel_rfl) ?_; intro HZ; have HBZ := below_setCells (B := w5.heap.size) w5.heap.size (Nat.le_refl _) (#[.string f1, .string f2] : Array Value).toList 0 _ ((Below.refl w5.heap.size w5).alloc (Nat.le_refl _) (.cells #[.string ⟨#[]⟩, .string ⟨#[]⟩] 50)); generalize World.setCells _ w5.heap.size 0 _ = w6 at HZ HBZ ⊢; have ZZ := hide HZ; have BZ := hide HBZ; clear HZ HBZ))
          have HB6 := hide ((unhide H5).trans ((unhide BZ).mono (unhide H5).size))
          have HD6 := hide ((unhide HD4).call (unhide HB6))
          have HM6 := hide ((unhide HM4).call (unhide HB6))
          go_upto_region 14 with fail
          have p2 := (unhide HD6).has.cell 2 _ rfl
          have p9 := (unhide HD6).has.cell 9 _ rfl
          have zb := (unhide HD6).has.lt
          obtain ⟨ao, ac, hbd⟩ := (Rd.own (unhide HD6).trs).form
          simp only at p2 p9 hbd
          rw [hbd] at p9
          clear hbd HLH HR
          refine Reg.region_more (by kernel_rfl) (by kernel_rfl) ?_
          repeat (go_big_quiet_step (fail))
          refine wpQuiet_nil ?_
          intro w7 hb7; obtain ⟨hc7, hf7, hz7⟩ := bcell hb7; (try simp at hz7)
          have HD7 := hide ((unhide HD6).call hb7)
          have HM7 := hide ((unhide HM6).call hb7)
          have HZ7 := hide ((unhide ZZ).call hb7)
          have hgt : tr.ownBlock ≠ some w5.heap.size := fun e => by have := ((unhide HD4).trs.lt _ e).2; have := (unhide H5).size; omega
          have hgb : b ≠ w5.heap.size := by have := (unhide HD4).has.lt; have := (unhide H5).size; omega
          have hbase7 : base ≤ w7.heap.size := by have := (unhide HB6).size; omega
          have HGT := hide hgt
          have HGB := hide hgb
          clear hb7 hc7 hf7 hz7 p2 p9 zb HD6 HM6 ZZ BZ HB6 hgt hgb H5 HD4 HM4 hbase4
          generalize w5.heap.size = gf at *
          by_cases g3 : d.C ≤ d.tr.length
          · have HQ := Lib.hid (show stepS sizeF flF d 10 = ({ d with behind := d.behind + 1, line := [] }, 431) by rw [HS.out, if_neg HXE.out, HFL.out]; simp only [if_true]; rw [if_pos g3])
            have g4 : (d.C : Int) ≤ d.tr.length := by omega
            clear g3
            go_wp2_with fail
            exact ⟨rfl, stE_bad HQ.out (by decide), went_of HQ.out (unhide HD7) (unhide HM7)⟩
          · have HQ := Lib.hid (show stepS sizeF flF d 10 = ({ d with behind := d.behind + 1, line := [], tr := d.tr ++ [(f1, f2)] }, 0) by rw [HS.out, if_neg HXE.out, HFL.out]; simp only [if_true]; rw [if_neg g3])
            have g4 : ¬ (d.C : Int) ≤ d.tr.length := by omega
            clear g3
            go_upto_region 16 with fail
            have p9 := (unhide HD7).has.drew.cell 9 _ rfl
            have u9 := (unhide HD7).has.drew.free 9 (by simp [decV])
            have hx0 : ∀ y : Reg.Kp (fun w' => Reg.Has w' gf [.string f1, .string f2]), y.w.cell? ⟨gf, 0, none⟩ = some (.string f1) := fun y => y.h.cell 0 _ rfl
            have hx1 : ∀ y : Reg.Kp (fun w' => Reg.Has w' gf [.string f1, .string f2]), y.w.cell? ⟨gf, 1, none⟩ = some (.string f2) := fun y => y.h.cell 1 _ rfl
            have hkpne : Nonempty (Reg.Kp (fun w' => Reg.Has w' gf [.string f1, .string f2])) := ⟨⟨_, (unhide HZ7).drew⟩⟩
            refine Reg.region_plan3 (fun w' => Reg.Has w' gf [.string f1, .string f2]) (.takes [0, 1, 2, 3, 5] (.two 4 6 (.ones [6, 7, 8, 9, 10] .done) (.ones [4, 7, 8, 9, 10] .done))) (by kernel_rfl) (by kernel_rfl) (by kernel_rfl) (by decide) (by intro o _ c a v w h; generalize o.dst = d at h; cases d <;> exact h) ((unhide HZ7).drew) ?_
            simp only [Reg.Plan3.takes, Reg.Plan3.ones, Reg.wpPlan3, List.getElem?_cons_zero, List.getElem?_cons_succ]
            refine Reg.take_read (by kernel_rfl) ?_
            go_big_quiet_step (fail)
            refine wpQuiet_nil ?_
            refine Reg.take_read (by kernel_rfl) ?_
            go_big_quiet_step (fail)
            refine wpQuiet_nil ?_
            refine Reg.take_nilq _ rfl ?_
            go_big_quiet_step (fail)
            refine wpQuiet_nil ?_
            refine Reg.take_read (by kernel_rfl) ?_
            go_big_quiet_step (fail)
            refine wpQuiet_nil ?_
            refine Reg.take_read (by kernel_rfl) ?_
            go_big_quiet_step (fail)
            refine wpQuiet_nil ?_
            have HZR := hide ((unhide HZ7).drew)
            have zb7 := (unhide HD7).has.lt
            refine ⟨?_, ?_⟩
            ·
              (try simp only [Reg.wpOne])
              go_wp2_with (fail)
              refine Reg.thenQ_mk ⟨⟨_, unhide HZR⟩, rfl⟩ ?_
              (try dsimp only)
              (try simp only [Reg.wpOne])
              go_wp2_with (fail)
              refine Reg.thenQ_mk ⟨⟨_, ((unhide HZ7).alloc _).drew⟩, rfl⟩ ?_
              (try dsimp only)
              have HDA := hide (((unhide HD7).alloc (.cells #[.string f1, .string f2] 50)).call ((Below.refl _ _).drew))
              have HMA := hide ((unhide HM7).call (((Below.refl w7.heap.size w7).alloc (Nat.le_refl _) (.cells #[.string f1, .string f2] 50)).drew))
              have HZA := hide (((unhide HZ7).alloc (.cells #[.string f1, .string f2] 50)).drew)
              have HNA := hide ((Reg.Has.new w7 [.string f1, .string f2] 50).drew)
              have hbA : base ≤ (w7.alloc (.cells #[.string f1, .string f2] 50)).drew.heap.size := by simp; omega
              have HBA := hide hbA
              clear p9 u9 zb7 HD7 HM7 HZ7 hbA hx0 hx1 hkpne HZR
              generalize (w7.alloc (.cells #[.string f1, .string f2] 50)).drew = wA at *
              (try simp only [Reg.wpOne])
              go_wp2_with (refine wpList_pushFW rfl _ _ rfl base tr d.tr rfl (unhide HDA).trs (f1, f2) _ _ (unhide HNA) rfl (by omega) (unhide HBA) ?_; intro tr' w8 h2 hg hat; obtain ⟨ao, ac, rfl⟩ := (Rd.own h2).form; have HS2 := hide ((unhide HDA).setTr (d.tr ++ [(f1, f2)]) hg (by rw [List.length_append]; exact h2) hat); have q9 := ((unhide HDA).has_tr hg).cell 9 _ rfl; have v9 := ((unhide HDA).has_tr hg).free 9 (by simp [decV]); have HZ8 := hide ((But.grown (S := fun k => tr.ownBlock = some k) hg (fun _ e => e)).has (unhide HZA) (unhide HGT)); clear h2 hg hat)
              refine Reg.thenQ_mk ⟨⟨_, unhide HZ8⟩, rfl⟩ ?_
              (try dsimp only)
              (try simp only [Reg.wpOne])
              go_wp2_with (fail)
              refine Reg.thenQ_mk ⟨⟨_, unhide HZ8⟩, rfl⟩ ?_
              (try dsimp only)
              (try simp only [Reg.wpOne])
              go_wp2_with (fail)
              refine Reg.thenQ_mk ⟨⟨_, unhide HZ8⟩, rfl⟩ ?_
              (try dsimp only)
              (try simp only [Reg.wpOne])
              go_wp2_with (fail)
              refine Reg.thenQ_mk ⟨⟨_, (unhide HZ8).other (unhide HGB) _⟩, rfl⟩ ?_
              (try dsimp only)
              obtain ⟨HD9, HM9⟩ := unhide HS2
              have HD9 := hide HD9
              have HM9 := hide HM9
              clear q9 v9 HS2
              generalize w8.setCell ⟨b, 9, none⟩ _ = w9 at HD9 HM9 ⊢
              go_wp2_with fail
              go_ret
              exact ⟨stE_ok HQ.out HST.out, went_of HQ.out (unhide HD9) ((unhide HMA).trans (unhide HM9))⟩
            ·
              (try simp only [Reg.wpOne])
              go_wp2_with (fail)
              refine Reg.thenQ_mk ⟨⟨_, ((unhide HZ7).alloc _).drew⟩, rfl⟩ ?_
              (try dsimp only)
              have p9A := ((unhide HD7).alloc (.cells #[.string f1, .string f2] 50)).has.cell 9 _ rfl
              (try simp only [Reg.wpOne])
              go_wp2_with (fail)
              refine Reg.thenQ_mk ⟨⟨_, ((unhide HZ7).alloc _).drew⟩, rfl⟩ ?_
              (try dsimp only)
              clear p9A
              have HDA := hide (((unhide HD7).alloc (.cells #[.string f1, .string f2] 50)).call ((Below.refl _ _).drew))
              have HMA := hide ((unhide HM7).call (((Below.refl w7.heap.size w7).alloc (Nat.le_refl _) (.cells #[.string f1, .string f2] 50)).drew))
              have HZA := hide (((unhide HZ7).alloc (.cells #[.string f1, .string f2] 50)).drew)
              have HNA := hide ((Reg.Has.new w7 [.string f1, .string f2] 50).drew)
              have hbA : base ≤ (w7.alloc (.cells #[.string f1, .string f2] 50)).drew.heap.size := by simp; omega
              have HBA := hide hbA
              clear p9 u9 zb7 HD7 HM7 HZ7 hbA hx0 hx1 hkpne HZR
              generalize (w7.alloc (.cells #[.string f1, .string f2] 50)).drew = wA at *
              (try simp only [Reg.wpOne])
              go_wp2_with (refine wpList_pushFW rfl _ _ rfl base tr d.tr rfl (unhide HDA).trs (f1, f2) _ _ (unhide HNA) rfl (by omega) (unhide HBA) ?_; intro tr' w8 h2 hg hat; obtain ⟨ao, ac, rfl⟩ := (Rd.own h2).form; have HS2 := hide ((unhide HDA).setTr (d.tr ++ [(f1, f2)]) hg (by rw [List.length_append]; exact h2) hat); have q9 := ((unhide HDA).has_tr hg).cell 9 _ rfl; have v9 := ((unhide HDA).has_tr hg).free 9 (by simp [decV]); have HZ8 := hide ((But.grown (S := fun k => tr.ownBlock = some k) hg (fun _ e => e)).has (unhide HZA) (unhide HGT)); clear h2 hg hat)
              refine Reg.thenQ_mk ⟨⟨_, unhide HZ8⟩, rfl⟩ ?_
              (try dsimp only)
              (try simp only [Reg.wpOne])
              go_wp2_with (fail)
              refine Reg.thenQ_mk ⟨⟨_, unhide HZ8⟩, rfl⟩ ?_
              (try dsimp only)
              (try simp only [Reg.wpOne])
              go_wp2_with (fail)
              refine Reg.thenQ_mk ⟨⟨_, unhide HZ8⟩, rfl⟩ ?_
              (try dsimp only)
              (try simp only [Reg.wpOne])
              go_wp2_with (fail)
              refine Reg.thenQ_mk ⟨⟨_, (unhide HZ8).other (unhide HGB) _⟩, rfl⟩ ?_
              (try dsimp only)
              obtain ⟨HD9, HM9⟩ := unhide HS2
              have HD9 := hide HD9
              have HM9 := hide HM9
              clear q9 v9 HS2
              generalize w8.setCell ⟨b, 9, none⟩ _ = w9 at HD9 HM9 ⊢
              go_wp2_with fail
              go_ret
              exact ⟨stE_ok HQ.out HST.out, went_of HQ.out (unhide HD9) ((unhide HMA).trans (unhide HM9))⟩
end Go.Proofs.YtkaaeajidejchaaGreatDoor.Sp
end

/- The decoder: what Feed defers. -/
section
namespace Go.Proofs.YtkaaeajidejchaaGreatDoor.Sp
open Go.RowKit Sl

/-- no flaw: nothing is recovered -/
theorem catch_idle (dv nv sv : Nat) (w : World) :
    CallsD Tryz.prog 28 #[.pointer (some ⟨dv, 0, none⟩), .pointer (some ⟨nv, 0, none⟩), .pointer (some ⟨sv, 0, none⟩)] .returning w fun e u' w' => e = .returned (.tuple #[]) ∧ u' = .returning ∧ w' = w := by
  refine callsD_of_wpS Tryz.func28 rfl fun c₀ cs hu => ?_
  apply wpS_seq
  apply wpS_region
  simp [wpOpsS, go_sem, recoverD, hu, Tryz.ntmps28, Exit.thenS, Array.replicate]
  refine wpS_of_wp ?_
  go_wp2
  cases c₀
  simp_all [bodyPostS, results, Tryz.results28]

set_option maxRecDepth 100000 in
set_option maxHeartbeats 2000000 in
/-- a flaw is recovered -/
theorem catch_flaw (dv nv sv b : Nat) (f i : Int) (x : Value) (ob : Value) (vs : List Value) (hf0 : -9223372036854775808 ≤ f) (hf : f ≤ 9223372036854775807) (hi0 : 0 ≤ i) (hi : i < 9223372036854775807) (w : World) (hd : Reg.Has w dv [.pointer (some ⟨b, 0, none⟩)]) (hn : Reg.Has w nv [.int .i64 i]) (hs : Reg.Has w sv [x]) (hb : Reg.Has w b vs) (hb10 : vs[10]? = some ob) (n1 : dv ≠ nv) (n2 : dv ≠ sv) (n3 : dv ≠ b) (n4 : nv ≠ sv) (n5 : nv ≠ b) (n6 : sv ≠ b) :
    CallsD Tryz.prog 28 #[.pointer (some ⟨dv, 0, none⟩), .pointer (some ⟨nv, 0, none⟩), .pointer (some ⟨sv, 0, none⟩)] (.panicking [{ v := .iface 59 (.int .i64 f), recovered := false }]) w fun e u' w' =>
      e = .returned (.tuple #[]) ∧ u' = .panicking [{ v := .iface 59 (.int .i64 f), recovered := true }] ∧ w' = (((w.setCell ⟨b, 10, none⟩ (.int .i64 f)).setCell ⟨nv, 0, none⟩ (.int .i64 (i + 1))).setCell ⟨sv, 0, none⟩ (.int .i64 f)).drew := by
  have d0 := hd.cell 0 _ rfl
  have m0 := hn.cell 0 _ rfl
  have s0 := hs.cell 0 _ rfl
  have b0 := hb.cell 10 _ hb10
  have fm := hn.free 0 (by simp)
  have fs := hs.free 0 (by simp)
  have hta : ∀ w', (Instr.typeAssert (.iface 59 (.int .i64 f)) 20 59 true).run Tryz.prog w' = .ok (.tuple #[.int .i64 f, .bool true]) w' := fun _ => by kernel_rfl
  have fb := hb.free 10 (List.getElem?_eq_some_iff.1 hb10).1
  refine callsD_of_wpS Tryz.func28 rfl fun c₀ cs hu => ?_
  apply wpS_seq
  apply wpS_region
  simp [wpOpsS, go_sem, recoverD, hu, Tryz.ntmps28, Exit.thenS, Array.replicate]
  refine wpS_of_wp ?_
  go_wp2_with fail
  have n4s := n4.symm
  have n5s := n5.symm
  have n6s := n6.symm
  have n1s := n1.symm
  have n2s := n2.symm
  have n3s := n3.symm
  have HB := hide (hb.put 10 (.int .i64 f))
  have HN := hide (hn.other (a := ⟨b, 10, none⟩) (by show b ≠ nv; omega) (.int .i64 f))
  have HS := hide (hs.other (a := ⟨b, 10, none⟩) (by show b ≠ sv; omega) (.int .i64 f))
  have HD := hide (hd.other (a := ⟨b, 10, none⟩) (by show b ≠ dv; omega) (.int .i64 f))
  have b1 : (vs.set 10 (.int .i64 f))[10]? = some (.int .i64 f) := by rw [List.getElem?_set_self']; rw [hb10]; rfl
  have c0 := (unhide HB).drew.cell 10 _ b1
  have e0 := (unhide HN).drew.cell 0 _ rfl
  have g0 := (unhide HS).drew.cell 0 _ rfl
  have c0' := (unhide HB).cell 10 _ b1
  have e0' := (unhide HN).cell 0 _ rfl
  have g0' := (unhide HS).cell 0 _ rfl
  have e1' := (unhide HN).free 0 (by simp)
  have g1' := (unhide HS).free 0 (by simp)
  have e1 := (unhide HN).drew.free 0 (by simp)
  have g1 := (unhide HS).drew.free 0 (by simp)
  have hx0 : ∀ y : Reg.Kp (fun w' => Reg.Has w' dv [.pointer (some ⟨b, 0, none⟩)]), y.w.cell? ⟨dv, 0, none⟩ = some (.pointer (some ⟨b, 0, none⟩)) := fun y => y.h.cell 0 _ rfl
  have HU := hide hu
  clear hd hn hs hb hb10 d0 m0 s0 b0 fm fs fb hta b1 hu
  generalize hw1 : w.setCell ⟨b, 10, none⟩ (.int .i64 f) = w1 at *
  have hkpne : Nonempty (Reg.Kp (fun w' => Reg.Has w' dv [.pointer (some ⟨b, 0, none⟩)])) := ⟨⟨_, (unhide HD).drew⟩⟩
  refine Reg.region_plan3 (fun w' => Reg.Has w' dv [.pointer (some ⟨b, 0, none⟩)]) (.takes [2, 3, 4] (.two 0 5 (.takes [1] (.ones [5, 6, 7] .done)) (.ones [0] (.takes [1] (.ones [6, 7] .done))))) (by kernel_rfl) (by kernel_rfl) (by kernel_rfl) (by decide) (by intro o _ c a v w h; generalize o.dst = d at h; cases d <;> exact h) ((unhide HD).drew) ?_
  simp only [Reg.Plan3.takes, Reg.Plan3.ones, Reg.wpPlan3, List.getElem?_cons_zero, List.getElem?_cons_succ]
  refine Reg.take_read (by kernel_rfl) ?_
  go_big_quiet_step (fail)
  refine wpQuiet_nil ?_
  refine Reg.take_nilq _ rfl ?_
  go_big_quiet_step (fail)
  refine wpQuiet_nil ?_
  refine Reg.take_read (by kernel_rfl) ?_
  go_big_quiet_step (fail)
  refine wpQuiet_nil ?_
  refine ⟨?_, ?_⟩
  ·
    (try simp only [Reg.wpOne])
    go_wp2_with (fail)
    refine Reg.thenQ_mk ⟨⟨_, (unhide HD).drew⟩, rfl⟩ ?_
    (try dsimp only)
    refine Reg.take_read (by kernel_rfl) ?_
    go_big_quiet_step (fail)
    refine wpQuiet_nil ?_
    (try simp only [Reg.wpOne])
    go_wp2_with (fail)
    refine Reg.thenQ_mk ⟨⟨_, (unhide HD).drew⟩, rfl⟩ ?_
    (try dsimp only)
    (try simp only [Reg.wpOne])
    go_wp2_with (fail)
    refine Reg.thenQ_mk ⟨⟨_, ((unhide HD).other (a := ⟨nv, 0, none⟩) (by show nv ≠ dv; omega) _).drew⟩, rfl⟩ ?_
    (try dsimp only)
    (try simp only [Reg.wpOne])
    go_wp2_with (fail)
    refine Reg.thenQ_mk ⟨⟨_, (((unhide HD).other (a := ⟨nv, 0, none⟩) (by show nv ≠ dv; omega) _).other (a := ⟨sv, 0, none⟩) (by show sv ≠ dv; omega) _).drew⟩, rfl⟩ ?_
    (try dsimp only)
    go_wp2_with fail
    have hu := unhide HU
    cases c₀
    subst hw1
    simp_all [bodyPostS, results, Tryz.results28]
  ·
    (try simp only [Reg.wpOne])
    go_wp2_with (fail)
    refine Reg.thenQ_mk ⟨⟨_, (unhide HD).drew⟩, rfl⟩ ?_
    (try dsimp only)
    (try simp only [Reg.wpOne])
    go_wp2_with (fail)
    refine Reg.thenQ_mk ⟨⟨_, (unhide HD).drew⟩, rfl⟩ ?_
    (try dsimp only)
    refine Reg.take_read (by kernel_rfl) ?_
    go_big_quiet_step (fail)
    refine wpQuiet_nil ?_
    (try simp only [Reg.wpOne])
    go_wp2_with (fail)
    refine Reg.thenQ_mk ⟨⟨_, ((unhide HD).other (a := ⟨nv, 0, none⟩) (by show nv ≠ dv; omega) _).drew⟩, rfl⟩ ?_
    (try dsimp only)
    (try simp only [Reg.wpOne])
    go_wp2_with (fail)
    refine Reg.thenQ_mk ⟨⟨_, (((unhide HD).other (a := ⟨nv, 0, none⟩) (by show nv ≠ dv; omega) _).other (a := ⟨sv, 0, none⟩) (by show sv ≠ dv; omega) _).drew⟩, rfl⟩ ?_
    (try dsimp only)
    go_wp2_with fail
    have hu := unhide HU
    cases c₀
    subst hw1
    simp_all [bodyPostS, results, Tryz.results28]
end Go.Proofs.YtkaaeajidejchaaGreatDoor.Sp
end
