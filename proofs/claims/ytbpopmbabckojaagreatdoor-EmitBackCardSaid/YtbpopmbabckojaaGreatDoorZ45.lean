/- Lemmas for the statement's proof, several texts in one: U2, P2, P3. -/
import Derived.Test.YtbpopmbabckojaaGreatDoorZ42
import Derived.Test.YtbpopmbabckojaaGreatDoorZ44
import Derived.Test.YtbpopmbabckojaaGreatDoorZ26
import Derived.Test.YtbpopmbabckojaaGreatDoorZ04
import Derived.Test.YtbpopmbabckojaaGreatDoorZ02
import Derived.Test.YtbpopmbabckojaaGreatDoorZ07
set_option linter.unusedVariables false
set_option linter.unusedSimpArgs false
/- The reference's decoder: trailers, of bytes without a flaw. -/
section
namespace Go.Proofs.YtbpopmbabckojaaGreatDoor.Sp
open Go.RowKit Sl

/-- fields that lie behind block d -/
def RdG (w : World) (d : Nat) (v : Value) (F : List Fld) : Prop := Rd w v F.length 2 (fldV F) ∧ ∀ g off n c, v = .slice (some ⟨g, off, none⟩) n c → d < g
theorem RdG.to {w : World} {d b : Nat} {v : Value} {F : List Fld} (h : RdG w d v F) (hb : b ≤ d) : RdN w b v F := ⟨h.1, fun g off n c e => by have := h.2 g off n c e; omega⟩
theorem RdG.but {w w' : World} {d b : Nat} {v : Value} {F : List Fld} (h : RdG w d v F) (hb : But (fun k => k = b) w w') (hd : b ≤ d) : RdG w' d v F := ⟨((h.to hd).but hb).1, h.2⟩
theorem RdG.call {w w' : World} {d : Nat} {v : Value} {F : List Fld} (h : RdG w d v F) (hb : Below w.heap.size w w') : RdG w' d v F := ⟨h.1.below hb, h.2⟩
theorem RdG.own {w : World} {d base : Nat} {v : Value} {F : List Fld} (h : w.ownsRow base 55 2 v F.length (fldV F)) (hb : d < base) : RdG w d v F :=
  ⟨Rd.own h, fun g off n c e => by
    have := (h.lt g (by rw [e]; rfl)).1
    omega⟩

/-- the fields under way: a row of the call's own, laid in the decoder's block -/
structure TSt (w0 wr : World) (d L H C B : Nat) (s out : ByteArray) (bh : Value) (T : List Fld) : Prop where
  has : Reg.Has wr d (dcV L H C B s 0 false out bh)
  row : wr.ownsRow w0.heap.size 55 2 bh T.length (fldV T)
  but : But (fun k => k = d) w0 wr
  lt : d < w0.heap.size
section
variable {w0 wr w1 : World} {d L H C B : Nat} {s out : ByteArray} {bh bh' : Value} {T : List Fld}
theorem TSt.ne (h : TSt w0 wr d L H C B s out bh T) : bh.ownBlock ≠ some d := fun e => by have := (h.row.lt d e).1; have := h.lt; omega
theorem TSt.call (h : TSt w0 wr d L H C B s out bh T) (hb : Below wr.heap.size wr w1) : TSt w0 w1 d L H C B s out bh T :=
  ⟨h.has.call hb, (But.of_below (S := fun _ => False) hb).own h.row (fun _ _ e => e), h.but.more hb, h.lt⟩
theorem TSt.has_grown (h : TSt w0 wr d L H C B s out bh T) (hg : wr.grownBy w1 bh.ownBlock) : Reg.Has w1 d (dcV L H C B s 0 false out bh) :=
  (But.grown (S := fun k => bh.ownBlock = some k) hg (fun _ e => e)).has h.has h.ne
theorem TSt.push (h : TSt w0 wr d L H C B s out bh T) (f : Fld) (hg : wr.grownBy w1 bh.ownBlock) (h2 : w1.ownsRow w0.heap.size 55 2 bh' (T.length + 1) (fldV (T ++ [f]))) :
    TSt w0 (w1.setCell ⟨d, 8, none⟩ bh') d L H C B s out bh' (T ++ [f]) := by
  have hb1 : But (fun k => bh.ownBlock = some k) wr w1 := But.grown hg (fun _ e => e)
  have hb2 : But (fun k => k = d) w1 (w1.setCell ⟨d, 8, none⟩ bh') := But.set (fun k => k = d) _ rfl _
  have n2 : bh'.ownBlock ≠ some d := fun e => by have := (h2.lt _ e).1; have := h.lt; omega
  refine ⟨(h.has_grown hg).put 8 bh', ?_, ?_, h.lt⟩
  · rw [List.length_append]
    exact hb2.own h2 (fun k e e2 => n2 ((show k = d from e2) ▸ e))
  · exact (h.but.trans hb1 (fun i hi e => by have := (h.row.lt i e).1; omega)).trans hb2 (fun _ _ e => e)
end
theorem tkG_zero {L H C f used : Nat} {l : List UInt8} {T : List Fld} (h : lnS L 400 l = (0, 0)) : tkG L H C (f + 1) l used T = if H < used + l.length then (431, false, T) else (0, false, T) := by
  simp only [tkG, h]
  simp
theorem tkG_bad {L H C f used : Nat} {l : List UInt8} {T : List Fld} {n st : Nat} (h : lnS L 400 l = (n, st)) (hs : st ≠ 0) : (tkG L H C (f + 1) l used T).1 ≠ 0 := by
  simp only [tkG, h]
  rw [if_pos hs]
  exact hs
theorem tkG_more {L H C f used : Nat} {l : List UInt8} {T : List Fld} {n : Nat} (h : lnS L 400 l = (n, 0)) (hn : n ≠ 0) :
    tkG L H C (f + 1) l used T = if H < used + n then (431, false, T) else if (lnT L 400 l).toList.isEmpty = true then (0, true, T) else if lineB (lnT L 400 l) = false then (400, false, T) else if C ≤ T.length then (431, false, T) else tkG L H C f (l.drop n) (used + n) (T ++ [lineF (lnT L 400 l)]) := by
  simp only [tkG, h]
  rw [if_neg (by simp), if_neg hn, if_neg hn]

set_option maxRecDepth 100000 in
set_option maxHeartbeats 8000000 in
theorem trailers_any (s out : ByteArray) (fr L H C B d : Nat) (bh0 : Value) (hs : s.size ≤ 100000) (hfr : fr ≤ s.size) (hL : L ≤ 2000) (hH : H ≤ 1000000) (hC : C ≤ 99) (w : World) (hd0 : Reg.Has w d (dcV L H C B s 0 false out bh0)) (hbad : (tkG L H C (s.size + 1) (s.data.toList.drop fr) 0 []).1 = 0) :
    Calls Tryz.prog 109 #[.pointer (some ⟨d, 0, none⟩), .int .i64 (fr : Int)] w fun e w' => e = .returned (.tuple #[]) ∧ ∃ bh, Reg.Has w' d (dcV L H C B s 0 (tkG L H C (s.size + 1) (s.data.toList.drop fr) 0 []).2.1 out bh) ∧ RdG w' d bh (tkG L H C (s.size + 1) (s.data.toList.drop fr) 0 []).2.2 ∧ But (fun k => k = d) w w' := by
  have hlt0 := hd0.lt
  have p8 := hd0.cell 8 _ rfl
  have fz8 := hd0.free 8 (by simp [dcV])
  have HT0 : Hid (TSt w (w.setCell ⟨d, 8, none⟩ (.slice none 0 0)) d L H C B s out (.slice none 0 0) []) := hide ⟨hd0.put 8 _, World.ownsRow_nil _ _ _ _, But.set (fun k => k = d) _ rfl _, hlt0⟩
  have HBAD := Lib.hid hbad
  clear hd0 hbad
  go_enter Tryz.func109, Tryz.ntmps109
  go_wp2_with fail
  go_loopw [4] (fun at_ wr => ∃ (k f : Nat) (T : List Fld) (bh : Value), at_ = .int .i64 k ∧ fr ≤ k ∧ k ≤ s.size ∧ (s.data.toList.drop k).length < f ∧ tkG L H C (s.size + 1) (s.data.toList.drop fr) 0 [] = tkG L H C f (s.data.toList.drop k) (k - fr) T ∧ TSt w wr d L H C B s out bh T ∧ T.length ≤ C) (fun at_ _ => s.size - (intOf at_).toNat)
  case atStart => exact ⟨fr, s.size + 1, [], .slice none 0 0, rfl, Nat.le_refl _, hfr, by rw [List.length_drop]; simp; omega, by rw [Nat.sub_self], unhide HT0, Nat.zero_le _⟩
  case round =>
    obtain ⟨k, f0, T, bh, rfl, hk0, hk, hf0, hd, hst, hTC⟩ := hrel
    obtain ⟨f, rfl⟩ : ∃ f, f0 = f + 1 := ⟨f0 - 1, by omega⟩
    obtain ⟨ao, cap, rfl⟩ := (Rd.own hst.row).form
    obtain ⟨l, hl⟩ : ∃ l, s.data.toList.drop k = l := ⟨_, rfl⟩
    have hll : l.length = s.size - k := by rw [← hl, List.length_drop]; simp
    obtain ⟨⟨n, st⟩, hn⟩ : ∃ r, lnS L 400 l = r := ⟨_, rfl⟩
    obtain ⟨t, ht⟩ : ∃ t, lnT L 400 l = t := ⟨_, rfl⟩
    have hts : t.size ≤ 2000 := by rw [← ht]; exact Nat.le_trans (lnT_size L 400 l) hL
    have hnl : n ≤ s.size - k := by have := (lnS_le L 400 l).1; rw [hn] at this; omega
    have hn2 : n = 0 ∨ 2 ≤ n := by have := lnS_two L 400 l; rwa [hn] at this
    have hdr : ∀ n, l.drop n = s.data.toList.drop (k + n) := fun n => by rw [← hl, List.drop_drop]
    rw [hl] at hd hf0
    have hx : (s.extract k s.size).data.toList = l := by rw [Lib.extract_to_end, hl]
    have hxs : (s.extract k s.size).size = s.size - k := by rw [size_list hx, hll]
    have hln := line5_any (s.extract k s.size) L 400 (by omega)
    unfold lnE at hln
    rw [hx, ht, hn] at hln
    simp only at hln
    have hst0 : st = 0 := by
      rcases Nat.eq_zero_or_pos st with h | h
      · exact h
      · exact absurd (hd ▸ HBAD.out) (tkG_bad hn (by omega))
    subst hst0
    have HLN := hide hln
    have HN := Lib.hid hn
    have HT := Lib.hid ht
    have HD := Lib.hid hd
    have HST := hide hst
    have HDR := hide hdr
    clear hd hst hln hx ht hn hdr hl p8 fz8 HT0
    have p0 := (unhide HST).has.cell 0 _ rfl
    have p4 := (unhide HST).has.cell 4 _ rfl
    have zb := (unhide HST).has.lt
    go_upto_region 2 with fail
    refine Reg.region_more (by kernel_rfl) (by kernel_rfl) ?_
    repeat (go_big_quiet_step ((go_at_call 81; exact Reg.Calls.more_same (unhide HLN _))))
    refine wpQuiet_nil ?_
    intro w4 hb4; obtain ⟨hc4, hf4, hz4⟩ := bcell hb4; (try simp at hz4)
    have HS4 := hide ((unhide HST).call hb4)
    clear p0 p4 zb hb4 hc4 hf4 hz4 HST HLN
    have p1 := (unhide HS4).has.cell 1 _ rfl
    have p4 := (unhide HS4).has.cell 4 _ rfl
    have zb := (unhide HS4).has.lt
    by_cases n0 : n = 0
    · subst n0
      have he := HD.out.trans (tkG_zero HN.out)
      have hnH : ¬ H < k - fr + l.length := by
        intro hh
        rw [if_pos hh] at he
        have := HBAD.out
        rw [he] at this
        cases this
      rw [if_neg hnH] at he
      have HE := Lib.hid he
      have hcmp : decide ((H : Int) < (s.size : Int) - (fr : Int)) = false := decide_eq_false (by omega)
      have p2 := (unhide HS4).has.cell 5 _ rfl
      have fz2 := (unhide HS4).has.free 5 (by simp [dcV])
      clear he hnH HD HN HT HBAD
      go_wp2_with fail
      first | go_end0 | refine bodyPost_ret (results_none rfl _ _ _) rfl ?_
      refine ⟨rfl, .slice ao T.length cap, ?_, ?_, (unhide HS4).but.trans (But.set (fun k => k = d) _ (p := ⟨d, 5, none⟩) rfl _) (fun _ _ e => e)⟩
      · rw [HE.out]; exact (unhide HS4).has.put 5 (.int .i64 0)
      · rw [HE.out]; exact (RdG.own (unhide HS4).row hlt0).but (But.set (fun k => k = d) _ (p := ⟨d, 5, none⟩) rfl _) (Nat.le_refl _)
    · have he := HD.out.trans (tkG_more HN.out n0)
      rw [HT.out] at he
      have hnH : ¬ H < k - fr + n := by
        intro hh
        rw [if_pos hh] at he
        have := HBAD.out
        rw [he] at this
        cases this
      rw [if_neg hnH] at he
      have hcmp : decide ((H : Int) < (k : Int) - (fr : Int) + (n : Int)) = false := decide_eq_false (by omega)
      have hn2' : 2 ≤ n := by omega
      have hdl := drop_lt hf0 hn2' (by omega)
      cases em : t.toList.isEmpty
      · rw [em, if_neg (by decide)] at he
        have hok : lineB t = true := by
          cases hb : lineB t
          · rw [hb, if_pos rfl] at he
            have := HBAD.out
            rw [he] at this
            cases this
          · rfl
        rw [hok, if_neg (by decide)] at he
        have hlc : ¬ C ≤ T.length := by
          intro hh
          rw [if_pos hh] at he
          have := HBAD.out
          rw [he] at this
          cases this
        rw [if_neg hlc] at he
        have HD4 := Lib.hid he
        clear he hnH HD HN HT HBAD n0 hn2
        have hrl0 := rline_any t (by omega) w4
        unfold fldOut at hrl0
        obtain ⟨⟨x, y⟩, hxy⟩ : ∃ r, lineF t = r := ⟨_, rfl⟩
        rw [hok, hxy] at hrl0
        simp only [if_true, errI] at hrl0
        have HRL := hide hrl0
        have HDX := Lib.hid (show tkG L H C (s.size + 1) (s.data.toList.drop fr) 0 [] = tkG L H C f (l.drop n) (k - fr + n) (T ++ [(x, y)]) by rw [HD4.out, hxy])
        clear hrl0 hxy hok HD4
        go_wp2_with fail
        refine (unhide HRL).mono ?_; rintro e w5 ⟨rfl, hb5⟩
        have HS5 := hide ((unhide HS4).call hb5)
        have HGB0 := hide (fun k (e : (Value.slice ao T.length cap).ownBlock = some k) => ((unhide HS5).row.lt k e).2)
        have hdl5 : d < w5.heap.size := (unhide HS5).has.lt
        clear HS4 hb5 HRL p1 p4 zb
        have HF5 := hide (Reg.Has.new w5 [.string ⟨#[]⟩, .string ⟨#[]⟩] 55)
        have HBF5 := hide ((Below.refl w5.heap.size w5).alloc (Nat.le_refl _) (.cells #[.string ⟨#[]⟩, .string ⟨#[]⟩] 55))
        go_upto_region 14 with (refine wpList_storeF rfl _ _ rfl w5.heap.size rfl #[.string x, .string y] rfl rfl _ rfl (unhide HF5) (by kernel_rfl) ?_; intro HZ; have HBZ := below_setCells w5.heap.size (Nat.le_refl _) (#[.string x, .string y] : Array Value).toList 0 _ (unhide HBF5); generalize World.setCells _ w5.heap.size 0 _ = w6 at HZ HBZ ⊢; have HZF := hide HZ; have HBF := hide HBZ; clear HZ HBZ)
        have HS6 := hide ((unhide HS5).call (unhide HBF))
        have HGB := hide (fun k e => (unhide HGB0) k e)
        clear HF5 HBF5 HBF HS5 HGB0
        generalize w5.heap.size = gf at *
        have p8 := (unhide HS6).has.cell 8 _ rfl
        have p2c := (unhide HS6).has.cell 2 _ rfl
        have zb := (unhide HS6).has.lt
        have lb : decide ((C : Int) ≤ (T.length : Int)) = false := decide_eq_false (by omega)
        go_upto_region 16 with fail
        refine Reg.region_more (by kernel_rfl) (by kernel_rfl) ?_
        repeat (go_big_quiet_step (fail))
        refine wpQuiet_nil ?_
        intro w7 hb7; obtain ⟨hc7, hf7, hz7⟩ := bcell hb7; (try simp at hz7)
        have HS7 := hide ((unhide HS6).call hb7)
        have HZ7 := hide ((unhide HZF).call hb7)
        clear hb7 hc7 hf7 hz7 p8 p2c zb HS6 HZF
        go_upto_region 18 with fail
        have p8 := (unhide HS7).has.drew.cell 8 _ rfl
        have fz8 := (unhide HS7).has.drew.free 8 (by simp [dcV])
        have hx0 : ∀ y' : Reg.Kp (fun w' => Reg.Has w' gf [.string x, .string y]), y'.w.cell? ⟨gf, 0, none⟩ = some (.string x) := fun y' => y'.h.cell 0 _ rfl
        have hx1 : ∀ y' : Reg.Kp (fun w' => Reg.Has w' gf [.string x, .string y]), y'.w.cell? ⟨gf, 1, none⟩ = some (.string y) := fun y' => y'.h.cell 1 _ rfl
        have hkpne : Nonempty (Reg.Kp (fun w' => Reg.Has w' gf [.string x, .string y])) := ⟨⟨_, (unhide HZ7).drew⟩⟩
        refine Reg.region_plan3 (fun w' => Reg.Has w' gf [.string x, .string y]) (.takes [0, 1, 2, 3, 5] (.two 4 6 (.ones [6, 7, 8, 9, 10] .done) (.ones [4, 7, 8, 9, 10] .done))) (by kernel_rfl) (by kernel_rfl) (by kernel_rfl) (by decide) (by intro o _ c a v w h; generalize o.dst = d at h; cases d <;> exact h) ((unhide HZ7).drew) ?_
        simp only [Reg.Plan3.takes, Reg.Plan3.ones, Reg.wpPlan3, List.getElem?_cons_zero, List.getElem?_cons_succ]
        refine Reg.take_read (by kernel_rfl) ?_
        go_big_quiet_step (fail)
        refine wpQuiet_nil ?_
        refine Reg.take_read (by kernel_rfl) ?_
        go_big_quiet_step (fail)
        refine wpQuiet_nil ?_
        refine Reg.take_nilq _ rfl ?_
        go_big_quiet_step (fail)
        refine wpQuiet_nil ?_
        refine Reg.take_read (by kernel_rfl) ?_
        go_big_quiet_step (fail)
        refine wpQuiet_nil ?_
        refine Reg.take_read (by kernel_rfl) ?_
        go_big_quiet_step (fail)
        refine wpQuiet_nil ?_
        have HZR := hide ((unhide HZ7).drew)
        have zb7 := (unhide HS7).has.lt
        refine ⟨?_, ?_⟩
        · skip
          (try simp only [Reg.wpOne])
          go_wp2_with (fail)
          refine Reg.thenQ_mk ⟨⟨_, unhide HZR⟩, rfl⟩ ?_
          (try dsimp only)
          (try simp only [Reg.wpOne])
          go_wp2_with (fail)
          refine Reg.thenQ_mk ⟨⟨_, ((unhide HZ7).alloc _).drew⟩, rfl⟩ ?_
          (try dsimp only)
          have HDA := hide (((unhide HS7).call ((Below.refl _ _).alloc (Nat.le_refl _) (.cells #[.string x, .string y] 55))).call ((Below.refl _ _).drew))
          have HZA := hide (((unhide HZ7).alloc (.cells #[.string x, .string y] 55)).drew)
          have HNA := hide ((Reg.Has.new w7 [.string x, .string y] 55).drew)
          have hbA : w.heap.size ≤ (w7.alloc (.cells #[.string x, .string y] 55)).drew.heap.size := (unhide HDA).but.size
          have HBA := hide hbA
          clear p8 fz8 zb7 HS7 HZ7 hbA hx0 hx1 hkpne HZR
          generalize (w7.alloc (.cells #[.string x, .string y] 55)).drew = wA at *
          (try simp only [Reg.wpOne])
          go_wp2_with (refine wpList_pushFW rfl _ _ rfl w.heap.size (.slice ao T.length cap) T rfl (unhide HDA).row (x, y) _ _ (unhide HNA) rfl (by omega) (unhide HBA) ?_; intro tr' w8 h2 hg hat; obtain ⟨ao', ac', rfl⟩ := (Rd.own h2).form; have HS2 := hide ((unhide HDA).push (x, y) hg h2); have q8 := ((unhide HDA).has_grown hg).cell 8 _ rfl; have v8 := ((unhide HDA).has_grown hg).free 8 (by simp [dcV]); have zq := ((unhide HDA).has_grown hg).lt; have HZ8 := hide ((But.grown (S := fun k => (Value.slice ao T.length cap).ownBlock = some k) hg (fun _ e => e)).has (unhide HZA) (fun e => by have := (unhide HGB) _ e; omega)); clear h2 hg hat)
          refine Reg.thenQ_mk ⟨⟨_, unhide HZ8⟩, rfl⟩ ?_
          (try dsimp only)
          (try simp only [Reg.wpOne])
          go_wp2_with (fail)
          refine Reg.thenQ_mk ⟨⟨_, unhide HZ8⟩, rfl⟩ ?_
          (try dsimp only)
          (try simp only [Reg.wpOne])
          go_wp2_with (fail)
          refine Reg.thenQ_mk ⟨⟨_, unhide HZ8⟩, rfl⟩ ?_
          (try dsimp only)
          (try simp only [Reg.wpOne])
          go_wp2_with (fail)
          refine Reg.thenQ_mk ⟨⟨_, (unhide HZ8).other (show d ≠ gf by omega) _⟩, rfl⟩ ?_
          (try dsimp only)
          have HS9 := hide (unhide HS2)
          clear q8 v8 zq HS2
          generalize w8.setCell ⟨d, 8, none⟩ _ = w9 at HS9 ⊢
          go_wp2_with fail
          go_roundw
          case rel => exact ⟨k + n, f, T ++ [(x, y)], .slice ao' (T.length + 1) ac', by go_num, by omega, by omega, by rw [← (unhide HDR)]; exact hdl, by rw [← (unhide HDR), show k + n - fr = k - fr + n by omega]; exact HDX.out, unhide HS9, by simp; omega⟩
          case measure => simp [intOf]; omega
        · skip
          (try simp only [Reg.wpOne])
          go_wp2_with (fail)
          refine Reg.thenQ_mk ⟨⟨_, ((unhide HZ7).alloc _).drew⟩, rfl⟩ ?_
          (try dsimp only)
          have p8A := ((unhide HS7).has.alloc (.cells #[.string x, .string y] 55)).cell 8 _ rfl
          (try simp only [Reg.wpOne])
          go_wp2_with (fail)
          refine Reg.thenQ_mk ⟨⟨_, ((unhide HZ7).alloc _).drew⟩, rfl⟩ ?_
          (try dsimp only)
          clear p8A
          have HDA := hide (((unhide HS7).call ((Below.refl _ _).alloc (Nat.le_refl _) (.cells #[.string x, .string y] 55))).call ((Below.refl _ _).drew))
          have HZA := hide (((unhide HZ7).alloc (.cells #[.string x, .string y] 55)).drew)
          have HNA := hide ((Reg.Has.new w7 [.string x, .string y] 55).drew)
          have hbA : w.heap.size ≤ (w7.alloc (.cells #[.string x, .string y] 55)).drew.heap.size := (unhide HDA).but.size
          have HBA := hide hbA
          clear p8 fz8 zb7 HS7 HZ7 hbA hx0 hx1 hkpne HZR
          generalize (w7.alloc (.cells #[.string x, .string y] 55)).drew = wA at *
          (try simp only [Reg.wpOne])
          go_wp2_with (refine wpList_pushFW rfl _ _ rfl w.heap.size (.slice ao T.length cap) T rfl (unhide HDA).row (x, y) _ _ (unhide HNA) rfl (by omega) (unhide HBA) ?_; intro tr' w8 h2 hg hat; obtain ⟨ao', ac', rfl⟩ := (Rd.own h2).form; have HS2 := hide ((unhide HDA).push (x, y) hg h2); have q8 := ((unhide HDA).has_grown hg).cell 8 _ rfl; have v8 := ((unhide HDA).has_grown hg).free 8 (by simp [dcV]); have zq := ((unhide HDA).has_grown hg).lt; have HZ8 := hide ((But.grown (S := fun k => (Value.slice ao T.length cap).ownBlock = some k) hg (fun _ e => e)).has (unhide HZA) (fun e => by have := (unhide HGB) _ e; omega)); clear h2 hg hat)
          refine Reg.thenQ_mk ⟨⟨_, unhide HZ8⟩, rfl⟩ ?_
          (try dsimp only)
          (try simp only [Reg.wpOne])
          go_wp2_with (fail)
          refine Reg.thenQ_mk ⟨⟨_, unhide HZ8⟩, rfl⟩ ?_
          (try dsimp only)
          (try simp only [Reg.wpOne])
          go_wp2_with (fail)
          refine Reg.thenQ_mk ⟨⟨_, unhide HZ8⟩, rfl⟩ ?_
          (try dsimp only)
          (try simp only [Reg.wpOne])
          go_wp2_with (fail)
          refine Reg.thenQ_mk ⟨⟨_, (unhide HZ8).other (show d ≠ gf by omega) _⟩, rfl⟩ ?_
          (try dsimp only)
          have HS9 := hide (unhide HS2)
          clear q8 v8 zq HS2
          generalize w8.setCell ⟨d, 8, none⟩ _ = w9 at HS9 ⊢
          go_wp2_with fail
          go_roundw
          case rel => exact ⟨k + n, f, T ++ [(x, y)], .slice ao' (T.length + 1) ac', by go_num, by omega, by omega, by rw [← (unhide HDR)]; exact hdl, by rw [← (unhide HDR), show k + n - fr = k - fr + n by omega]; exact HDX.out, unhide HS9, by simp; omega⟩
          case measure => simp [intOf]; omega
      · rw [em, if_pos rfl] at he
        have HE := Lib.hid he
        have p3 := (unhide HS4).has.cell 6 _ rfl
        have fz3 := (unhide HS4).has.free 6 (by simp [dcV])
        clear he hnH HD HN HT HBAD n0 hn2
        go_wp2_with fail
        first | go_end0 | refine bodyPost_ret (results_none rfl _ _ _) rfl ?_
        refine ⟨rfl, .slice ao T.length cap, ?_, ?_, (unhide HS4).but.trans (But.set (fun k => k = d) _ (p := ⟨d, 6, none⟩) rfl _) (fun _ _ e => e)⟩
        · rw [HE.out]; exact (unhide HS4).has.put 6 (.bool true)
        · rw [HE.out]; exact (RdG.own (unhide HS4).row hlt0).but (But.set (fun k => k = d) _ (p := ⟨d, 6, none⟩) rfl _) (Nat.le_refl _)
end Go.Proofs.YtbpopmbabckojaaGreatDoor.Sp
end

/- Digits by sixteen, their numbers: chunk.hex, the reference's hex, strconv.ParseUint at base 16. -/
section
namespace Go.Proofs.YtbpopmbabckojaaGreatDoor.Sp
open Go.RowKit Sl

def hexI (c : Int) : Bool := decide ((48 ≤ c ∧ c ≤ 57) ∨ (97 ≤ c ∧ c ≤ 102) ∨ (65 ≤ c ∧ c ≤ 70))
theorem hexI_B (c : UInt8) : hexI c.toNat = hexB c := by
  have := byte_all (fun c => hexI c.toNat == hexB c) (by decide +kernel) c
  simpa using this

def lwN (c : UInt8) : Nat := (bits BinOp.or IntKind.u8 c.toNat 32).toNat
theorem lwN_eq (c : UInt8) : bits BinOp.or IntKind.u8 c.toNat 32 = (lwN c : Int) := by
  have := byte_all (fun c => bits BinOp.or IntKind.u8 c.toNat 32 == (lwN c : Int)) (by decide +kernel) c
  simpa using this
theorem hex_cases (c : UInt8) (h : hexB c = true) : (48 ≤ c.toNat ∧ c.toNat ≤ 57 ∧ c.toNat = 48 + hexV c) ∨ (¬ c.toNat ≤ 57 ∧ c.toNat ≠ 95 ∧ 97 ≤ lwN c ∧ lwN c ≤ 102 ∧ lwN c = 87 + hexV c) := by
  have := byte_all (fun c => !hexB c || decide ((48 ≤ c.toNat ∧ c.toNat ≤ 57 ∧ c.toNat = 48 + hexV c) ∨ (¬ c.toNat ≤ 57 ∧ c.toNat ≠ 95 ∧ 97 ≤ lwN c ∧ lwN c ≤ 102 ∧ lwN c = 87 + hexV c))) (by decide +kernel) c
  rw [h] at this
  simpa using this
theorem hexN_take (s : ByteArray) (j : Nat) (h : j < s.size) : hexN (s.data.toList.take (j + 1)) = hexN (s.data.toList.take j) * 16 + hexV s[j] := by
  rw [List.take_succ_eq_append_getElem (by simpa using h), hexN_snoc]
  rfl


end Go.Proofs.YtbpopmbabckojaaGreatDoor.Sp
end

/- The size of a size line: chunk.Size. -/
section
namespace Go.Proofs.YtbpopmbabckojaaGreatDoor.Sp
open Go.RowKit Sl

def sizeE (l : List UInt8) (e : Ending) : Prop := e = .returned (.tuple #[.int .i64 (sizeF l).1, .int .i64 (sizeF l).2])
theorem hexP_at (s : ByteArray) (k : Nat) (h : k < s.size) : hexP (s.data.toList.drop k) = if hexB s[k] = true then hexP (s.data.toList.drop (k + 1)) + 1 else 0 := by
  rw [drop_cons s k h, hexP]
theorem sizeF_bad1 {l : List UInt8} (h : hexP l < 1 ∨ 16 < hexP l) : sizeF l = (0, 400) := by
  unfold sizeF sizeK
  rw [if_pos (by rw [decide_eq_true h]; rfl)]
theorem sizeF_bad2 {l : List UInt8} (hne : l.drop (hexP l) ≠ []) (h : (l.drop (hexP l)).head? ≠ some 59 ∨ allS chr (l.drop (hexP l)) = false) : sizeF l = (0, 400) := by
  unfold sizeF sizeK
  have h1 : (l.drop (hexP l)).isEmpty = false := by rw [List.isEmpty_eq_false_iff]; exact hne
  have h2 : ((l.drop (hexP l)).head? == some 59 && allS chr (l.drop (hexP l))) = false := by
    rcases h with h | h
    · rw [show ((l.drop (hexP l)).head? == some 59) = false by simpa using h]; rfl
    · rw [h, Bool.and_false]
  rw [if_pos (by rw [h1, h2]; simp)]
theorem sizeF_good {l : List UInt8} (h1 : ¬ (hexP l < 1 ∨ 16 < hexP l)) (h3 : l.drop (hexP l) = [] ∨ ((l.drop (hexP l)).head? = some 59 ∧ allS chr (l.drop (hexP l)) = true)) :
    sizeF l = if 9007199254740991 < hexN (l.take (hexP l)) then (0, 413) else (hexN (l.take (hexP l)), 0) := by
  have h : sizeK l = false := by
    unfold sizeK
    rw [decide_eq_false h1, Bool.false_or]
    rcases h3 with h | ⟨h, h'⟩
    · rw [h]; rfl
    · rw [h, h']; simp
  unfold sizeF
  rw [h, if_neg (by simp)]

end Go.Proofs.YtbpopmbabckojaaGreatDoor.Sp
end
