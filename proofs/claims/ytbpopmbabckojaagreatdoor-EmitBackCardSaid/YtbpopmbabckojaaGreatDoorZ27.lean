/- Lemmas for the statement's proof, several texts in one: Q10. -/
import Derived.Test.YtbpopmbabckojaaGreatDoorZ26
import Derived.Test.YtbpopmbabckojaaGreatDoorZ13
set_option linter.unusedVariables false
set_option linter.unusedSimpArgs false
/- The reference's parser: New, Expect, Next; the law's limits. -/
section
namespace Go.Proofs.YtbpopmbabckojaaGreatDoor.Sp
open Go.RowKit Sl

/-- a decoder's cells, of the reference -/
def dcV (L H C B : Nat) (s : ByteArray) (bad : Int) (en : Bool) (out : ByteArray) (bh : Value) : List Value :=
  [.int .i64 L, .int .i64 H, .int .i64 C, .int .i64 B, .string s, .int .i64 bad, .bool en, .string out, bh]
theorem max_cast (n : Nat) : max 0 (n : Int) = (n : Int) := by omega
theorem range_first {w : World} {b : Nat} {xs ys : List Value} (h : Reg.Has w b (xs ++ ys)) : w.rangeAt b 0 xs := fun j v hv => by
  have hj := (List.getElem?_eq_some_iff.1 hv).1
  rw [Nat.zero_add]
  exact h.cell j v (by rw [List.getElem?_append_left hj]; exact hv)

set_option maxRecDepth 100000 in
set_option maxHeartbeats 2000000 in
theorem new5_any (w : World) (L H C B : Nat) :
    Calls Tryz.prog 42 #[.agg #[.int .i64 L, .int .i64 H, .int .i64 C, .int .i64 B]] w fun e w' => e = .returned (.pointer (some ⟨w.heap.size + 1, 0, none⟩)) ∧
      Reg.Has w' (w.heap.size + 1) (dcV L H C B ⟨#[]⟩ 0 false ⟨#[]⟩ (.slice none 0 0)) ∧ Below w.heap.size w w' := by
  have m1 := max_cast L
  have m2 := max_cast H
  have m3 := max_cast C
  have m4 := max_cast B
  go_enter Tryz.func42, Tryz.ntmps42
  go_wp2_with fail
  go_ret
  have hD : Reg.Has ((w.alloc (.cells #[.int .i64 L, .int .i64 H, .int .i64 C, .int .i64 B] 34)).alloc (.cells (dcV L H C B ⟨#[]⟩ 0 false ⟨#[]⟩ (.slice none 0 0)).toArray 72)) (w.heap.size + 1) (dcV L H C B ⟨#[]⟩ 0 false ⟨#[]⟩ (.slice none 0 0)) := Reg.Has.at _ _ _ _ (by simp)
  exact ⟨rfl, hD, ((Below.refl w.heap.size w).alloc (Nat.le_refl _) _).alloc (by simp) _⟩

set_option maxRecDepth 100000 in
set_option maxHeartbeats 2000000 in
theorem new6_any (w : World) (L H C B : Nat) (resp : Bool) :
    Calls Tryz.prog 12 #[.agg #[.int .i64 L, .int .i64 H, .int .i64 C, .int .i64 B], .bool resp] w fun e w' =>
      ∃ b, e = .returned (.pointer (some ⟨b, 0, none⟩)) ∧ w.heap.size ≤ b ∧ PSt w' b L H C B resp (.slice none 0 0) ⟨#[]⟩ ∧ Below w.heap.size w w' := by
  have HL := hide (Reg.Has.new w [.int .i64 L, .int .i64 H, .int .i64 C, .int .i64 B] 34)
  have HB := hide ((Below.refl w.heap.size w).alloc (Nat.le_refl _) (.cells #[.int .i64 L, .int .i64 H, .int .i64 C, .int .i64 B] 34))
  have qn := hide (fun w => new5_any w L H C B)
  go_enter Tryz.func12, Tryz.ntmps12
  go_upto_region 1 with fail
  generalize w.alloc (.cells #[.int .i64 L, .int .i64 H, .int .i64 C, .int .i64 B] 34) = w0 at HL HB ⊢
  go_wp2_with (refine wpList_load_mid rfl 34 _ rfl w.heap.size 0 rfl [.int .i64 L, .int .i64 H, .int .i64 C, .int .i64 B] _ (has_range (unhide HL)) Tryz.underlying34 rfl (by kernel_rfl) ?_)
  refine (unhide qn _).mono ?_; rintro e w1 ⟨rfl, hd, hb1⟩
  have HD := hide hd
  have HB1 := hide ((unhide HB).trans (hb1.mono (unhide HB).size))
  have zz := hd.lt
  clear hd hb1
  generalize w0.heap.size + 1 = bd at HD zz ⊢
  go_wp2_with (refine wpList_load_mid rfl 34 _ rfl bd 0 rfl [.int .i64 L, .int .i64 H, .int .i64 C, .int .i64 B] _ (range_first (ys := [.string ⟨#[]⟩, .int .i64 0, .bool false, .string ⟨#[]⟩, .slice none 0 0]) (unhide HD)) Tryz.underlying34 rfl (by kernel_rfl) ?_)
  go_ret
  have hP : PSt (w1.alloc (.cells (parV L H C B resp (.slice none 0 0) ⟨#[]⟩ false ⟨#[]⟩ ⟨#[]⟩ 0 ⟨#[]⟩ 0 (.slice none 0 0) ⟨#[]⟩ (.slice none 0 0) 0).toArray 76)) w1.heap.size L H C B resp (.slice none 0 0) ⟨#[]⟩ := Reg.Has.new _ _ _
  exact ⟨w1.heap.size, rfl, (unhide HB1).size, hP, (unhide HB1).alloc (unhide HB1).size _⟩

set_option maxRecDepth 100000 in
set_option maxHeartbeats 2000000 in
theorem expect_any (w : World) (b L H C B : Nat) (m : ByteArray) (hm : m.size ≤ 1000000) (ht : tokenS m.data.toList = true) (hp : PSt w b L H C B true (.slice none 0 0) ⟨#[]⟩) :
    Calls Tryz.prog 14 #[.pointer (some ⟨b, 0, none⟩), .string m] w fun e w' => e = .returned (.int .i64 0) ∧
      ∃ ak, PSt w' b L H C B true ak ⟨#[]⟩ ∧ AskAt w' b ak m ∧ But (fun k => k = b) w w' := by
  have q := hide (fun w => rtoken_any m (by omega) w)
  rw [ht] at q
  have p4 := hp.cell 4 _ rfl
  have p5 := hp.cell 5 _ rfl
  have u5 := hp.free 5 (by simp [parV])
  have zb := hp.lt
  have HP := hide hp
  clear hp ht
  go_enter Tryz.func14, Tryz.ntmps14
  go_wp2_with fail
  refine (unhide q _).mono ?_; rintro e w1 ⟨rfl, rfl⟩
  have HO := hide ((Own.start w w.heap.size (Nat.le_refl _) 9 1))
  go_wp2_with (at_builtin; refine wpList_pushS (w0 := w) rfl _ _ rfl w.heap.size _ _ _ rfl (unhide HO) m rfl _ rfl (by omega) ?_; intro v' w2 h2; obtain ⟨ao', cp', rfl⟩ := (Rd.own h2.own).form; have q5 := (h2.bel.cell (p := ⟨b, 5, none⟩) zb).trans p5; have v5 := (h2.bel.frozen (p := ⟨b, 5, none⟩) zb).trans u5; have zq := Nat.lt_of_lt_of_le zb h2.bel.size; have H2 := hide h2; clear h2 p5 u5)
  go_ret
  have h2 := unhide H2
  have hp2 := (unhide HP).call h2.bel
  have hp3 := hp2.put 5 (.slice ao' (0 + 1) cp')
  have hu2 := (But.of_below (S := fun k => k = b) h2.bel).trans (But.set (fun k => k = b) w2 (p := ⟨b, 5, none⟩) rfl (.slice ao' (0 + 1) cp')) (fun _ _ e => e)
  obtain ⟨g, off, rfl, hg, hc⟩ := str_cell (L := [m]) (Rd.own h2.own) 0 (by simp)
  have hgb : w.heap.size ≤ g := (h2.own.lt g rfl).1
  obtain ⟨ao2, cap2, e2, hcp2, _⟩ := Rd.own h2.own
  refine ⟨rfl, _, hp3, ?_, hu2⟩
  have hlt : g < (w2.setCell ⟨b, 5, none⟩ (.slice (some ⟨g, off, none⟩) (0 + 1) cp')).heap.size := by simpa [World.setCell] using hg
  refine ⟨g, off, 0, cp', rfl, ?_, by omega, hlt, ?_⟩
  · cases e2; exact hcp2
  · rw [World.cell?_setCell_other _ _ _ _ (by first | (simp; done) | (simp; omega))]
    exact hc

/-- the message that waits, handed out -/
def NextO (b L H C B : Nat) (resp : Bool) (h : Hd) (bo : ByteArray) (T : List Fld) (w : World) (e : Ending) (w' : World) : Prop :=
  ∃ ak fs tr, e = .returned (.tuple #[.agg (msgV h.me h.ta h.st h.re h.mi fs bo tr), .bool true]) ∧ Rd w' fs h.F.length 2 (fldV h.F) ∧ Rd w' tr T.length 2 (fldV T) ∧ PSt w' b L H C B resp ak ⟨#[]⟩ ∧ But (fun k => k = b) w w'
set_option maxRecDepth 100000 in
set_option maxHeartbeats 4000000 in
theorem next_any (w : World) (b L H C B : Nat) (resp : Bool) (h : Hd) (bo : ByteArray) (T : List Fld) (hd : DoneAt w b L H C B resp h bo T) :
    Calls Tryz.prog 16 #[.pointer (some ⟨b, 0, none⟩)] w (NextO b L H C B resp h bo T w) := by
  obtain ⟨ak, fs, tr, hp, hf, ht⟩ := hd
  obtain ⟨ao, c1, rfl⟩ := hf.1.form
  obtain ⟨bo', c2, rfl⟩ := ht.1.form
  obtain ⟨me, ta, re, st, mi, F⟩ := h
  simp only at hp hf ⊢
  have HF := hide hf
  have HT := hide ht
  have zb := hp.lt
  have hne : w.heap.size ≠ b := by omega
  have HP0 := hide (hp.alloc (.cells zeroM.toArray 24))
  have HR0 := hide (Reg.Has.new w zeroM 24)
  have HB0 := hide ((Below.refl w.heap.size w).alloc (Nat.le_refl _) (.cells zeroM.toArray 24))
  clear hp hf ht
  unfold zeroM at HP0 HR0 HB0
  go_enter Tryz.func16, Tryz.ntmps16
  go_upto_region 1 with fail
  generalize w.alloc _ = w0 at HP0 HR0 HB0 ⊢
  have hx7 : ∀ y : Reg.Kp (fun w' => Reg.Has w' b (parV L H C B resp ak ⟨#[]⟩ true me ta st re mi (.slice ao F.length c1) bo (.slice bo' T.length c2) 0)), y.w.cell? ⟨b, 7, none⟩ = some (.bool true) := fun y => y.h.cell 7 _ rfl
  have hkpne : Nonempty (Reg.Kp (fun w' => Reg.Has w' b (parV L H C B resp ak ⟨#[]⟩ true me ta st re mi (.slice ao F.length c1) bo (.slice bo' T.length c2) 0))) := ⟨⟨_, (unhide HP0).drew⟩⟩
  refine Reg.region_plan3 (fun w' => Reg.Has w' b (parV L H C B resp ak ⟨#[]⟩ true me ta st re mi (.slice ao F.length c1) bo (.slice bo' T.length c2) 0)) (.takes [0, 4, 1, 5, 2, 6, 7, 3] (.ones [8, 9, 10] .done)) (by kernel_rfl) (by kernel_rfl) (by kernel_rfl) (by decide) (by intro o _ c a v w h; generalize o.dst = d at h; cases d <;> exact h) ((unhide HP0).drew) ?_
  simp only [Reg.Plan3.takes, Reg.Plan3.ones, Reg.wpPlan3, List.getElem?_cons_zero, List.getElem?_cons_succ]
  refine Reg.take_read (by kernel_rfl) ?_
  go_big_quiet_step (fail)
  refine wpQuiet_nil ?_
  refine Reg.take_read (by kernel_rfl) ?_
  go_big_quiet_step (fail)
  refine wpQuiet_nil ?_
  refine Reg.take_nilq _ rfl ?_
  go_big_quiet_step (fail)
  refine wpQuiet_nil ?_
  refine Reg.take_nilq _ rfl ?_
  go_big_quiet_step (fail)
  refine wpQuiet_nil ?_
  refine Reg.take_read (by kernel_rfl) ?_
  go_big_quiet_step (fail)
  refine wpQuiet_nil ?_
  refine Reg.take_read (by kernel_rfl) ?_
  go_big_quiet_step (fail)
  refine wpQuiet_nil ?_
  refine Reg.take_read (by kernel_rfl) ?_
  go_big_quiet_step (fail)
  refine wpQuiet_nil ?_
  refine ⟨_, yieldsIf_load_mid rfl 24 _ rfl b 8 rfl [.string me, .string ta, .int .i64 st, .string re, .int .i64 mi, .slice ao F.length c1, .string bo, .slice bo' T.length c2] _ (fun w' ⟨x, hx⟩ => by subst hx; exact par_range x.h) Tryz.underlying24 rfl (by rw [infoM]; rfl), ?_⟩
  have HP1 := hide (unhide HP0).drew
  have HR1 := hide (unhide HR0).drew
  have HB1 := hide (unhide HB0).drew
  clear HP0 HR0 HB0
  generalize w0.drew = w1 at HP1 HR1 HB1 ⊢
  have hg1 : w.heap.size < w1.heap.size := (unhide HR1).lt
  have HN1 := hide (Reg.Has.new w1 [.string ⟨#[]⟩, .string ⟨#[]⟩, .int .i64 0, .string ⟨#[]⟩, .int .i64 0, .slice none 0 0, .string ⟨#[]⟩, .slice none 0 0] 24)
  have HP2 := hide ((unhide HP1).alloc (.cells #[.string ⟨#[]⟩, .string ⟨#[]⟩, .int .i64 0, .string ⟨#[]⟩, .int .i64 0, .slice none 0 0, .string ⟨#[]⟩, .slice none 0 0] 24))
  have HR2 := hide ((unhide HR1).alloc (.cells #[.string ⟨#[]⟩, .string ⟨#[]⟩, .int .i64 0, .string ⟨#[]⟩, .int .i64 0, .slice none 0 0, .string ⟨#[]⟩, .slice none 0 0] 24))
  have HB2 := hide ((unhide HB1).alloc (Nat.le_of_lt hg1) (.cells #[.string ⟨#[]⟩, .string ⟨#[]⟩, .int .i64 0, .string ⟨#[]⟩, .int .i64 0, .slice none 0 0, .string ⟨#[]⟩, .slice none 0 0] 24))
  (try simp only [Reg.wpOne])
  go_wp2_with (fail)
  refine Reg.thenQ_mk ⟨⟨_, unhide HP2⟩, rfl⟩ ?_
  (try dsimp only)
  (try simp only [Reg.wpOne])
  go_wp2_with ((refine wpList_storeM rfl _ _ rfl w1.heap.size rfl #[.string me, .string ta, .int .i64 st, .string re, .int .i64 mi, .slice ao F.length c1, .string bo, .slice bo' T.length c2] rfl rfl _ rfl (unhide HN1) (by kernel_rfl) ?_; intro HZ; have hu := But.cells (b := w1.heap.size) (#[.string me, .string ta, .int .i64 st, .string re, .int .i64 mi, .slice ao F.length c1, .string bo, .slice bo' T.length c2] : Array Value).toList 0 (w1.alloc (.cells #[.string ⟨#[]⟩, .string ⟨#[]⟩, .int .i64 0, .string ⟨#[]⟩, .int .i64 0, .slice none 0 0, .string ⟨#[]⟩, .slice none 0 0] 24)); have HM3 := hide HZ; have HP3 := hide (hu.has (unhide HP2) (fun e => by have : b = w1.heap.size := e; omega)); have HR3 := hide (hu.has (unhide HR2) (fun e => by have : w.heap.size = w1.heap.size := e; omega)); have HB3 := hide (below_setCells w1.heap.size (Nat.le_of_lt hg1) (#[.string me, .string ta, .int .i64 st, .string re, .int .i64 mi, .slice ao F.length c1, .string bo, .slice bo' T.length c2] : Array Value).toList 0 _ (unhide HB2)); clear hu; generalize World.setCells _ w1.heap.size 0 _ = w3 at HZ HM3 HP3 HR3 HB3 ⊢; clear HZ))
  refine Reg.thenQ_mk ⟨⟨_, unhide HP3⟩, rfl⟩ ?_
  (try dsimp only)
  (try simp only [Reg.wpOne])
  go_wp2_with (fail)
  refine Reg.thenQ_mk ⟨⟨_, unhide HP3⟩, rfl⟩ ?_
  (try dsimp only)
  clear HP1 HR1 HB1 HN1 HP2 HR2 HB2
  have zb3 := (unhide HP3).lt
  go_upto_region 3 with (refine wpList_store_mid rfl 24 _ _ rfl b 8 #[.string ⟨#[]⟩, .string ⟨#[]⟩, .int .i64 0, .string ⟨#[]⟩, .int .i64 0, .slice none 0 0, .string ⟨#[]⟩, .slice none 0 0] rfl rfl (par_there (unhide HP3)) (by rw [infoM]; rfl) (by kernel_rfl) ?_; have hq1 := par_put (unhide HP3) ⟨#[]⟩ ⟨#[]⟩ ⟨#[]⟩ ⟨#[]⟩ 0 0 (.slice none 0 0) (.slice none 0 0); have hq2 := But.cells (b := b) (#[.string ⟨#[]⟩, .string ⟨#[]⟩, .int .i64 0, .string ⟨#[]⟩, .int .i64 0, .slice none 0 0, .string ⟨#[]⟩, .slice none 0 0] : Array Value).toList 8 w3; generalize World.setCells _ b 8 _ = w4 at hq1 hq2 ⊢; have HP4 := hide hq1; have HU4 := hide hq2; have q7 := hq1.cell 7 _ rfl; have v7 := hq1.free 7 (by simp [parV]); have zq := hq1.lt; clear hq1 hq2)
  have HP5 := hide ((unhide HP4).put 7 (.bool false))
  have HU5 := hide ((unhide HU4).trans (But.set (fun k => k = b) _ (p := ⟨b, 7, none⟩) rfl (.bool false)) (fun _ _ e => e))
  generalize World.setCell _ ⟨b, 7, none⟩ _ = w5 at HP5 HU5 ⊢
  clear q7 v7 zq HP4 HU4
  have HM5 := hide ((unhide HU5).has (unhide HM3) (fun e => by have : w1.heap.size = b := e; omega))
  have HR5 := hide ((unhide HU5).has (unhide HR3) hne)
  have HU := hide ((But.of_below (S := fun k => k = b) (unhide HB3)).trans (unhide HU5) (fun _ _ e => e))
  have hwz : w.heap.size ≤ w5.heap.size := (unhide HU).size
  go_wp2_with (first
    | (refine wpList_loadM rfl _ rfl w1.heap.size rfl _ rfl (unhide HM5) ?_)
    | (refine wpList_storeM rfl _ _ rfl w.heap.size rfl #[.string me, .string ta, .int .i64 st, .string re, .int .i64 mi, .slice ao F.length c1, .string bo, .slice bo' T.length c2] rfl rfl _ rfl (unhide HR5) (by kernel_rfl) ?_; intro HZ; have hu := But.cells (b := w.heap.size) (#[.string me, .string ta, .int .i64 st, .string re, .int .i64 mi, .slice ao F.length c1, .string bo, .slice bo' T.length c2] : Array Value).toList 0 w5; generalize World.setCells _ w.heap.size 0 _ = w9 at HZ hu ⊢; have ZZ := hide HZ; have HU9 := hide hu; clear HZ hu))
  have hrl := run_loadM w.heap.size #[.string me, .string ta, .int .i64 st, .string re, .int .i64 mi, .slice ao F.length c1, .string bo, .slice bo' T.length c2] rfl (unhide ZZ)
  have hu9 : But (fun k => k = b) w w9 := (unhide HU).trans (unhide HU9) (fun i hi e => by have : i = w.heap.size := e; omega)
  exact bodyPost_ret (Mem.results_cell2 (ad := ⟨w.heap.size, 0, none⟩) Tryz.results16 rfl hrl) rfl ⟨ak, _, _, rfl, ((unhide HF).but hu9).1, ((unhide HT).but hu9).1, (unhide HU9).has (unhide HP5) (fun e => by have : b = w.heap.size := e; omega), hu9⟩
end Go.Proofs.YtbpopmbabckojaaGreatDoor.Sp
end
