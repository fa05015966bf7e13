/- Lemmas for the statement's proof, several texts in one: P1, K2, P5, P6, P7, P8. -/
import Derived.Test.YtkaaeajidejchaaGreatDoorZ06
import Derived.Test.YtkaaeajidejchaaGreatDoorZ04
import Derived.Defers
import Derived.Recover
/- The decoder: eat, take. -/
namespace Go.Proofs.YtkaaeajidejchaaGreatDoor.Sp
open Go.RowKit Sl

/-- a flaw, as a panic -/
def flawE (n : Nat) : Ending := .panicked [{ v := .iface 59 (.int .i64 n), recovered := false }]
/-- eat's end -/
def eatE (r : Nat × Bool) (e : Ending) : Prop := e = if r.1 ≠ 0 then flawE r.1 else .returned (.bool r.2)
theorem own_some {w : World} {base n : Nat} {v : Value} {L : List UInt8} (h : w.ownsRow base 5 1 v n (Mem.bytesV L)) (hL : L ≠ []) :
    ∃ g cp, v = .slice (some ⟨g, 0, none⟩) n cp ∧ n ≤ cp ∧ ∀ i (hi : i < L.length), w.cell? ⟨g, i, none⟩ = some (.int .u8 L[i].toNat) := by
  obtain ⟨ao, cp, rfl, hcp, _, hl, hc⟩ := Rd.own h
  obtain ⟨g, off, rfl, _, hcc⟩ := hc (by intro e; have := congrArg List.length e; rw [Mem.bytesV_len] at this; exact hL (List.eq_nil_of_length_eq_zero this))
  obtain rfl : off = 0 := by
    rcases h.2 with ⟨e, _⟩ | ⟨g', _, _, e, _⟩ <;> simp at e
    exact e.1.2
  refine ⟨g, cp, rfl, hcp, fun i hi => ?_⟩
  have := hcc i _ (Mem.bytesV_get L i hi)
  rwa [Nat.zero_add] at this
theorem own_cell {w : World} {base g n cp m : Nat} {L : List UInt8} (h : w.ownsRow base 5 1 (.slice (some ⟨g, 0, none⟩) n cp) m (Mem.bytesV L)) (i : Nat) (hi : i < L.length) : w.cell? ⟨g, i, none⟩ = some (.int .u8 L[i].toNat) := by
  have := h.cells (g := g) rfl i _ (Mem.bytesV_get L i hi)
  rwa [Addr.add_mid, Nat.zero_add] at this

set_option maxRecDepth 100000 in
set_option maxHeartbeats 2000000 in
theorem eat_any (w : World) (base b : Nat) (nx : Value) (d : Dec) (ln bd tr : Value) (c : UInt8) (h : DecAt w base b nx d ln bd tr) (hl : d.line.length ≤ 1000000) (hbase : base ≤ w.heap.size) :
    Calls Tryz.prog 41 #[.pointer (some ⟨b, 0, none⟩), .int .u8 c.toNat] w fun e w' => eatE (eatS d.L d.line c) e ∧ ∃ ln', DecAt w' base b nx { d with line := d.line ++ [c] } ln' bd tr ∧ Moves b w ln bd tr w' ln' bd tr := by
  have HD := hide h
  have p5 := h.has.cell 5 _ rfl
  have u5 := h.has.free 5 (by simp [decV])
  have zb := h.has.lt
  have HA := hide (h.alloc (.cells #[.int .u8 c.toNat] 5))
  obtain ⟨k, hk⟩ : ∃ k, d.line.length = k := ⟨_, rfl⟩
  rw [hk] at hl
  have HK := Lib.hid hk
  clear h hk
  go_enter Tryz.func41, Tryz.ntmps41
  go_upto_region 2 with (refine wpList_pushBAt rfl _ _ rfl base ln d.line k HK.out rfl (unhide HD).line c rfl _ rfl hl hbase ?_; intro ln' w1 h2 hg hat; obtain ⟨g, cp, rfl, hcp, hcl⟩ := own_some h2 (by simp); have HS := hide ((unhide HA).setLine (d.line ++ [c]) hg (by rw [List.length_append, HK.out]; exact h2) hat); have q5 := ((unhide HA).has_line hg).cell 5 _ rfl; have v5 := ((unhide HA).has_line hg).free 5 (by simp [decV]); clear h2 hg hat)
  obtain ⟨HD2, HM2⟩ := unhide HS
  have HM3 := hide (Moves.after ((Below.refl _ _).alloc (Nat.le_refl _) _) HM2)
  clear HS q5 v5 hcl HM2 HA HD p5 u5
  have p0 := HD2.has.cell 0 _ rfl
  have p5 := HD2.has.cell 5 _ rfl
  have hcl := fun i (hi : i < d.line.length) => own_cell HD2.line i (by simp; omega)
  have HE := hide HD2
  clear HD2
  generalize w1.setCell ⟨b, 5, none⟩ _ = w2 at HE HM3 p0 p5 hcl ⊢
  simp only at p0 p5
  clear hcp hbase zb
  by_cases g1 : d.L < k + 1
  · have he : eatS d.L d.line c = (400, false) := by unfold eatS; rw [if_pos (by rw [HK.out]; exact g1)]
    have HQ := Lib.hid he
    have g2 : (d.L : Int) < (k : Int) + 1 := by omega
    clear he hcl g1
    go_wp2_with fail
    exact ⟨rfl, by unfold eatE; rw [HQ.out]; rfl, _, unhide HE, unhide HM3⟩
  · have g2 : ¬ (d.L : Int) < (k : Int) + 1 := by omega
    rcases Nat.eq_zero_or_pos k with h0 | h0
    · have h1 : d.line = [] := List.eq_nil_of_length_eq_zero (by rw [HK.out, h0])
      have k1 : ¬ (1 : Int) < (k : Int) + 1 := by omega
      have k2 : decide ((1 : Int) < (k : Int) + 1) = false := decide_eq_false k1
      clear hcl h0
      by_cases hc : c = 10
      · have c1 : ((c.toNat : Int) == 10) = true := by rw [hc]; rfl
        have HQ := Lib.hid (show eatS d.L d.line c = (400, false) by unfold eatS; rw [if_neg (by rw [HK.out]; exact g1), h1, hc]; rfl)
        clear hc h1 g1
        go_wp2_with fail
        exact ⟨rfl, by unfold eatE; rw [HQ.out]; rfl, _, unhide HE, unhide HM3⟩
      · have c1 : ((c.toNat : Int) == 10) = false := by
          rw [beq_eq_false_iff_ne]; intro e; exact hc (u8_eq (n := 10) e)
        by_cases g3 : d.L ≤ k + 1
        · have g4 : (d.L : Int) ≤ (k : Int) + 1 := by omega
          have HQ := Lib.hid (show eatS d.L d.line c = (400, false) by unfold eatS; rw [if_neg (by rw [HK.out]; exact g1), h1, if_neg (by simp [hc]), if_neg hc, if_pos (by rw [← h1, HK.out]; exact g3)])
          clear hc h1 g1 g3
          go_wp2_with fail
          exact ⟨rfl, by unfold eatE; rw [HQ.out]; rfl, _, unhide HE, unhide HM3⟩
        · have g4 : ¬ (d.L : Int) ≤ (k : Int) + 1 := by omega
          have HQ := Lib.hid (show eatS d.L d.line c = (0, false) by unfold eatS; rw [if_neg (by rw [HK.out]; exact g1), h1, if_neg (by simp [hc]), if_neg hc, if_neg (by rw [← h1, HK.out]; exact g3)])
          clear hc h1 g1 g3
          go_wp2_with fail
          go_ret
          exact ⟨by unfold eatE; rw [HQ.out]; rfl, _, unhide HE, unhide HM3⟩
    · obtain ⟨j, rfl⟩ : ∃ j, k = j + 1 := ⟨k - 1, by omega⟩
      have hj : j < d.line.length := by rw [HK.out]; omega
      have hx := hcl j hj
      rw [List.getElem_append_left hj] at hx
      have hlast : d.line.getLast? = some d.line[j] := by rw [List.getLast?_eq_getElem?, HK.out, Nat.add_sub_cancel, List.getElem?_eq_getElem hj]
      obtain ⟨x, hxx⟩ : ∃ x, d.line[j] = x := ⟨_, rfl⟩
      rw [hxx] at hx hlast
      have k1 : (1 : Int) < ((j + 1 : Nat) : Int) + 1 := by omega
      have k2 : decide ((1 : Int) < ((j + 1 : Nat) : Int) + 1) = true := decide_eq_true k1
      have k3 : (1 : Int) < (j : Int) + 1 + 1 := by omega
      have k4 : decide ((1 : Int) < (j : Int) + 1 + 1) = true := decide_eq_true k3
      have k5 : ((j : Int) + 1 + 1) - 2 = (j : Int) := by omega
      have k6 : (((j + 1 : Nat) : Int) + 1) - 2 = (j : Int) := by omega
      have k7 : (0 : Int) ≤ (j : Int) ∧ (j : Int) < (j : Int) + 1 + 1 := by omega
      have g5 : ¬ (d.L : Int) < (j : Int) + 1 + 1 := by omega
      clear hcl h0 hxx hj
      by_cases hx13 : x = 13
      · have x1 : ((x.toNat : Int) == 13) = true := by rw [hx13]; rfl
        by_cases hc : c = 10
        · have c1 : ((c.toNat : Int) == 10) = true := by rw [hc]; rfl
          have HQ := Lib.hid (show eatS d.L d.line c = (0, true) by unfold eatS; rw [if_neg (by rw [HK.out]; exact g1), hlast, hx13, hc]; rfl)
          clear hc hlast g1 hx13
          go_wp2_with fail
          go_ret
          exact ⟨by unfold eatE; rw [HQ.out]; rfl, _, unhide HE, unhide HM3⟩
        · have c1 : ((c.toNat : Int) == 10) = false := by
            rw [beq_eq_false_iff_ne]; intro e; exact hc (u8_eq (n := 10) e)
          have HQ := Lib.hid (show eatS d.L d.line c = (400, false) by unfold eatS; rw [if_neg (by rw [HK.out]; exact g1), hlast, hx13, if_pos (by simp [hc])])
          clear hc hlast g1 hx13
          go_wp2_with fail
          exact ⟨rfl, by unfold eatE; rw [HQ.out]; rfl, _, unhide HE, unhide HM3⟩
      · have x1 : ((x.toNat : Int) == 13) = false := by
          rw [beq_eq_false_iff_ne]; intro e; exact hx13 (u8_eq (n := 13) e)
        by_cases hc : c = 10
        · have c1 : ((c.toNat : Int) == 10) = true := by rw [hc]; rfl
          have HQ := Lib.hid (show eatS d.L d.line c = (400, false) by unfold eatS; rw [if_neg (by rw [HK.out]; exact g1), hlast, if_pos (by simp [hc, hx13])])
          clear hc hlast g1 hx13
          go_wp2_with fail
          exact ⟨rfl, by unfold eatE; rw [HQ.out]; rfl, _, unhide HE, unhide HM3⟩
        · have c1 : ((c.toNat : Int) == 10) = false := by
            rw [beq_eq_false_iff_ne]; intro e; exact hc (u8_eq (n := 10) e)
          by_cases g3 : d.L ≤ j + 1 + 1
          · have g4 : (d.L : Int) ≤ (j : Int) + 1 + 1 := by omega
            have HQ := Lib.hid (show eatS d.L d.line c = (400, false) by unfold eatS; rw [if_neg (by rw [HK.out]; exact g1), hlast, if_neg (by rw [show (c == 10) = false by simp [hc], show ((some x : Option UInt8) == some 13) = false by simp [hx13]]; decide), if_neg hc, if_pos (by rw [HK.out]; exact g3)])
            clear hc hlast g1 hx13 g3
            go_wp2_with fail
            exact ⟨rfl, by unfold eatE; rw [HQ.out]; rfl, _, unhide HE, unhide HM3⟩
          · have g4 : ¬ (d.L : Int) ≤ (j : Int) + 1 + 1 := by omega
            have HQ := Lib.hid (show eatS d.L d.line c = (0, false) by unfold eatS; rw [if_neg (by rw [HK.out]; exact g1), hlast, if_neg (by rw [show (c == 10) = false by simp [hc], show ((some x : Option UInt8) == some 13) = false by simp [hx13]]; decide), if_neg hc, if_neg (by rw [HK.out]; exact g3)])
            clear hc hlast g1 hx13 g3
            go_wp2_with fail
            go_ret
            exact ⟨by unfold eatE; rw [HQ.out]; rfl, _, unhide HE, unhide HM3⟩

set_option maxRecDepth 100000 in
set_option maxHeartbeats 2000000 in
theorem take_any (w : World) (base b : Nat) (nx : Value) (d : Dec) (ln bd tr : Value) (x : List UInt8) (c1 c2 : UInt8) (h : DecAt w base b nx d ln bd tr) (hx : d.line = x ++ [c1, c2]) (hl : x.length ≤ 1000000) :
    Calls Tryz.prog 42 #[.pointer (some ⟨b, 0, none⟩)] w fun e w' => e = .returned (.string ⟨x.toArray⟩) ∧ DecAt w' base b nx { d with line := [] } (.slice none 0 0) bd tr ∧ Moves b w ln bd tr w' (.slice none 0 0) bd tr := by
  have HD := hide h
  have hlen : d.line.length = x.length + 2 := by rw [hx]; simp
  have hli := h.line
  rw [hlen, hx] at hli
  obtain ⟨g, cp, rfl, hcp, hcl⟩ := own_some hli (by simp)
  have p5 := h.has.cell 5 _ rfl
  have u5 := h.has.free 5 (by simp [decV])
  have zb := h.has.lt
  have hcv : ∀ y : Reg.More w, (convert 56 9 (.slice (some ⟨g, 0, none⟩) x.length cp)).run Tryz.prog y.w = .ok (.string ⟨x.toArray⟩) y.w := fun y => by
    refine Mem.run_text 56 5 9 Tryz.underlying56 Tryz.underlying5 Tryz.underlying9 g 0 cp x (fun i v hv => ?_)
    have hi : i < x.length := by
      rcases Nat.lt_or_ge i x.length with h | h
      · exact h
      · rw [List.getElem?_eq_none (by rw [Mem.bytesV_len]; exact h)] at hv; cases hv
    rw [Mem.bytesV_get x i hi] at hv
    cases hv
    have h1 := hcl i (by simp; omega)
    rw [List.getElem_append_left hi] at h1
    rw [Nat.zero_add, y.cell g i (World.block_lt_of_cell? w _ h1)]
    exact h1
  obtain ⟨k, hk⟩ : ∃ k, x.length = k := ⟨_, rfl⟩
  rw [hk] at p5 hcv hl hcp
  have hcp1 : (k : Int) ≤ cp := by omega
  clear h hx hli hcl hlen
  go_enter Tryz.func42, Tryz.ntmps42
  go_wp2_with fail
  refine Reg.region_more (by kernel_rfl) (by kernel_rfl) ?_
  repeat (go_big_quiet_step (fail))
  refine wpQuiet_nil ?_
  intro w1 hb1; obtain ⟨hc1, hf1, hz1⟩ := bcell hb1; (try simp at hz1)
  have HD1 := hide ((unhide HD).call hb1)
  have q5 := (unhide HD1).has.cell 5 _ rfl
  have v5 := (unhide HD1).has.free 5 (by simp [decV])
  have HB := hide hb1
  clear hb1 hc1 hf1 p5 u5 hcv
  go_wp2_with fail
  go_ret
  obtain ⟨h1, h2⟩ := (unhide HD1).noLine
  exact ⟨rfl, h1, Moves.after (unhide HB) h2⟩
end Go.Proofs.YtkaaeajidejchaaGreatDoor.Sp

/- Plain: what holds of a decoder, whatever it is fed. -/
namespace Go.Proofs.YtkaaeajidejchaaGreatDoor.Sp
open Go.RowKit Sl

def statB (n : Nat) : Bool := n == 0 || n == 400 || n == 413 || n == 431
/-- what holds of a decoder that has eaten k bytes -/
structure Okd (k : Nat) (d : Dec) : Prop where
  bo : d.body.length ≤ d.B
  da : d.st = .data → 1 ≤ d.left ∧ d.body.length + d.left ≤ d.B
  ba : statB d.bad = true
  l1 : d.line.length ≤ k
  l2 : d.body.length ≤ k
  l3 : d.behind ≤ k
  l4 : d.tr.length ≤ k

theorem eatS_stat (L : Nat) (line : List UInt8) (c : UInt8) : statB (eatS L line c).1 = true := by
  unfold eatS
  repeat' split
  all_goals rfl

section
variable {sz : List UInt8 → Nat × Nat} {fl : List UInt8 → Option Fld}
theorem oneS_ok (hsz : ∀ s, statB (sz s).2 = true) {k : Nat} {d : Dec} (h : Okd k d) (c : UInt8) : Okd (k + 1) (oneS sz fl d c) := by
  obtain ⟨L, H, C, B, st, line, body, left, behind, tr, bad, done⟩ := d
  obtain ⟨h1, h2, h3, h4, h5, h6, h7⟩ := h
  have he := eatS_stat L line c
  simp only at h1 h2 h3 h4 h5 h6 h7
  cases st <;> simp only [oneS, stepS]
  · have hs := hsz line.dropLast
    repeat' split
    all_goals (refine ⟨?_, ?_, ?_, ?_, ?_, ?_, ?_⟩ <;> simp only [List.length_append, List.length_cons, List.length_nil, reduceCtorEq, false_imp_iff, imp_self, forall_const, he, hs] <;> first | omega | rfl | (intro; omega) | exact hs)
  · have hd := h2 rfl
    repeat' split
    all_goals (refine ⟨?_, ?_, ?_, ?_, ?_, ?_, ?_⟩ <;> simp only [List.length_append, List.length_cons, List.length_nil, reduceCtorEq, false_imp_iff, imp_self, forall_const] <;> first | omega | rfl | (intro; omega))
  · repeat' split
    all_goals (refine ⟨?_, ?_, ?_, ?_, ?_, ?_, ?_⟩ <;> simp only [List.length_append, List.length_cons, List.length_nil, reduceCtorEq, false_imp_iff, imp_self, forall_const] <;> first | omega | rfl | (intro; omega))
  · repeat' split
    all_goals (refine ⟨?_, ?_, ?_, ?_, ?_, ?_, ?_⟩ <;> simp only [List.length_append, List.length_cons, List.length_nil, reduceCtorEq, false_imp_iff, imp_self, forall_const] <;> first | omega | rfl | (intro; omega))
  · repeat' split
    all_goals (refine ⟨?_, ?_, ?_, ?_, ?_, ?_, ?_⟩ <;> simp only [List.length_append, List.length_cons, List.length_nil, reduceCtorEq, false_imp_iff, imp_self, forall_const, he] <;> first | omega | rfl | (intro; omega) | exact he)
theorem oneS_lim (d : Dec) (c : UInt8) : (oneS sz fl d c).B = d.B ∧ (oneS sz fl d c).L = d.L ∧ (oneS sz fl d c).H = d.H ∧ (oneS sz fl d c).C = d.C := by
  obtain ⟨L, H, C, B, st, line, body, left, behind, tr, bad, done⟩ := d
  cases st <;> simp only [oneS, stepS] <;> (repeat' split) <;> exact ⟨rfl, rfl, rfl, rfl⟩
theorem feedS_lim : ∀ (l : List UInt8) (d : Dec), (feedS sz fl d l).1.B = d.B ∧ (feedS sz fl d l).1.L = d.L ∧ (feedS sz fl d l).1.H = d.H ∧ (feedS sz fl d l).1.C = d.C
  | [], d => ⟨rfl, rfl, rfl, rfl⟩
  | c :: t, d => by
    unfold feedS
    split
    · exact ⟨rfl, rfl, rfl, rfl⟩
    · have h1 := feedS_lim t (oneS sz fl d c)
      have h2 := oneS_lim (sz := sz) (fl := fl) d c
      rw [h2.1, h2.2.1, h2.2.2.1, h2.2.2.2] at h1
      exact h1
theorem feedS_ok (hsz : ∀ s, statB (sz s).2 = true) : ∀ (l : List UInt8) (k : Nat) (d : Dec), Okd k d → Okd (k + l.length) (feedS sz fl d l).1
  | [], k, d, h => h
  | c :: t, k, d, h => by
    unfold feedS
    split
    · exact ⟨h.bo, h.da, h.ba, Nat.le_trans h.l1 (Nat.le_add_right _ _), Nat.le_trans h.l2 (Nat.le_add_right _ _), Nat.le_trans h.l3 (Nat.le_add_right _ _), Nat.le_trans h.l4 (Nat.le_add_right _ _)⟩
    · have := feedS_ok hsz t (k + 1) _ (oneS_ok (fl := fl) hsz h c)
      rw [List.length_cons, Nat.add_comm t.length 1, ← Nat.add_assoc]
      exact this
end
end Go.Proofs.YtkaaeajidejchaaGreatDoor.Sp

/- The decoder's states: size, data, cr, lf. -/
namespace Go.Proofs.YtkaaeajidejchaaGreatDoor.Sp
open Go.RowKit Sl

/-- a field's line, read -/
def flF (l : List UInt8) : Option Fld := if lineB (ofL l) = true then some (lineF (ofL l)) else none
def nextF : CS → FuncId
  | .size => 27
  | .data => 44
  | .cr => 58
  | .lf => 79
  | .field => 43
/-- the function value of a state -/
def nextV (b : Nat) (st : CS) : Value := .func (.func (nextF st)) #[.pointer (some ⟨b, 0, none⟩)] #[]
/-- a state's end -/
def stE (b : Nat) (r : Dec × Nat) (e : Ending) : Prop := e = if r.2 ≠ 0 then flawE r.2 else .returned (nextV b r.1.st)
/-- a decoder that a call has written -/
def Went (b base : Nat) (nx : Value) (w : World) (ln bd tr : Value) (d : Dec) (w' : World) : Prop := ∃ ln' bd' tr', DecAt w' base b nx d ln' bd' tr' ∧ Moves b w ln bd tr w' ln' bd' tr'

theorem stE_bad {b : Nat} {r : Dec × Nat} {d' : Dec} {f : Nat} (hq : r = (d', f)) (hf : f ≠ 0) : stE b r (flawE f) := by
  unfold stE; rw [hq]; simp only; rw [if_pos hf]
theorem stE_ok {b : Nat} {r : Dec × Nat} {d' : Dec} {st : CS} (hq : r = (d', 0)) (hs : d'.st = st) : stE b r (.returned (nextV b st)) := by
  unfold stE; rw [hq]; simp only; rw [if_neg (by simp), hs]
theorem went_of {b base : Nat} {nx : Value} {w : World} {ln bd tr : Value} {r : Dec × Nat} {d' : Dec} {f : Nat} {w' : World} {ln' bd' tr' : Value} (hq : r = (d', f)) (h1 : DecAt w' base b nx d' ln' bd' tr') (h2 : Moves b w ln bd tr w' ln' bd' tr') : Went b base nx w ln bd tr r.1 w' := by
  rw [hq]; exact ⟨_, _, _, h1, h2⟩
theorem sizeF_stat (s : List UInt8) : statB (sizeF s).2 = true := by
  unfold sizeF
  split
  · rfl
  · split <;> rfl
theorem eat_bad (w : World) (base b : Nat) (nx : Value) (d : Dec) (ln bd tr : Value) (c : UInt8) (h : DecAt w base b nx d ln bd tr) (hl : d.line.length ≤ 1000000) (hbase : base ≤ w.heap.size) (f : Nat) (wh : Bool) (he : eatS d.L d.line c = (f, wh)) (hf : f ≠ 0) :
    Calls Tryz.prog 41 #[.pointer (some ⟨b, 0, none⟩), .int .u8 c.toNat] w fun e w' => e = .panicked [{ v := .iface 59 (.int .i64 f), recovered := false }] ∧ ∃ ln', DecAt w' base b nx { d with line := d.line ++ [c] } ln' bd tr ∧ Moves b w ln bd tr w' ln' bd tr := by
  refine (eat_any w base b nx d ln bd tr c h hl hbase).mono ?_
  rintro e w' ⟨h1, h2⟩
  refine ⟨?_, h2⟩
  rw [he] at h1
  unfold eatE at h1
  rw [if_pos hf] at h1
  exact h1
theorem eat_ok (w : World) (base b : Nat) (nx : Value) (d : Dec) (ln bd tr : Value) (c : UInt8) (h : DecAt w base b nx d ln bd tr) (hl : d.line.length ≤ 1000000) (hbase : base ≤ w.heap.size) (wh : Bool) (he : eatS d.L d.line c = (0, wh)) :
    Calls Tryz.prog 41 #[.pointer (some ⟨b, 0, none⟩), .int .u8 c.toNat] w fun e w' => e = .returned (.bool wh) ∧ ∃ ln', DecAt w' base b nx { d with line := d.line ++ [c] } ln' bd tr ∧ Moves b w ln bd tr w' ln' bd tr := by
  refine (eat_any w base b nx d ln bd tr c h hl hbase).mono ?_
  rintro e w' ⟨h1, h2⟩
  refine ⟨?_, h2⟩
  rw [he] at h1
  exact h1
theorem eatS_whole {L : Nat} {line : List UInt8} {c : UInt8} (h : eatS L line c = (0, true)) : c = 10 ∧ ∃ x, line = x ++ [13] := by
  unfold eatS at h
  split at h
  · cases h
  · split at h
    · cases h
    · rename_i h2
      split at h
      · rename_i h3
        refine ⟨h3, ?_⟩
        subst h3
        have h4 : line.getLast? = some 13 := by simpa using h2
        exact List.getLast?_eq_some_iff.1 h4
      · split at h <;> cases h

set_option maxRecDepth 100000 in
set_option maxHeartbeats 2000000 in
theorem dsize_any (w : World) (base b : Nat) (nx : Value) (d : Dec) (ln bd tr : Value) (c : UInt8) (h : DecAt w base b nx d ln bd tr) (hst : d.st = .size) (hl : d.line.length ≤ 900000) (hbase : base ≤ w.heap.size) (hbo : d.body.length ≤ d.B) (hB : d.B ≤ 9223372036854775807) :
    Calls Tryz.prog 27 #[.pointer (some ⟨b, 0, none⟩), .int .u8 c.toNat] w fun e w' => stE b (stepS sizeF flF d c) e ∧ Went b base nx w ln bd tr (stepS sizeF flF d c).1 w' := by
  obtain ⟨f, hf⟩ : ∃ f, (eatS d.L d.line c).1 = f := ⟨_, rfl⟩
  obtain ⟨wh, hwh⟩ : ∃ wh, (eatS d.L d.line c).2 = wh := ⟨_, rfl⟩
  have hee : eatS d.L d.line c = (f, wh) := by rw [← hf, ← hwh]
  by_cases hf0 : f ≠ 0
  · have HS := Lib.hid (show stepS sizeF flF d c = ({ d with line := d.line ++ [c] }, f) by unfold stepS; rw [hst]; simp only; rw [hee, if_pos hf0])
    have HE := hide (eat_bad w base b nx d ln bd tr c h (by omega) hbase f wh hee hf0)
    clear h hee hf hwh
    have HF := Lib.hid hf0
    clear hf0
    go_enter Tryz.func27, Tryz.ntmps27
    go_wp2_with (go_at_call 41; refine (unhide HE).mono ?_; rintro e w1 ⟨rfl, ln', h1, h2⟩)
    exact ⟨rfl, stE_bad HS.out HF.out, went_of HS.out h1 h2⟩
  · obtain rfl : f = 0 := by omega
    have HE := hide (eat_ok w base b nx d ln bd tr c h (by omega) hbase wh hee)
    cases wh
    · have HS := Lib.hid (show stepS sizeF flF d c = ({ d with line := d.line ++ [c] }, 0) by unfold stepS; rw [hst]; simp only; rw [hee, if_neg (by simp), if_pos rfl])
      clear h hee hf hwh
      have HST := Lib.hid hst
      clear hf0 hst
      go_enter Tryz.func27, Tryz.ntmps27
      go_wp2_with (go_at_call 41; refine (unhide HE).mono ?_; rintro e w1 ⟨rfl, ln', h1, h2⟩)
      go_ret
      exact ⟨stE_ok HS.out HST.out, went_of HS.out h1 h2⟩
    · obtain ⟨rfl, x, hx⟩ := eatS_whole hee
      have hxl : x.length ≤ 900000 := by rw [hx] at hl; simp at hl; omega
      obtain ⟨⟨n, st⟩, hn⟩ : ∃ r, sizeF x = r := ⟨_, rfl⟩
      have hS0 : stepS sizeF flF d 10 = if st ≠ 0 then ({ d with line := [] }, st) else if d.B - d.body.length < n then ({ d with line := [] }, 413) else if n = 0 then ({ d with line := [], st := .field }, 0) else ({ d with line := [], left := n, st := .data }, 0) := by
        unfold stepS
        rw [hst]
        simp only
        rw [hee, if_neg (by simp), if_neg (by simp), hx, List.dropLast_concat, hn]
      have hsz := size_any ⟨x.toArray⟩ (by show x.toArray.size ≤ 1000000; simp; omega)
      unfold sizeE at hsz
      rw [show (⟨x.toArray⟩ : ByteArray).data.toList = x from rfl, hn] at hsz
      simp only at hsz
      have hn53 : n ≤ 9007199254740991 := by have := sizeF_le x; rw [hn] at this; exact this
      have HSZ := hide hsz
      have HS := Lib.hid hS0
      have HX := Lib.hid hx
      clear hsz hS0 hx h hee hf hwh hf0
      go_enter Tryz.func27, Tryz.ntmps27
      go_upto_region 4 with (first
        | (go_at_call 18; refine (unhide HSZ _).mono ?_; rintro e w3 ⟨rfl, h5⟩)
        | (go_at_call 42; refine (take_any _ base b nx _ _ _ _ x 13 10 (unhide HD1) (by show d.line ++ [10] = _; rw [HX.out]; simp) (by omega)).mono ?_; rintro e w2 ⟨rfl, h3, h4⟩)
        | (go_at_call 41; refine (unhide HE).mono ?_; rintro e w1 ⟨rfl, ln', h1, h2⟩; have HD1 := hide h1; have HM1 := hide h2; clear h1 h2))
      have HD3 := hide (h3.call h5)
      have HM3 := hide (((unhide HM1).trans h4).call h5)
      clear h3 h4 h5 HD1 HM1
      have p3 := (unhide HD3).has.cell 3 _ rfl
      have p6 := (unhide HD3).has.cell 6 _ rfl
      have p7 := (unhide HD3).has.cell 7 _ rfl
      have u7 := (unhide HD3).has.free 7 (by simp [decV])
      have zb := (unhide HD3).has.lt
      obtain ⟨bo, bc, hbd⟩ := (Rd.own (unhide HD3).body).form
      simp only at p3 p6 p7 hbd
      rw [hbd] at p6
      clear hbd
      by_cases hs0 : st ≠ 0
      · have HQ := Lib.hid (show stepS sizeF flF d 10 = ({ d with line := [] }, st) by rw [HS.out, if_pos hs0])
        have HF := Lib.hid hs0
        have s1 : ((st : Int) != 0) = true := by rw [bne_iff_ne]; omega
        have s2 : ¬ (st : Int) = 0 := by omega
        clear hs0 p3 p6
        go_wp2_with fail
        exact ⟨rfl, stE_bad HQ.out HF.out, went_of HQ.out (unhide HD3) (unhide HM3)⟩
      · obtain rfl : st = 0 := by omega
        go_upto_region 6 with fail
        have hB3 : (d.B : Int) - (d.body.length : Int) = ((d.B - d.body.length : Nat) : Int) := by omega
        obtain ⟨rm, hrm⟩ : ∃ rm, d.B - d.body.length = rm := ⟨_, rfl⟩
        rw [hrm] at hB3
        refine Reg.region_more (by kernel_rfl) (by kernel_rfl) ?_
        repeat (go_big_quiet_step (fail))
        refine wpQuiet_nil ?_
        intro w5 hb5; obtain ⟨hc5, hf5, hz5⟩ := bcell hb5; (try simp at hz5)
        have HD5 := hide ((unhide HD3).call hb5)
        have HM5 := hide ((unhide HM3).call hb5)
        have q7 := (unhide HD5).has.cell 7 _ rfl
        have v7 := (unhide HD5).has.free 7 (by simp [decV])
        clear hb5 hc5 hf5 hz5 p3 p6 p7 u7 HD3 HM3 zb HSZ HE hB3 hs0
        by_cases g1 : rm < n
        · have HQ := Lib.hid (show stepS sizeF flF d 10 = ({ d with line := [] }, 413) by rw [HS.out, if_neg (by simp), hrm, if_pos g1])
          clear hrm
          go_wp2_with fail
          exact ⟨rfl, stE_bad HQ.out (by decide), went_of HQ.out (unhide HD5) (unhide HM5)⟩
        · by_cases g2 : n = 0
          · have HQ := Lib.hid (show stepS sizeF flF d 10 = ({ d with line := [], st := .field }, 0) by rw [HS.out, if_neg (by simp), hrm, if_neg g1, if_pos g2])
            have g3 : ((n : Int) == 0) = true := by rw [g2]; rfl
            have g4 : (n : Int) = 0 := by omega
            clear hrm g2
            go_wp2_with fail
            go_ret
            have HD6 : DecAt w5 base b nx { d with line := [], st := .field } (.slice none 0 0) bd tr := (unhide HD5).st .field
            exact ⟨stE_ok HQ.out rfl, went_of HQ.out HD6 (unhide HM5)⟩
          · have HQ := Lib.hid (show stepS sizeF flF d 10 = ({ d with line := [], left := n, st := .data }, 0) by rw [HS.out, if_neg (by simp), hrm, if_neg g1, if_neg g2])
            have g3 : ((n : Int) == 0) = false := by rw [beq_eq_false_iff_ne]; omega
            have g4 : ¬ (n : Int) = 0 := by omega
            clear hrm g2
            go_wp2_with fail
            go_ret
            have HD6 := ((unhide HD5).put (d' := { d with line := [], left := n }) 7 (.int .i64 n) rfl rfl rfl rfl).st .data
            exact ⟨stE_ok HQ.out rfl, went_of HQ.out HD6 ((unhide HM5).put 7 _)⟩
end Go.Proofs.YtkaaeajidejchaaGreatDoor.Sp

/- The decoder's states: data, cr, lf. -/
namespace Go.Proofs.YtkaaeajidejchaaGreatDoor.Sp
open Go.RowKit Sl

set_option maxRecDepth 100000 in
set_option maxHeartbeats 2000000 in
theorem ddata_any (w : World) (base b : Nat) (nx : Value) (d : Dec) (ln bd tr : Value) (c : UInt8) (h : DecAt w base b nx d ln bd tr) (hst : d.st = .data) (hl : d.body.length ≤ 900000) (hbase : base ≤ w.heap.size) (h1 : 1 ≤ d.left) (hbo : d.body.length + d.left ≤ d.B) (hB : d.B ≤ 9223372036854775807) :
    Calls Tryz.prog 44 #[.pointer (some ⟨b, 0, none⟩), .int .u8 c.toNat] w fun e w' => stE b (stepS sizeF flF d c) e ∧ Went b base nx w ln bd tr (stepS sizeF flF d c).1 w' := by
  have HD := hide h
  have p6 := h.has.cell 6 _ rfl
  have u6 := h.has.free 6 (by simp [decV])
  have zb := h.has.lt
  have HA := hide (h.alloc (.cells #[.int .u8 c.toNat] 5))
  obtain ⟨k, hk⟩ : ∃ k, d.body.length = k := ⟨_, rfl⟩
  rw [hk] at hl
  have HK := Lib.hid hk
  obtain ⟨lf, hlf⟩ : ∃ lf, d.left = lf := ⟨_, rfl⟩
  rw [hlf] at h1 hbo
  have HS := Lib.hid (show stepS sizeF flF d c = if 0 < lf - 1 then ({ d with body := d.body ++ [c], left := lf - 1 }, 0) else ({ d with body := d.body ++ [c], left := lf - 1, st := .cr }, 0) by unfold stepS; rw [hst]; simp only; rw [hlf])
  have HLF := Lib.hid hlf
  have HST := Lib.hid hst
  have hlb : lf ≤ 9223372036854775807 := by omega
  clear h hk hlf hst hbo
  go_enter Tryz.func44, Tryz.ntmps44
  go_upto_region 2 with (refine wpList_pushBAt rfl _ _ rfl base bd d.body k HK.out rfl (unhide HD).body c rfl _ rfl (by omega) hbase ?_; intro bd' w1 h2 hg hat; obtain ⟨g, cp, rfl, hcp, hcl⟩ := own_some h2 (by simp); have HS2 := hide ((unhide HA).setBody (d.body ++ [c]) hg (by rw [List.length_append, HK.out]; exact h2) hat); have q6 := ((unhide HA).has_body hg).cell 6 _ rfl; have v6 := ((unhide HA).has_body hg).free 6 (by simp [decV]); clear h2 hg hat)
  obtain ⟨HD2, HM2⟩ := unhide HS2
  have HM3 := hide (Moves.after ((Below.refl _ _).alloc (Nat.le_refl _) _) HM2)
  clear HS2 q6 v6 hcl HM2 HA HD p6 u6
  have p7 := HD2.has.cell 7 _ rfl
  have u7 := HD2.has.free 7 (by simp [decV])
  have HE := hide HD2
  clear HD2
  generalize w1.setCell ⟨b, 6, none⟩ _ = w2 at HE HM3 p7 u7 ⊢
  simp only at p7
  rw [HLF.out] at p7
  have l1 : (lf : Int) - 1 = ((lf - 1 : Nat) : Int) := by omega
  have wl : wrap64 ((lf : Int) - 1) = ((lf - 1 : Nat) : Int) := by unfold wrap64; omega
  obtain ⟨m, hm⟩ : ∃ m, lf - 1 = m := ⟨_, rfl⟩
  rw [hm] at l1 wl
  have wl : wrap64 (m : Int) = m := by unfold wrap64; omega
  have HMM := Lib.hid hm
  clear hcp hbase zb hm h1
  have HD4 := hide ((unhide HE).put (d' := { d with body := d.body ++ [c], left := lf - 1 }) 7 (.int .i64 m) (by rw [HMM.out]; rfl) rfl rfl rfl)
  by_cases g1 : 0 < m
  · have g2 : (0 : Int) < m := by omega
    have HQ := Lib.hid (show stepS sizeF flF d c = ({ d with body := d.body ++ [c], left := lf - 1 }, 0) by rw [HS.out, HMM.out, if_pos g1])
    clear g1
    go_wp2_with fail
    go_ret
    exact ⟨stE_ok HQ.out HST.out, went_of HQ.out (unhide HD4) ((unhide HM3).put 7 _)⟩
  · have g2 : ¬ (0 : Int) < m := by omega
    have HQ := Lib.hid (show stepS sizeF flF d c = ({ d with body := d.body ++ [c], left := lf - 1, st := .cr }, 0) by rw [HS.out, HMM.out, if_neg g1])
    clear g1
    go_wp2_with fail
    go_ret
    exact ⟨stE_ok HQ.out rfl, went_of HQ.out ((unhide HD4).st .cr) ((unhide HM3).put 7 _)⟩

set_option maxRecDepth 100000 in
theorem dcr_any (w : World) (base b : Nat) (nx : Value) (d : Dec) (ln bd tr : Value) (c : UInt8) (h : DecAt w base b nx d ln bd tr) (hst : d.st = .cr) :
    Calls Tryz.prog 58 #[.pointer (some ⟨b, 0, none⟩), .int .u8 c.toNat] w fun e w' => stE b (stepS sizeF flF d c) e ∧ Went b base nx w ln bd tr (stepS sizeF flF d c).1 w' := by
  have HD := hide h
  clear h
  by_cases hc : c = 13
  · have c1 : ((c.toNat : Int) == 13) = true := by rw [hc]; rfl
    have c2 : ((c.toNat : Int) != 13) = false := by rw [hc]; rfl
    have HQ := Lib.hid (show stepS sizeF flF d c = ({ d with st := .lf }, 0) by unfold stepS; rw [hst]; simp only; rw [if_pos hc])
    clear hc
    go_enter Tryz.func58, Tryz.ntmps58
    go_wp2_with fail
    go_ret
    exact ⟨stE_ok HQ.out rfl, went_of HQ.out ((unhide HD).st .lf) (Moves.refl _ _ _ _ _)⟩
  · have c1 : ((c.toNat : Int) == 13) = false := by rw [beq_eq_false_iff_ne]; intro e; exact hc (u8_eq (n := 13) e)
    have c2 : ((c.toNat : Int) != 13) = true := by rw [bne, c1]; rfl
    have HQ := Lib.hid (show stepS sizeF flF d c = (d, 400) by unfold stepS; rw [hst]; simp only; rw [if_neg hc])
    clear hc
    go_enter Tryz.func58, Tryz.ntmps58
    go_wp2_with fail
    exact ⟨rfl, stE_bad HQ.out (by decide), went_of HQ.out (unhide HD) (Moves.refl _ _ _ _ _)⟩
set_option maxRecDepth 100000 in
theorem dlf_any (w : World) (base b : Nat) (nx : Value) (d : Dec) (ln bd tr : Value) (c : UInt8) (h : DecAt w base b nx d ln bd tr) (hst : d.st = .lf) :
    Calls Tryz.prog 79 #[.pointer (some ⟨b, 0, none⟩), .int .u8 c.toNat] w fun e w' => stE b (stepS sizeF flF d c) e ∧ Went b base nx w ln bd tr (stepS sizeF flF d c).1 w' := by
  have HD := hide h
  clear h
  by_cases hc : c = 10
  · have c1 : ((c.toNat : Int) == 10) = true := by rw [hc]; rfl
    have c2 : ((c.toNat : Int) != 10) = false := by rw [hc]; rfl
    have HQ := Lib.hid (show stepS sizeF flF d c = ({ d with st := .size }, 0) by unfold stepS; rw [hst]; simp only; rw [if_pos hc])
    clear hc
    go_enter Tryz.func79, Tryz.ntmps79
    go_wp2_with fail
    go_ret
    exact ⟨stE_ok HQ.out rfl, went_of HQ.out ((unhide HD).st .size) (Moves.refl _ _ _ _ _)⟩
  · have c1 : ((c.toNat : Int) == 10) = false := by rw [beq_eq_false_iff_ne]; intro e; exact hc (u8_eq (n := 10) e)
    have c2 : ((c.toNat : Int) != 10) = true := by rw [bne, c1]; rfl
    have HQ := Lib.hid (show stepS sizeF flF d c = (d, 400) by unfold stepS; rw [hst]; simp only; rw [if_neg hc])
    clear hc
    go_enter Tryz.func79, Tryz.ntmps79
    go_wp2_with fail
    exact ⟨rfl, stE_bad HQ.out (by decide), went_of HQ.out (unhide HD) (Moves.refl _ _ _ _ _)⟩
end Go.Proofs.YtkaaeajidejchaaGreatDoor.Sp

/- The decoder's state field. -/
namespace Go.Proofs.YtkaaeajidejchaaGreatDoor.Sp
open Go.RowKit Sl
theorem MaxV.moves {w w' : World} {base b : Nat} {nx : Value} {d : Dec} {ln bd tr ln' bd' tr' : Value} (hM : MaxV w) (hd : DecAt w base b nx d ln bd tr) (h : Moves b w ln bd tr w' ln' bd' tr') (hMb : 5 < base) : MaxV w' := by
  obtain ⟨m, hm⟩ := hM
  exact ⟨m, h.but.cell hm (fun e => by have := hd.foot_ge _ e; simp only at this; omega)⟩

set_option maxRecDepth 100000 in
set_option maxHeartbeats 4000000 in
theorem dfield_any (w : World) (base b : Nat) (nx : Value) (d : Dec) (ln bd tr : Value) (c : UInt8) (h : DecAt w base b nx d ln bd tr) (hst : d.st = .field) (hl : d.line.length ≤ 900000) (hbase : base ≤ w.heap.size) (hbh : d.behind ≤ 900000) (htr : d.tr.length ≤ 900000) (hM : MaxV w) (hMb : 5 < base) :
    Calls Tryz.prog 43 #[.pointer (some ⟨b, 0, none⟩), .int .u8 c.toNat] w fun e w' => stE b (stepS sizeF flF d c) e ∧ Went b base nx w ln bd tr (stepS sizeF flF d c).1 w' := by
  obtain ⟨f, hf⟩ : ∃ f, (eatS d.L d.line c).1 = f := ⟨_, rfl⟩
  obtain ⟨wh, hwh⟩ : ∃ wh, (eatS d.L d.line c).2 = wh := ⟨_, rfl⟩
  have hee : eatS d.L d.line c = (f, wh) := by rw [← hf, ← hwh]
  have p8 := h.has.cell 8 _ rfl
  have u8 := h.has.free 8 (by simp [decV])
  have HD1 := hide (h.put (d' := { d with behind := d.behind + 1 }) 8 (.int .i64 ((d.behind : Int) + 1)) rfl rfl rfl rfl)
  have HM1 := hide ((Moves.refl b w ln bd tr).put 8 (.int .i64 ((d.behind : Int) + 1)))
  have H0 := hide h
  have HMV := hide hM
  have hbs : base ≤ (w.setCell ⟨b, 8, none⟩ (.int .i64 ((d.behind : Int) + 1))).heap.size := by simpa [World.setCell] using hbase
  have HB1 := hide hbs
  clear h hM hbs
  by_cases hf0 : f ≠ 0
  · have HS := Lib.hid (show stepS sizeF flF d c = ({ d with behind := d.behind + 1, line := d.line ++ [c] }, f) by unfold stepS; rw [hst]; simp only; rw [hee, if_pos hf0])
    have HE := hide (eat_bad _ base b nx _ ln bd tr c (unhide HD1) (by show d.line.length ≤ _; omega) (unhide HB1) f wh hee hf0)
    have HF := Lib.hid hf0
    clear hee hf hwh hf0
    go_enter Tryz.func43, Tryz.ntmps43
    go_wp2_with (go_at_call 41; refine (unhide HE).mono ?_; rintro e w1 ⟨rfl, ln', h1, h2⟩)
    exact ⟨rfl, stE_bad HS.out HF.out, went_of HS.out h1 ((unhide HM1).trans h2)⟩
  · obtain rfl : f = 0 := by omega
    have HE := hide (eat_ok _ base b nx _ ln bd tr c (unhide HD1) (by show d.line.length ≤ _; omega) (unhide HB1) wh hee)
    clear hf0
    go_enter Tryz.func43, Tryz.ntmps43
    go_upto_region 3 with (go_at_call 41; refine (unhide HE).mono ?_; rintro e w2 ⟨rfl, ln', h1, h2⟩)
    have HD2 := hide h1
    have HM2 := hide ((unhide HM1).trans h2)
    have p1 := h1.has.cell 1 _ rfl
    have q8 := h1.has.cell 8 _ rfl
    have zb := h1.has.lt
    simp only at p1 q8
    clear h1 h2 HE HD1 HM1
    refine Reg.region_more (by kernel_rfl) (by kernel_rfl) ?_
    repeat (go_big_quiet_step (fail))
    refine wpQuiet_nil ?_
    intro w3 hb3; obtain ⟨hc3, hf3, hz3⟩ := bcell hb3; (try simp at hz3)
    have HD3 := hide ((unhide HD2).call hb3)
    have HM3 := hide ((unhide HM2).call hb3)
    have hbase3 : base ≤ w3.heap.size := by have := (unhide HM2).but.size; omega
    have HB3 := hide hbase3
    clear hb3 hc3 hf3 hz3 p1 q8 zb HD2 HM2 p8 u8 HB1 hbase3
    by_cases g1 : d.H < d.behind + 1
    · have HQ := Lib.hid (show stepS sizeF flF d c = ({ d with behind := d.behind + 1, line := d.line ++ [c] }, 431) by unfold stepS; rw [hst]; simp only; rw [hee, if_neg (by simp), if_pos g1])
      have g2 : (d.H : Int) < (d.behind : Int) + 1 := by omega
      clear g1 hst hf hee hwh
      go_wp2_with fail
      exact ⟨rfl, stE_bad HQ.out (by decide), went_of HQ.out (unhide HD3) (unhide HM3)⟩
    have g2 : ¬ (d.H : Int) < (d.behind : Int) + 1 := by omega
    cases wh
    · have HQ := Lib.hid (show stepS sizeF flF d c = ({ d with behind := d.behind + 1, line := d.line ++ [c] }, 0) by unfold stepS; rw [hst]; simp only; rw [hee, if_neg (by simp), if_neg g1, if_pos rfl])
      have HST := Lib.hid hst
      clear g1 hst hf hee hwh
      go_wp2_with fail
      go_ret
      exact ⟨stE_ok HQ.out HST.out, went_of HQ.out (unhide HD3) (unhide HM3)⟩
    · obtain ⟨rfl, x, hx⟩ := eatS_whole hee
      have hxl : x.length ≤ 900000 := by rw [hx] at hl; simp at hl; omega
      have hS0 : stepS sizeF flF d 10 = if x = [] then ({ d with behind := d.behind + 1, line := [], done := true }, 0) else match flF x with
          | none => ({ d with behind := d.behind + 1, line := [] }, 400)
          | some f => if d.C ≤ d.tr.length then ({ d with behind := d.behind + 1, line := [] }, 431) else ({ d with behind := d.behind + 1, line := [], tr := d.tr ++ [f] }, 0) := by
        unfold stepS
        rw [hst]
        simp only
        rw [hee, if_neg (by simp), if_neg g1, if_neg (by simp), hx, List.dropLast_concat]
        rfl
      have HS := Lib.hid hS0
      have HX := Lib.hid hx
      have HST := Lib.hid hst
      clear hS0 hx g1 hst hf hee hwh
      go_upto_region 8 with (go_at_call 42; refine (take_any _ base b nx _ _ _ _ x 13 10 (unhide HD3) (by show d.line ++ [10] = _; rw [HX.out]; simp) (by omega)).mono ?_; rintro e w4 ⟨rfl, h3, h4⟩)
      have HD4 := hide h3
      have HM4 := hide ((unhide HM3).trans h4)
      have p11 := h3.has.cell 11 _ rfl
      have u11 := h3.has.free 11 (by simp [decV])
      have hbase4 : base ≤ w4.heap.size := Nat.le_trans (unhide HB3) h4.but.size
      clear h3 h4 HD3 HM3 HB3
      simp only at p11
      by_cases hxe : x = []
      · have HQ := Lib.hid (show stepS sizeF flF d 10 = ({ d with behind := d.behind + 1, line := [], done := true }, 0) by rw [HS.out, if_pos hxe])
        subst hxe
        clear HS
        go_wp2_with fail
        go_ret
        exact ⟨stE_ok HQ.out HST.out, went_of HQ.out ((unhide HD4).put (d' := { d with behind := d.behind + 1, line := [], done := true }) 11 (.bool true) rfl rfl rfl rfl) ((unhide HM4).put 11 _)⟩
      · obtain ⟨s, hs⟩ : ∃ s : ByteArray, ofL x = s := ⟨_, rfl⟩
        have hsx : s.data.toList = x := by rw [← hs]; rfl
        have hsz : s.size = x.length := size_list hsx
        have hne : s.toList.isEmpty = false := by
          rcases empty_case s with ⟨_, h⟩ | ⟨h, _⟩
          · rw [hsx] at h; exact absurd h hxe
          · exact h
        obtain ⟨⟨f1, f2⟩, hff⟩ : ∃ f, lineF s = f := ⟨_, rfl⟩
        obtain ⟨ok, hok⟩ : ∃ ok, lineB s = ok := ⟨_, rfl⟩
        have hfl : flF x = if ok = true then some (f1, f2) else none := by unfold flF; rw [hs, hok, hff]
        have HL := line_any s (by omega) w4 ((unhide HMV).moves (unhide H0) (unhide HM4) hMb)
        rw [hff, hok] at HL
        unfold fldOut at HL
        have HFL := Lib.hid hfl
        have HXE := Lib.hid hxe
        rw [show (⟨x.toArray⟩ : ByteArray) = s from hs]
        clear hsx hsz hff hok hfl hxe p11 u11 hs
        cases ok
        · have HQ := Lib.hid (show stepS sizeF flF d 10 = ({ d with behind := d.behind + 1, line := [] }, 400) by rw [HS.out, if_neg HXE.out, HFL.out]; rfl)
          simp only [Bool.false_eq_true, if_false, errI] at HL
          have HLH := hide HL
          clear HL
          go_upto_region 12 with (first
            | (go_at_call 57; refine (unhide HLH).mono ?_; rintro e w5 ⟨rfl, h5⟩; have H5 := hide h5; clear h5; have HR := hide (Reg.Has.new w5 [.string ⟨#[]⟩, .string ⟨#[]⟩] 50))
            | (refine wpList_storeF rfl _ _ rfl w5.heap.size rfl #[.string ⟨#[]⟩, .string ⟨#[]⟩] rfl rfl _ rfl (unhide HR) (by kernel_rfl) ?_; intro HZ; have HBZ := below_setCells (B := w5.heap.size) w5.heap.size (Nat.le_refl _) (#[.string ⟨#[]⟩, .string ⟨#[]⟩] : Array Value).toList 0 _ ((Below.refl w5.heap.size w5).alloc (Nat.le_refl _) (.cells #[.string ⟨#[]⟩, .string ⟨#[]⟩] 50)); generalize World.setCells _ w5.heap.size 0 _ = w6 at HZ HBZ ⊢; have ZZ := hide HZ; have BZ := hide HBZ; clear HZ HBZ))
          have HB6 := hide ((unhide H5).trans ((unhide BZ).mono (unhide H5).size))
          have HD6 := hide ((unhide HD4).call (unhide HB6))
          have HM6 := hide ((unhide HM4).call (unhide HB6))
          clear ZZ HLH HR
          go_wp2_with fail
          exact ⟨rfl, stE_bad HQ.out (by decide), went_of HQ.out (unhide HD6) (unhide HM6)⟩
        · simp only [if_true, errI] at HL
          have HLH := hide HL
          clear HL
          go_upto_region 12 with (first
            | (go_at_call 57; refine (unhide HLH).mono ?_; rintro e w5 ⟨rfl, h5⟩; have H5 := hide h5; clear h5; have HR := hide (Reg.Has.new w5 [.string ⟨#[]⟩, .string ⟨#[]⟩] 50))
            | (refine wpList_storeF rfl _ _ rfl w5.heap.size rfl #[.string f1, .string f2] rfl rfl _ rfl (unhide HR) (by kernel_rfl) ?_; intro HZ; have HBZ := below_setCells (B := w5.heap.size) w5.heap.size (Nat.le_refl _) (#[.string f1, .string f2] : Array Value).toList 0 _ ((Below.refl w5.heap.size w5).alloc (Nat.le_refl _) (.cells #[.string ⟨#[]⟩, .string ⟨#[]⟩] 50)); generalize World.setCells _ w5.heap.size 0 _ = w6 at HZ HBZ ⊢; have ZZ := hide HZ; have BZ := hide HBZ; clear HZ HBZ))
          have HB6 := hide ((unhide H5).trans ((unhide BZ).mono (unhide H5).size))
          have HD6 := hide ((unhide HD4).call (unhide HB6))
          have HM6 := hide ((unhide HM4).call (unhide HB6))
          go_upto_region 14 with fail
          have p2 := (unhide HD6).has.cell 2 _ rfl
          have p9 := (unhide HD6).has.cell 9 _ rfl
          have zb := (unhide HD6).has.lt
          obtain ⟨ao, ac, hbd⟩ := (Rd.own (unhide HD6).trs).form
          simp only at p2 p9 hbd
          rw [hbd] at p9
          clear hbd HLH HR
          refine Reg.region_more (by kernel_rfl) (by kernel_rfl) ?_
          repeat (go_big_quiet_step (fail))
          refine wpQuiet_nil ?_
          intro w7 hb7; obtain ⟨hc7, hf7, hz7⟩ := bcell hb7; (try simp at hz7)
          have HD7 := hide ((unhide HD6).call hb7)
          have HM7 := hide ((unhide HM6).call hb7)
          have HZ7 := hide ((unhide ZZ).call hb7)
          have hgt : tr.ownBlock ≠ some w5.heap.size := fun e => by have := ((unhide HD4).trs.lt _ e).2; have := (unhide H5).size; omega
          have hgb : b ≠ w5.heap.size := by have := (unhide HD4).has.lt; have := (unhide H5).size; omega
          have hbase7 : base ≤ w7.heap.size := by have := (unhide HB6).size; omega
          have HGT := hide hgt
          have HGB := hide hgb
          clear hb7 hc7 hf7 hz7 p2 p9 zb HD6 HM6 ZZ BZ HB6 hgt hgb H5 HD4 HM4 hbase4
          generalize w5.heap.size = gf at *
          by_cases g3 : d.C ≤ d.tr.length
          · have HQ := Lib.hid (show stepS sizeF flF d 10 = ({ d with behind := d.behind + 1, line := [] }, 431) by rw [HS.out, if_neg HXE.out, HFL.out]; simp only [if_true]; rw [if_pos g3])
            have g4 : (d.C : Int) ≤ d.tr.length := by omega
            clear g3
            go_wp2_with fail
            exact ⟨rfl, stE_bad HQ.out (by decide), went_of HQ.out (unhide HD7) (unhide HM7)⟩
          · have HQ := Lib.hid (show stepS sizeF flF d 10 = ({ d with behind := d.behind + 1, line := [], tr := d.tr ++ [(f1, f2)] }, 0) by rw [HS.out, if_neg HXE.out, HFL.out]; simp only [if_true]; rw [if_neg g3])
            have g4 : ¬ (d.C : Int) ≤ d.tr.length := by omega
            clear g3
            go_upto_region 16 with fail
            have p9 := (unhide HD7).has.drew.cell 9 _ rfl
            have u9 := (unhide HD7).has.drew.free 9 (by simp [decV])
            have hx0 : ∀ y : Reg.Kp (fun w' => Reg.Has w' gf [.string f1, .string f2]), y.w.cell? ⟨gf, 0, none⟩ = some (.string f1) := fun y => y.h.cell 0 _ rfl
            have hx1 : ∀ y : Reg.Kp (fun w' => Reg.Has w' gf [.string f1, .string f2]), y.w.cell? ⟨gf, 1, none⟩ = some (.string f2) := fun y => y.h.cell 1 _ rfl
            have hkpne : Nonempty (Reg.Kp (fun w' => Reg.Has w' gf [.string f1, .string f2])) := ⟨⟨_, (unhide HZ7).drew⟩⟩
            refine Reg.region_plan3 (fun w' => Reg.Has w' gf [.string f1, .string f2]) (.takes [0, 1, 2, 3, 5] (.two 4 6 (.ones [6, 7, 8, 9, 10] .done) (.ones [4, 7, 8, 9, 10] .done))) (by kernel_rfl) (by kernel_rfl) (by kernel_rfl) (by decide) (by intro o _ c a v w h; generalize o.dst = d at h; cases d <;> exact h) ((unhide HZ7).drew) ?_
            simp only [Reg.Plan3.takes, Reg.Plan3.ones, Reg.wpPlan3, List.getElem?_cons_zero, List.getElem?_cons_succ]
            refine Reg.take_read (by kernel_rfl) ?_
            go_big_quiet_step (fail)
            refine wpQuiet_nil ?_
            refine Reg.take_read (by kernel_rfl) ?_
            go_big_quiet_step (fail)
            refine wpQuiet_nil ?_
            refine Reg.take_nilq _ rfl ?_
            go_big_quiet_step (fail)
            refine wpQuiet_nil ?_
            refine Reg.take_read (by kernel_rfl) ?_
            go_big_quiet_step (fail)
            refine wpQuiet_nil ?_
            refine Reg.take_read (by kernel_rfl) ?_
            go_big_quiet_step (fail)
            refine wpQuiet_nil ?_
            have HZR := hide ((unhide HZ7).drew)
            have zb7 := (unhide HD7).has.lt
            refine ⟨?_, ?_⟩
            ·
              (try simp only [Reg.wpOne])
              go_wp2_with (fail)
              refine Reg.thenQ_mk ⟨⟨_, unhide HZR⟩, rfl⟩ ?_
              (try dsimp only)
              (try simp only [Reg.wpOne])
              go_wp2_with (fail)
              refine Reg.thenQ_mk ⟨⟨_, ((unhide HZ7).alloc _).drew⟩, rfl⟩ ?_
              (try dsimp only)
              have HDA := hide (((unhide HD7).alloc (.cells #[.string f1, .string f2] 50)).call ((Below.refl _ _).drew))
              have HMA := hide ((unhide HM7).call (((Below.refl w7.heap.size w7).alloc (Nat.le_refl _) (.cells #[.string f1, .string f2] 50)).drew))
              have HZA := hide (((unhide HZ7).alloc (.cells #[.string f1, .string f2] 50)).drew)
              have HNA := hide ((Reg.Has.new w7 [.string f1, .string f2] 50).drew)
              have hbA : base ≤ (w7.alloc (.cells #[.string f1, .string f2] 50)).drew.heap.size := by simp; omega
              have HBA := hide hbA
              clear p9 u9 zb7 HD7 HM7 HZ7 hbA hx0 hx1 hkpne HZR
              generalize (w7.alloc (.cells #[.string f1, .string f2] 50)).drew = wA at *
              (try simp only [Reg.wpOne])
              go_wp2_with (refine wpList_pushFW rfl _ _ rfl base tr d.tr rfl (unhide HDA).trs (f1, f2) _ _ (unhide HNA) rfl (by omega) (unhide HBA) ?_; intro tr' w8 h2 hg hat; obtain ⟨ao, ac, rfl⟩ := (Rd.own h2).form; have HS2 := hide ((unhide HDA).setTr (d.tr ++ [(f1, f2)]) hg (by rw [List.length_append]; exact h2) hat); have q9 := ((unhide HDA).has_tr hg).cell 9 _ rfl; have v9 := ((unhide HDA).has_tr hg).free 9 (by simp [decV]); have HZ8 := hide ((But.grown (S := fun k => tr.ownBlock = some k) hg (fun _ e => e)).has (unhide HZA) (unhide HGT)); clear h2 hg hat)
              refine Reg.thenQ_mk ⟨⟨_, unhide HZ8⟩, rfl⟩ ?_
              (try dsimp only)
              (try simp only [Reg.wpOne])
              go_wp2_with (fail)
              refine Reg.thenQ_mk ⟨⟨_, unhide HZ8⟩, rfl⟩ ?_
              (try dsimp only)
              (try simp only [Reg.wpOne])
              go_wp2_with (fail)
              refine Reg.thenQ_mk ⟨⟨_, unhide HZ8⟩, rfl⟩ ?_
              (try dsimp only)
              (try simp only [Reg.wpOne])
              go_wp2_with (fail)
              refine Reg.thenQ_mk ⟨⟨_, (unhide HZ8).other (unhide HGB) _⟩, rfl⟩ ?_
              (try dsimp only)
              obtain ⟨HD9, HM9⟩ := unhide HS2
              have HD9 := hide HD9
              have HM9 := hide HM9
              clear q9 v9 HS2
              generalize w8.setCell ⟨b, 9, none⟩ _ = w9 at HD9 HM9 ⊢
              go_wp2_with fail
              go_ret
              exact ⟨stE_ok HQ.out HST.out, went_of HQ.out (unhide HD9) ((unhide HMA).trans (unhide HM9))⟩
            ·
              (try simp only [Reg.wpOne])
              go_wp2_with (fail)
              refine Reg.thenQ_mk ⟨⟨_, ((unhide HZ7).alloc _).drew⟩, rfl⟩ ?_
              (try dsimp only)
              have p9A := ((unhide HD7).alloc (.cells #[.string f1, .string f2] 50)).has.cell 9 _ rfl
              (try simp only [Reg.wpOne])
              go_wp2_with (fail)
              refine Reg.thenQ_mk ⟨⟨_, ((unhide HZ7).alloc _).drew⟩, rfl⟩ ?_
              (try dsimp only)
              clear p9A
              have HDA := hide (((unhide HD7).alloc (.cells #[.string f1, .string f2] 50)).call ((Below.refl _ _).drew))
              have HMA := hide ((unhide HM7).call (((Below.refl w7.heap.size w7).alloc (Nat.le_refl _) (.cells #[.string f1, .string f2] 50)).drew))
              have HZA := hide (((unhide HZ7).alloc (.cells #[.string f1, .string f2] 50)).drew)
              have HNA := hide ((Reg.Has.new w7 [.string f1, .string f2] 50).drew)
              have hbA : base ≤ (w7.alloc (.cells #[.string f1, .string f2] 50)).drew.heap.size := by simp; omega
              have HBA := hide hbA
              clear p9 u9 zb7 HD7 HM7 HZ7 hbA hx0 hx1 hkpne HZR
              generalize (w7.alloc (.cells #[.string f1, .string f2] 50)).drew = wA at *
              (try simp only [Reg.wpOne])
              go_wp2_with (refine wpList_pushFW rfl _ _ rfl base tr d.tr rfl (unhide HDA).trs (f1, f2) _ _ (unhide HNA) rfl (by omega) (unhide HBA) ?_; intro tr' w8 h2 hg hat; obtain ⟨ao, ac, rfl⟩ := (Rd.own h2).form; have HS2 := hide ((unhide HDA).setTr (d.tr ++ [(f1, f2)]) hg (by rw [List.length_append]; exact h2) hat); have q9 := ((unhide HDA).has_tr hg).cell 9 _ rfl; have v9 := ((unhide HDA).has_tr hg).free 9 (by simp [decV]); have HZ8 := hide ((But.grown (S := fun k => tr.ownBlock = some k) hg (fun _ e => e)).has (unhide HZA) (unhide HGT)); clear h2 hg hat)
              refine Reg.thenQ_mk ⟨⟨_, unhide HZ8⟩, rfl⟩ ?_
              (try dsimp only)
              (try simp only [Reg.wpOne])
              go_wp2_with (fail)
              refine Reg.thenQ_mk ⟨⟨_, unhide HZ8⟩, rfl⟩ ?_
              (try dsimp only)
              (try simp only [Reg.wpOne])
              go_wp2_with (fail)
              refine Reg.thenQ_mk ⟨⟨_, unhide HZ8⟩, rfl⟩ ?_
              (try dsimp only)
              (try simp only [Reg.wpOne])
              go_wp2_with (fail)
              refine Reg.thenQ_mk ⟨⟨_, (unhide HZ8).other (unhide HGB) _⟩, rfl⟩ ?_
              (try dsimp only)
              obtain ⟨HD9, HM9⟩ := unhide HS2
              have HD9 := hide HD9
              have HM9 := hide HM9
              clear q9 v9 HS2
              generalize w8.setCell ⟨b, 9, none⟩ _ = w9 at HD9 HM9 ⊢
              go_wp2_with fail
              go_ret
              exact ⟨stE_ok HQ.out HST.out, went_of HQ.out (unhide HD9) ((unhide HMA).trans (unhide HM9))⟩
end Go.Proofs.YtkaaeajidejchaaGreatDoor.Sp

/- The decoder: what Feed defers. -/
namespace Go.Proofs.YtkaaeajidejchaaGreatDoor.Sp
open Go.RowKit Sl

/-- no flaw: nothing is recovered -/
theorem catch_idle (dv nv sv : Nat) (w : World) :
    CallsD Tryz.prog 28 #[.pointer (some ⟨dv, 0, none⟩), .pointer (some ⟨nv, 0, none⟩), .pointer (some ⟨sv, 0, none⟩)] .returning w fun e u' w' => e = .returned (.tuple #[]) ∧ u' = .returning ∧ w' = w := by
  refine callsD_of_wpS Tryz.func28 rfl fun c₀ cs hu => ?_
  apply wpS_seq
  apply wpS_region
  simp [wpOpsS, go_sem, recoverD, hu, Tryz.ntmps28, Exit.thenS, Array.replicate]
  refine wpS_of_wp ?_
  go_wp2
  cases c₀
  simp_all [bodyPostS, results, Tryz.results28]

set_option maxRecDepth 100000 in
set_option maxHeartbeats 2000000 in
/-- a flaw is recovered -/
theorem catch_flaw (dv nv sv b : Nat) (f i : Int) (x : Value) (ob : Value) (vs : List Value) (hf0 : -9223372036854775808 ≤ f) (hf : f ≤ 9223372036854775807) (hi0 : 0 ≤ i) (hi : i < 9223372036854775807) (w : World) (hd : Reg.Has w dv [.pointer (some ⟨b, 0, none⟩)]) (hn : Reg.Has w nv [.int .i64 i]) (hs : Reg.Has w sv [x]) (hb : Reg.Has w b vs) (hb10 : vs[10]? = some ob) (n1 : dv ≠ nv) (n2 : dv ≠ sv) (n3 : dv ≠ b) (n4 : nv ≠ sv) (n5 : nv ≠ b) (n6 : sv ≠ b) :
    CallsD Tryz.prog 28 #[.pointer (some ⟨dv, 0, none⟩), .pointer (some ⟨nv, 0, none⟩), .pointer (some ⟨sv, 0, none⟩)] (.panicking [{ v := .iface 59 (.int .i64 f), recovered := false }]) w fun e u' w' =>
      e = .returned (.tuple #[]) ∧ u' = .panicking [{ v := .iface 59 (.int .i64 f), recovered := true }] ∧ w' = (((w.setCell ⟨b, 10, none⟩ (.int .i64 f)).setCell ⟨nv, 0, none⟩ (.int .i64 (i + 1))).setCell ⟨sv, 0, none⟩ (.int .i64 f)).drew := by
  have d0 := hd.cell 0 _ rfl
  have m0 := hn.cell 0 _ rfl
  have s0 := hs.cell 0 _ rfl
  have b0 := hb.cell 10 _ hb10
  have fm := hn.free 0 (by simp)
  have fs := hs.free 0 (by simp)
  have hta : ∀ w', (Instr.typeAssert (.iface 59 (.int .i64 f)) 20 59 true).run Tryz.prog w' = .ok (.tuple #[.int .i64 f, .bool true]) w' := fun _ => by kernel_rfl
  have fb := hb.free 10 (List.getElem?_eq_some_iff.1 hb10).1
  refine callsD_of_wpS Tryz.func28 rfl fun c₀ cs hu => ?_
  apply wpS_seq
  apply wpS_region
  simp [wpOpsS, go_sem, recoverD, hu, Tryz.ntmps28, Exit.thenS, Array.replicate]
  refine wpS_of_wp ?_
  go_wp2_with fail
  have n4s := n4.symm
  have n5s := n5.symm
  have n6s := n6.symm
  have n1s := n1.symm
  have n2s := n2.symm
  have n3s := n3.symm
  have HB := hide (hb.put 10 (.int .i64 f))
  have HN := hide (hn.other (a := ⟨b, 10, none⟩) (by show b ≠ nv; omega) (.int .i64 f))
  have HS := hide (hs.other (a := ⟨b, 10, none⟩) (by show b ≠ sv; omega) (.int .i64 f))
  have HD := hide (hd.other (a := ⟨b, 10, none⟩) (by show b ≠ dv; omega) (.int .i64 f))
  have b1 : (vs.set 10 (.int .i64 f))[10]? = some (.int .i64 f) := by rw [List.getElem?_set_self']; rw [hb10]; rfl
  have c0 := (unhide HB).drew.cell 10 _ b1
  have e0 := (unhide HN).drew.cell 0 _ rfl
  have g0 := (unhide HS).drew.cell 0 _ rfl
  have c0' := (unhide HB).cell 10 _ b1
  have e0' := (unhide HN).cell 0 _ rfl
  have g0' := (unhide HS).cell 0 _ rfl
  have e1' := (unhide HN).free 0 (by simp)
  have g1' := (unhide HS).free 0 (by simp)
  have e1 := (unhide HN).drew.free 0 (by simp)
  have g1 := (unhide HS).drew.free 0 (by simp)
  have hx0 : ∀ y : Reg.Kp (fun w' => Reg.Has w' dv [.pointer (some ⟨b, 0, none⟩)]), y.w.cell? ⟨dv, 0, none⟩ = some (.pointer (some ⟨b, 0, none⟩)) := fun y => y.h.cell 0 _ rfl
  have HU := hide hu
  clear hd hn hs hb hb10 d0 m0 s0 b0 fm fs fb hta b1 hu
  generalize hw1 : w.setCell ⟨b, 10, none⟩ (.int .i64 f) = w1 at *
  have hkpne : Nonempty (Reg.Kp (fun w' => Reg.Has w' dv [.pointer (some ⟨b, 0, none⟩)])) := ⟨⟨_, (unhide HD).drew⟩⟩
  refine Reg.region_plan3 (fun w' => Reg.Has w' dv [.pointer (some ⟨b, 0, none⟩)]) (.takes [2, 3, 4] (.two 0 5 (.takes [1] (.ones [5, 6, 7] .done)) (.ones [0] (.takes [1] (.ones [6, 7] .done))))) (by kernel_rfl) (by kernel_rfl) (by kernel_rfl) (by decide) (by intro o _ c a v w h; generalize o.dst = d at h; cases d <;> exact h) ((unhide HD).drew) ?_
  simp only [Reg.Plan3.takes, Reg.Plan3.ones, Reg.wpPlan3, List.getElem?_cons_zero, List.getElem?_cons_succ]
  refine Reg.take_read (by kernel_rfl) ?_
  go_big_quiet_step (fail)
  refine wpQuiet_nil ?_
  refine Reg.take_nilq _ rfl ?_
  go_big_quiet_step (fail)
  refine wpQuiet_nil ?_
  refine Reg.take_read (by kernel_rfl) ?_
  go_big_quiet_step (fail)
  refine wpQuiet_nil ?_
  refine ⟨?_, ?_⟩
  ·
    (try simp only [Reg.wpOne])
    go_wp2_with (fail)
    refine Reg.thenQ_mk ⟨⟨_, (unhide HD).drew⟩, rfl⟩ ?_
    (try dsimp only)
    refine Reg.take_read (by kernel_rfl) ?_
    go_big_quiet_step (fail)
    refine wpQuiet_nil ?_
    (try simp only [Reg.wpOne])
    go_wp2_with (fail)
    refine Reg.thenQ_mk ⟨⟨_, (unhide HD).drew⟩, rfl⟩ ?_
    (try dsimp only)
    (try simp only [Reg.wpOne])
    go_wp2_with (fail)
    refine Reg.thenQ_mk ⟨⟨_, ((unhide HD).other (a := ⟨nv, 0, none⟩) (by show nv ≠ dv; omega) _).drew⟩, rfl⟩ ?_
    (try dsimp only)
    (try simp only [Reg.wpOne])
    go_wp2_with (fail)
    refine Reg.thenQ_mk ⟨⟨_, (((unhide HD).other (a := ⟨nv, 0, none⟩) (by show nv ≠ dv; omega) _).other (a := ⟨sv, 0, none⟩) (by show sv ≠ dv; omega) _).drew⟩, rfl⟩ ?_
    (try dsimp only)
    go_wp2_with fail
    have hu := unhide HU
    cases c₀
    subst hw1
    simp_all [bodyPostS, results, Tryz.results28]
  ·
    (try simp only [Reg.wpOne])
    go_wp2_with (fail)
    refine Reg.thenQ_mk ⟨⟨_, (unhide HD).drew⟩, rfl⟩ ?_
    (try dsimp only)
    (try simp only [Reg.wpOne])
    go_wp2_with (fail)
    refine Reg.thenQ_mk ⟨⟨_, (unhide HD).drew⟩, rfl⟩ ?_
    (try dsimp only)
    refine Reg.take_read (by kernel_rfl) ?_
    go_big_quiet_step (fail)
    refine wpQuiet_nil ?_
    (try simp only [Reg.wpOne])
    go_wp2_with (fail)
    refine Reg.thenQ_mk ⟨⟨_, ((unhide HD).other (a := ⟨nv, 0, none⟩) (by show nv ≠ dv; omega) _).drew⟩, rfl⟩ ?_
    (try dsimp only)
    (try simp only [Reg.wpOne])
    go_wp2_with (fail)
    refine Reg.thenQ_mk ⟨⟨_, (((unhide HD).other (a := ⟨nv, 0, none⟩) (by show nv ≠ dv; omega) _).other (a := ⟨sv, 0, none⟩) (by show sv ≠ dv; omega) _).drew⟩, rfl⟩ ?_
    (try dsimp only)
    go_wp2_with fail
    have hu := unhide HU
    cases c₀
    subst hw1
    simp_all [bodyPostS, results, Tryz.results28]
end Go.Proofs.YtkaaeajidejchaaGreatDoor.Sp
