/- Lemmas for the statement's proof, several texts in one: O4, O5. -/
import Derived.Test.YtbpopmbabckojaaGreatDoorZ04
import Derived.Laws.Tables
import Derived.Laws.MakeOwn
import Derived.Laws.CopyOwn
import Derived.Deep.MidRow
set_option linter.unusedVariables false
set_option linter.unusedSimpArgs false
/- strings.Replacer.build at two single bytes that become two bytes each: the table. -/
section
namespace Go.Proofs.YtbpopmbabckojaaGreatDoor.Sp
open Go.RowKit Sl

theorem Has.grown {w w' : World} {b : Nat} {vs : List Value} {row : Option Nat} (h : Reg.Has w b vs) (hg : w.grownBy w' row) (hne : some b ≠ row) : Reg.Has w' b vs := by
  refine ⟨fun i v hv => hg.cell (h.cell i v hv) hne, fun i hi => ?_, Nat.lt_of_lt_of_le h.lt hg.size⟩
  rw [hg.frozen_far ⟨b, i, none⟩ h.lt hne]
  exact h.free i hi
theorem grown_set (w : World) (b i : Nat) (v : Value) : w.grownBy (w.setCell ⟨b, i, none⟩ v) (some b) :=
  ⟨rfl, rfl, rfl, by simp [World.setCell], fun k _ hk => Below.heap_setCell _ _ _ _ (fun e => hk (by simp [e]))⟩
/-- two blocks whose first cells part are two -/
theorem Has.ne {w : World} {b g : Nat} {vs : List Value} {u x : Value} (h : Reg.Has w b vs) (h0 : vs[0]? = some u) (hc : w.cell? ⟨g, 0, none⟩ = some x) (hx : u ≠ x) : g ≠ b := by
  rintro rfl
  rw [h.cell 0 u h0] at hc
  exact hx (Option.some.inj hc)

/-- u is a slice of these bytes, whole, in a block from B on -/
def BytesAt (B : Nat) (w : World) (u : Value) (l : List UInt8) : Prop := ∃ b c, u = .slice (some ⟨b, 0, none⟩) l.length c ∧ B ≤ b ∧ Reg.Has w b (Mem.bytesV l)
theorem BytesAt.call {B : Nat} {w w' : World} {u : Value} {l : List UInt8} (h : BytesAt B w u l) (hb : Below w.heap.size w w') : BytesAt B w' u l := by
  obtain ⟨b, c, rfl, hB, hh⟩ := h
  exact ⟨b, c, rfl, hB, hh.call hb⟩
/-- a replacer's table, built, in block t; all of it in blocks from B on -/
def RepTab (B : Nat) (w : World) (t : Nat) : Prop := B ≤ t ∧ ∃ A C v, Reg.Has w t (tabL A C v) ∧ BytesAt B w A [92, 34] ∧ BytesAt B w C [92, 92] ∧ w.ownsRow B 9 1 v 2 [.string ⟨#[92]⟩, .string ⟨#[34]⟩]
theorem RepTab.call {B : Nat} {w w' : World} {t : Nat} (h : RepTab B w t) (hb : Below w.heap.size w w') : RepTab B w' t := by
  obtain ⟨h0, A, C, v, h1, h2, h3, h4⟩ := h
  exact ⟨h0, A, C, v, h1.call hb, h2.call hb, h3.call hb, h4.kept (row := none) ⟨hb.os, hb.tape, hb.output, hb.size, fun k hk _ => hb.block k hk⟩ (by
    cases hv : v.ownBlock with
    | none => exact .inl rfl
    | some g => exact .inr (by simp))⟩
theorem RepTab.set {B : Nat} {w : World} {t : Nat} (h : RepTab B w t) (b i : Nat) (hb : b < B) (u : Value) : RepTab B (w.setCell ⟨b, i, none⟩ u) t := by
  obtain ⟨h0, A, C, v, h1, ⟨b2, c2, rfl, z2, h2⟩, ⟨b3, c3, rfl, z3, h3⟩, h4⟩ := h
  exact ⟨h0, _, _, v, h1.other (a := ⟨b, i, none⟩) (by show b ≠ t; omega) u, ⟨b2, c2, rfl, z2, h2.other (a := ⟨b, i, none⟩) (by show b ≠ b2; omega) u⟩, ⟨b3, c3, rfl, z3, h3.other (a := ⟨b, i, none⟩) (by show b ≠ b3; omega) u⟩, ownsRow_setCell_below h4 (a := ⟨b, i, none⟩) hb u⟩
theorem RepTab.drew {B : Nat} {w : World} {t : Nat} (h : RepTab B w t) : RepTab B w.drew t := h.call (Below.refl _ _).drew

/-- where build stands: so much is listed, the table holds A and B -/
structure BSt (w0 w : World) (t : Nat) (n : Nat) (xs : List Value) (A B v : Value) : Prop where
  own : Own w0 w w0.heap.size 9 1 v n xs
  tab : Reg.Has w t (tabL A B v)
  far : v.ownBlock ≠ some t
  le : w0.heap.size ≤ t

theorem makeS_run (w : World) : ∃ w1, (Instr.makeSlice 51 (.int .i64 0) (.int .i64 2)).run Tryz.prog w = .ok (.slice (some ⟨w.heap.size, 0, none⟩) 0 2) w1 ∧
    Own w w1 w.heap.size 9 1 (.slice (some ⟨w.heap.size, 0, none⟩) 0 2) 0 [] ∧ w.heap.size < w1.heap.size := by
  obtain ⟨i, hi, hz, h1, h2⟩ := info_parts (P := Tryz.prog) (e := 9) (z := .string ⟨#[]⟩) (size := 1) (bytes := 16) (by kernel_rfl)
  obtain ⟨w', hr, hown, hgr⟩ := run_makeSlice_owned (P := Tryz.prog) w w.heap.size 51 9 i _ 1 Tryz.underlying51 hi hz h1 .i64 .i64 2 (by omega) (by rw [h2]; omega) (by unfold maxLen; omega) (Nat.le_refl _)
  exact ⟨w', hr, ⟨hown, (Below.refl _ _).grown hgr (Nat.le_refl _) (fun k hk => by cases hk), hgr.size⟩, (hown.lt _ rfl).2⟩

section
variable {ops : Array Oper} {rest : List Oper} {o : Oper} {a : Act} {w : World} {Q : Exit → Act → World → Prop}
/-- append(out, u), u laid in a new block just before; what else is kept -/
theorem wpList_pushK {wr w0 : World} (hgd : o.guard = none) (s x : Operand) (ho : o.op = .call { callee := .builtin .append, args := #[s, x], argTypes := #[51, 51] })
    (base : Nat) (v : Value) (n : Nat) (xs : List Value) (hs : a.eval s = v) (hown : Own w0 wr base 9 1 v n xs) (u : ByteArray) (hw : w = wr.alloc (.cells #[.string u] 9))
    (gb c : Nat) (hgb : gb = wr.heap.size) (hx : a.eval x = .slice (some ⟨gb, 0, none⟩) 1 c) (hn : n ≤ 1000)
    (h : ∀ v' w1, Own w0 w1 base 9 1 v' (n + 1) (xs ++ [.string u]) → w.grownBy w1 v.ownBlock → wpList Tryz.prog ops Q rest (a.put o.dst v') w1) : wpList Tryz.prog ops Q (o :: rest) a w := by
  subst hgb
  subst hw
  obtain ⟨i, hi, hz, h1, h2⟩ := info_parts (P := Tryz.prog) (e := 9) (z := .string ⟨#[]⟩) (size := 1) (bytes := 16) (by kernel_rfl)
  have hA := hown.alloc (.cells #[.string u] 9)
  refine wpList_append_own _ hgd s x 51 ho base 9 i _ 1 16 Tryz.underlying51 hi hz h1 h2 rfl (by decide) v n xs hs hA.own ⟨wr.heap.size, 0, none⟩ 1 c [.string u] hx (by simp) (fun j y hy => ?_) (by intro y hy; simp at hy; subst hy; rfl) (by unfold maxLen; omega) (by omega) hA.le (fun v' w' h2 h3 _ => ?_)
  · rw [Addr.add_mid, Nat.zero_add, World.cell?_alloc_at _ _ _ _ rfl]
    simpa using hy
  · exact h v' w' ⟨h2, hA.bel.grown h3 hA.le (row_base hA.own), Nat.le_trans hA.le h3.size⟩ h3
end
theorem Own.set {w0 w : World} {base : Nat} {e : TypeId} {sz : Nat} {v : Value} {n : Nat} {xs : List Value} (h : Own w0 w base e sz v n xs) (b i : Nat) (hb : base ≤ b) (hne : v.ownBlock ≠ some b) (u : Value) : Own w0 (w.setCell ⟨b, i, none⟩ u) base e sz v n xs :=
  ⟨h.own.kept (grown_set w b i u) (.inr hne), h.bel.setCell hb u, by simpa [World.setCell] using h.le⟩

set_option maxRecDepth 100000 in
set_option maxHeartbeats 4000000 in
theorem build_any (b : Nat) (v : Value) (w : World) (h4 : w.cell? ⟨b, 4, none⟩ = some v) (hv : Rd w v 4 1 (strV repA)) :
    Calls Tryz.prog 158 #[.pointer (some ⟨b, 0, none⟩)] w fun e w' => ∃ t, e = .returned (.iface 207 (.pointer (some ⟨t, 0, none⟩))) ∧ RepTab w.heap.size w' t ∧ Below w.heap.size w w' := by
  obtain ⟨ao, cap, rfl⟩ := hv.form
  obtain ⟨g, off, rfl, hg, d0⟩ := str_cell hv 0 (by decide)
  obtain ⟨_, _, e1, _, d1⟩ := str_cell hv 1 (by decide)
  cases e1
  obtain ⟨_, _, e2, _, d2⟩ := str_cell hv 2 (by decide)
  cases e2
  obtain ⟨_, _, e3, _, d3⟩ := str_cell hv 3 (by decide)
  cases e3
  simp only [repA, List.getElem_cons_zero, List.getElem_cons_succ, Nat.add_zero] at d0 d1 d2 d3
  have hb4 := World.block_lt_of_cell? w _ h4
  clear hv
  go_enter Tryz.func158, Tryz.ntmps158
  go_wp2_with fail
  go_loop [4, 5] (fun al i => (al = .bool true ∧ i = .int .i64 0) ∨ (al = .bool false ∧ i = .int .i64 2) ∨ (al = .bool false ∧ i = .int .i64 4)) (fun _ i => 4 - (intOf i).toNat)
  case atStart => exact .inl ⟨rfl, rfl⟩
  case round =>
    rcases hrel with ⟨rfl, rfl⟩ | ⟨rfl, rfl⟩ | ⟨rfl, rfl⟩
    · go_wp2_with fail
      go_round
      case rel => exact .inr (.inl ⟨rfl, rfl⟩)
      case measure => simp [intOf]
    · go_wp2_with fail
      go_round
      case rel => exact .inr (.inr ⟨rfl, rfl⟩)
      case measure => simp [intOf]
    · obtain ⟨w1, hmk, ho1, hz1⟩ := makeS_run w
      have O1 := hide ho1
      clear ho1
      go_upto_region 27 with (first
        | (refine wpList_store_row rfl _ _ _ rfl w1.heap.size _ rfl rfl 206 tabZ (alloc_at _ _) (tab_info _) rfl (tab0_one _ _ _) ?_)
        | (refine wpList_tabBuild rfl _ rfl _ _ _ rfl ?_)
        | (refine wpList_tabAlloc rfl rfl ?_))
      have ST : Hid (BSt w ((w1.alloc (.cells tabZ 206)).setRow w1.heap.size (tab0 (.slice (some ⟨w.heap.size, 0, none⟩) 0 2))) w1.heap.size 0 [] nilS nilS (.slice (some ⟨w.heap.size, 0, none⟩) 0 2)) :=
        hide ⟨(unhide O1).call (below_tab0 w1 _), has_tab0 w1 _, by intro e; have := Option.some.inj e; simp at this; omega, Nat.le_of_lt hz1⟩
      clear O1 hmk
      generalize (w1.alloc (.cells tabZ 206)).setRow w1.heap.size (tab0 (.slice (some ⟨w.heap.size, 0, none⟩) 0 2)) = w2 at ST ⊢
      generalize w1.heap.size = t at *
      go_wp2_with fail
      go_loopw [12] (fun i wr => (i = .int .i64 2 ∧ ∃ v, BSt w wr t 0 [] nilS nilS v) ∨ (i = .int .i64 0 ∧ ∃ v B, BSt w wr t 1 [.string ⟨#[92]⟩] nilS B v ∧ BytesAt w.heap.size wr B [92, 92]) ∨
          (i = .int .i64 (-2) ∧ ∃ v A B, BSt w wr t 2 [.string ⟨#[92]⟩, .string ⟨#[34]⟩] A B v ∧ BytesAt w.heap.size wr A [92, 34] ∧ BytesAt w.heap.size wr B [92, 92])) (fun i _ => (intOf i + 2).toNat)
      case atStart => exact .inl ⟨rfl, _, unhide ST⟩
      case round =>
        rcases hrel with ⟨rfl, v, hst⟩ | ⟨rfl, v, B, hst, hB⟩ | ⟨rfl, v, A, B, hst, hA, hB⟩
        · obtain ⟨ao0, cp0, rfl⟩ := (Rd.own hst.own.own).form
          have eA := (hst.own.bel.cell (p := ⟨g, off + 2, none⟩) hg).trans d2
          have eB := (hst.own.bel.cell (p := ⟨g, off + 3, none⟩) hg).trans d3
          have eT := hst.tab.cell 92 _ (tabL_B _ _ _)
          have eS := hst.tab.cell 256 _ (tabL_S _ _ _)
          have zt := hst.tab.lt
          have zg := Nat.lt_of_lt_of_le hg hst.own.bel.size
          unfold nilS at eT
          have ST2 := hide hst
          have hlit : (⟨#[92]⟩ : ByteArray)[0].toNat = 92 := rfl
          have hnl := nil_eql
          have hgt : g ≠ t := by have := (unhide ST2).le; omega
          clear hst ST h4
          go_upto_region 34 with (first
            | (refine Mem.wpList_text rfl 66 9 5 _ rfl wr.heap.size 1 1 [92] rfl Tryz.underlying66 Tryz.underlying9 Tryz.underlying5 rfl (Reg.Has.new wr [.int .u8 92] 5) ?_)
            | (at_builtin; refine wpList_pushK (w0 := w) (wr := wr.alloc (.cells #[.int .u8 92] 5)) rfl _ _ rfl w.heap.size (.slice ao0 0 cp0) 0 _ rfl ((unhide ST2).own.alloc _) ⟨#[92]⟩ rfl (wr.heap.size + 1) 1 (by simp) rfl (by decide) ?_; intro v4 w4 ho4 hg4; obtain ⟨g1, cp1, rfl, _, zg1⟩ := World.ownsRow.form ho4.own (by decide); have T4 := hide (Has.grown (((unhide ST2).tab.alloc _).alloc _) hg4 (fun e => (unhide ST2).far e.symm)); have O4 := hide ho4; clear ho4 hg4; have eS4 := (unhide T4).cell 256 _ (tabL_S _ _ _); have fS4 := (unhide T4).free 256 (by rw [tabL_len]; decide); have zt4 := (unhide T4).lt; clear eT eS))
          have n41 : g1 ≠ t := Has.ne (unhide T4) (tabL_0 _ _ _) (x := .string ⟨#[92]⟩) ((unhide O4).own.cellAt 0 (by decide)) (by intro e; cases e)
          have O5 := hide (Own.set (unhide O4) t 256 (unhide ST2).le (by intro e; exact n41 (Option.some.inj e)) (.slice (some ⟨g1, 0, none⟩) 1 cp1))
          have T5 := hide ((unhide T4).put 256 (.slice (some ⟨g1, 0, none⟩) 1 cp1))
          rw [tabL_setS] at T5
          have eB5 := ((unhide O5).bel.cell (p := ⟨g, off + 3, none⟩) hg).trans d3
          clear eA eB eS4 fS4 zt4 O4 T4
          generalize w4.setCell ⟨t, 256, none⟩ (.slice (some ⟨g1, 0, none⟩) 1 cp1) = w5 at O5 T5 eB5 ⊢
          go_wp2_with (refine Mem.wpList_bytes rfl 9 66 5 _ rfl _ rfl Tryz.underlying9 Tryz.underlying66 Tryz.underlying5 ?_; intro cap2 w6 h6 hb6; have H6 := hide h6; have O6 := hide ((unhide O5).call hb6); have T6 := hide ((unhide T5).call hb6); clear h6 hb6; have eT6 := (unhide T6).cell 92 _ (tabL_B _ _ _); have fT6 := (unhide T6).free 92 (by rw [tabL_len]; decide); have zt6 := (unhide T6).lt; unfold nilS at eT6)
          go_roundw
          case rel =>
            have n6 : t ≠ w5.heap.size := Nat.ne_of_lt (unhide T5).lt
            have T7 := (unhide T6).put 92 (.slice (some ⟨w5.heap.size, 0, none⟩) 2 cap2)
            rw [tabL_setB] at T7
            exact .inr (.inl ⟨rfl, _, _, ⟨Own.set (unhide O6) t 92 (unhide ST2).le (by intro e; exact n41 (Option.some.inj e)) _, T7, by intro e; exact n41 (Option.some.inj e), (unhide ST2).le⟩, ⟨w5.heap.size, cap2, rfl, (unhide O5).bel.size, (unhide H6).other (a := ⟨t, 92, none⟩) n6 _⟩⟩)
          case measure => simp [intOf]
        · obtain ⟨g0, cp0, rfl, _, _⟩ := World.ownsRow.form hst.own.own (by decide)
          obtain ⟨b1, c1, rfl, zb1, hh1⟩ := hB
          have n01 : g0 ≠ b1 := Has.ne hh1 (u := .int .u8 92) rfl (x := .string ⟨#[92]⟩) (hst.own.own.cellAt 0 (by decide)) (by intro e; cases e)
          have eA := (hst.own.bel.cell (p := ⟨g, off, none⟩) hg).trans d0
          have eB := (hst.own.bel.cell (p := ⟨g, off + 1, none⟩) hg).trans d1
          have eT := hst.tab.cell 34 _ (tabL_A _ _ _)
          have eS := hst.tab.cell 256 _ (tabL_S _ _ _)
          have zt := hst.tab.lt
          have zg := Nat.lt_of_lt_of_le hg hst.own.bel.size
          unfold nilS at eT
          have ST2 := hide hst
          have HB0 := hide hh1
          have hlit : (⟨#[34]⟩ : ByteArray)[0].toNat = 34 := rfl
          have hnl := nil_eql
          have hgt : g ≠ t := by have := (unhide ST2).le; omega
          clear hst ST h4 hh1
          go_upto_region 34 with (first
            | (refine Mem.wpList_text rfl 66 9 5 _ rfl wr.heap.size 1 1 [34] rfl Tryz.underlying66 Tryz.underlying9 Tryz.underlying5 rfl (Reg.Has.new wr [.int .u8 34] 5) ?_)
            | (at_builtin; refine wpList_pushK (w0 := w) (wr := wr.alloc (.cells #[.int .u8 34] 5)) rfl _ _ rfl w.heap.size (.slice (some ⟨g0, 0, none⟩) 1 cp0) 1 _ rfl ((unhide ST2).own.alloc _) ⟨#[34]⟩ rfl (wr.heap.size + 1) 1 (by simp) rfl (by decide) ?_; intro v4 w4 ho4 hg4; obtain ⟨g1, cp1, rfl, _, zg1⟩ := World.ownsRow.form ho4.own (by decide); have T4 := hide (Has.grown (((unhide ST2).tab.alloc _).alloc _) hg4 (fun e => (unhide ST2).far e.symm)); have O4 := hide ho4; have HB4 := hide (Has.grown (((unhide HB0).alloc _).alloc _) hg4 (fun e => n01 (Option.some.inj e).symm)); clear ho4 hg4; have eS4 := (unhide T4).cell 256 _ (tabL_S _ _ _); have fS4 := (unhide T4).free 256 (by rw [tabL_len]; decide); have zt4 := (unhide T4).lt; clear eT eS))
          have n41 : g1 ≠ t := Has.ne (unhide T4) (tabL_0 _ _ _) (x := .string ⟨#[92]⟩) ((unhide O4).own.cellAt 0 (by decide)) (by intro e; cases e)
          have n42 : t ≠ b1 := Has.ne (unhide HB4) (u := .int .u8 92) rfl (x := nilS) ((unhide T4).cell 0 _ (tabL_0 _ _ _)) (by intro e; cases e)
          have O5 := hide (Own.set (unhide O4) t 256 (unhide ST2).le (by intro e; exact n41 (Option.some.inj e)) (.slice (some ⟨g1, 0, none⟩) 2 cp1))
          have T5 := hide ((unhide T4).put 256 (.slice (some ⟨g1, 0, none⟩) 2 cp1))
          rw [tabL_setS] at T5
          have HB5 := hide ((unhide HB4).other (a := ⟨t, 256, none⟩) n42 (.slice (some ⟨g1, 0, none⟩) 2 cp1))
          have eB5 := ((unhide O5).bel.cell (p := ⟨g, off + 1, none⟩) hg).trans d1
          clear eA eB eS4 fS4 zt4 O4 T4 HB4 HB0
          generalize w4.setCell ⟨t, 256, none⟩ (.slice (some ⟨g1, 0, none⟩) 2 cp1) = w5 at O5 T5 eB5 HB5 ⊢
          go_wp2_with (refine Mem.wpList_bytes rfl 9 66 5 _ rfl _ rfl Tryz.underlying9 Tryz.underlying66 Tryz.underlying5 ?_; intro cap2 w6 h6 hb6; have H6 := hide h6; have O6 := hide ((unhide O5).call hb6); have T6 := hide ((unhide T5).call hb6); have HB6 := hide ((unhide HB5).call hb6); clear h6 hb6; have eT6 := (unhide T6).cell 34 _ (tabL_A _ _ _); have fT6 := (unhide T6).free 34 (by rw [tabL_len]; decide); have zt6 := (unhide T6).lt; unfold nilS at eT6)
          go_roundw
          case rel =>
            have n6 : t ≠ w5.heap.size := Nat.ne_of_lt (unhide T5).lt
            have T7 := (unhide T6).put 34 (.slice (some ⟨w5.heap.size, 0, none⟩) 2 cap2)
            rw [tabL_setA] at T7
            exact .inr (.inr ⟨rfl, _, _, _, ⟨Own.set (unhide O6) t 34 (unhide ST2).le (by intro e; exact n41 (Option.some.inj e)) _, T7, by intro e; exact n41 (Option.some.inj e), (unhide ST2).le⟩, ⟨w5.heap.size, cap2, rfl, (unhide O5).bel.size, (unhide H6).other (a := ⟨t, 34, none⟩) n6 _⟩, b1, c1, rfl, zb1, (unhide HB6).other (a := ⟨t, 34, none⟩) n42 _⟩)
          case measure => simp [intOf]
        · have ST3 := hide hst
          clear hst ST h4 d0 d1 d2 d3
          go_wp2_with fail
          go_ret
          exact ⟨t, rfl, ⟨(unhide ST3).le, A, B, v, (unhide ST3).tab, hA, hB, (unhide ST3).own.own⟩, (unhide ST3).own.bel⟩
end Go.Proofs.YtbpopmbabckojaaGreatDoor.Sp
end

/- What a byteStringReplacer with these two bytes makes of a text; a row of bytes of one's own. -/
section
namespace Go.Proofs.YtbpopmbabckojaaGreatDoor.Sp
open Go.RowKit

def spec (c : UInt8) : Bool := c == 34 || c == 92
def escC (c : UInt8) : List UInt8 := if spec c = true then [92, c] else [c]
def esc (l : List UInt8) : List UInt8 := l.flatMap escC
/-- so many bytes are replaced -/
def extra (l : List UInt8) : Nat := l.countP spec
theorem escC_len (c : UInt8) : (escC c).length = if spec c = true then 2 else 1 := by unfold escC; split <;> rfl
theorem esc_len (l : List UInt8) : (esc l).length = l.length + extra l := by
  unfold esc extra
  induction l with
  | nil => rfl
  | cons c t ih =>
    rw [List.flatMap_cons, List.length_append, ih, List.length_cons, List.countP_cons, escC_len]
    split <;> omega
theorem esc_none (l : List UInt8) (h : extra l = 0) : esc l = l := by
  unfold extra at h
  rw [List.countP_eq_zero] at h
  unfold esc
  induction l with
  | nil => rfl
  | cons c t ih =>
    rw [List.flatMap_cons, ih (fun a ha => h a (List.mem_cons_of_mem _ ha))]
    have hc : spec c = false := by have := h c List.mem_cons_self; simpa using this
    unfold escC
    rw [if_neg (by rw [hc]; decide)]
    rfl
theorem extra_count (l : List UInt8) : extra l = l.count 92 + l.count 34 := by
  unfold extra List.count
  induction l with
  | nil => rfl
  | cons c t ih =>
    rw [List.countP_cons, List.countP_cons, List.countP_cons, ih]
    unfold spec
    by_cases h1 : c = 34
    · subst h1; simp; omega
    · by_cases h2 : c = 92
      · subst h2; simp; omega
      · simp [h1, h2]
theorem extra_le (l : List UInt8) : extra l ≤ l.length := List.countP_le_length
theorem extra_take (s : ByteArray) (k : Nat) (h : k < s.size) : extra (s.data.toList.take (k + 1)) = extra (s.data.toList.take k) + if spec s[k] = true then 1 else 0 := by
  have h' : k < s.data.toList.length := by simpa using h
  unfold extra
  rw [List.take_succ_eq_append_getElem h', List.countP_append]
  congr 1
  rw [List.countP_cons, List.countP_nil, Nat.zero_add]
  rfl
theorem esc_take (s : ByteArray) (k : Nat) (h : k < s.size) : esc (s.data.toList.take (k + 1)) = esc (s.data.toList.take k) ++ escC s[k] := by
  have h' : k < s.data.toList.length := by simpa using h
  unfold esc
  rw [List.take_succ_eq_append_getElem h', List.flatMap_append, List.flatMap_cons, List.flatMap_nil, List.append_nil]
  rfl
theorem extra_take_le (l : List UInt8) (k : Nat) : extra (l.take k) ≤ extra l := List.Sublist.countP_le (List.take_sublist k l)
theorem take_len (s : ByteArray) (k : Nat) (h : k ≤ s.size) : (s.data.toList.take k).length = k := by
  rw [List.length_take]; have : s.data.toList.length = s.size := by simp
  omega
theorem spec_nat (c : UInt8) : spec c = (((c.toNat : Int) == 34) || ((c.toNat : Int) == 92)) := by
  revert c
  intro c
  have := byte_all (fun c => spec c == (((c.toNat : Int) == 34) || ((c.toNat : Int) == 92))) (by decide +kernel) c
  simpa using this

/-- a row of bytes of one's own, in block g -/
def RowB (w : World) (g : Nat) (L : List UInt8) : Prop := w.heap[g]? = some (.cells (Mem.bytesV L).toArray 5 (0, 0))
section
variable {w w' : World} {g : Nat} {L : List UInt8}
theorem RowB.has (h : RowB w g L) : Reg.Has w g (Mem.bytesV L) := by
  refine ⟨fun i v hv => ?_, fun i hi => ?_, (Array.getElem?_eq_some_iff.1 h).1⟩
  · have h' : w.heap[g]? = some (.cells (Mem.bytesV L).toArray 5 (0, 0)) := h
    simp only [World.cell?, h']
    simpa using hv
  · have h' : w.heap[g]? = some (.cells (Mem.bytesV L).toArray 5 (0, 0)) := h
    simp only [World.frozen?, h']
    simp
theorem RowB.call (h : RowB w g L) (hb : Below w.heap.size w w') : RowB w' g L := by
  unfold RowB
  rw [hb.block g (Array.getElem?_eq_some_iff.1 h).1]
  exact h
theorem RowB.set (h : RowB w g L) (i : Nat) (c : UInt8) : RowB (w.setCell ⟨g, i, none⟩ (.int .u8 c.toNat)) g (L.set i c) := by
  unfold RowB
  rw [setCell_eq_setRow w g i _ _ _ _ h]
  have := setRow_heap w g _ ((Mem.bytesV L).toArray.setIfInBounds i (.int .u8 c.toNat)) _ _ h
  rw [this]
  congr 2
  rw [← Mem.bytesV_set]
  simp
end
theorem made_zero (n : Nat) : madeCells #[.int .u8 0] n = (Mem.bytesV (List.replicate n 0)).toArray := by
  unfold madeCells Mem.bytesV
  apply Array.ext
  · simp
  · intro i h1 h2
    simp [Nat.mod_one]
theorem make_bytes (w : World) (n : Nat) (hn : n ≤ 16000000) : ∃ w1, (Instr.makeSlice 66 (.int .i64 n) (.int .i64 n)).run Tryz.prog w = .ok (.slice (some ⟨w.heap.size, 0, none⟩) n n) w1 ∧
    RowB w1 w.heap.size (List.replicate n 0) ∧ Below w.heap.size w w1 := by
  obtain ⟨i, hi, hz, h1, h2⟩ := info_parts (P := Tryz.prog) (e := 5) (z := .int .u8 0) (size := 1) (bytes := 1) (by kernel_rfl)
  have hr := run_makeSlice (P := Tryz.prog) w 66 5 i (.int .u8 0) Tryz.underlying66 hi hz .i64 .i64 n n (by omega) (Int.le_refl _) (by rw [h1]; simp; omega) (by rw [h2]; omega) (by omega)
  refine ⟨_, hr, ?_, (Below.refl _ _).alloc (Nat.le_refl _) _⟩
  unfold RowB
  rw [h1]
  have : (Value.int IntKind.u8 0).cells = #[.int .u8 0] := rfl
  rw [this, made_zero]
  rw [Int.toNat_natCast, Nat.mul_one]
  exact alloc_at _ _
theorem splice_take (L : List UInt8) (j : Nat) (cs : List UInt8) (h : j + cs.length ≤ L.length) : (splice L j cs).take (j + cs.length) = L.take j ++ cs := by
  unfold splice
  rw [← List.append_assoc, List.take_append_of_le_length (by rw [List.length_append, List.length_take]; omega), List.take_of_length_le (by rw [List.length_append, List.length_take]; omega)]
theorem splice_map (L : List UInt8) (j : Nat) (cs : List UInt8) : splice (Mem.bytesV L) j (Mem.bytesV cs) = Mem.bytesV (splice L j cs) := by
  unfold splice Mem.bytesV
  simp [List.map_append, List.map_take, List.map_drop]
theorem set_take (L : List UInt8) (j : Nat) (c : UInt8) (h : j < L.length) : (L.set j c).take (j + 1) = L.take j ++ [c] := by
  rw [List.take_succ_eq_append_getElem (by rw [List.length_set]; exact h), List.getElem_set_self, List.take_set_of_le (Nat.le_refl _)]
end Go.Proofs.YtbpopmbabckojaaGreatDoor.Sp
end
