/- strings.Replacer.build at two single bytes that become two bytes each: the table. -/
import Derived.Test.YtfkobhagdjaleaaGreatDoorO3
namespace Go.Proofs.YtfkobhagdjaleaaGreatDoor.Sp
open Go.RowKit Sl

theorem Has.grown {w w' : World} {b : Nat} {vs : List Value} {row : Option Nat} (h : Reg.Has w b vs) (hg : w.grownBy w' row) (hne : some b ≠ row) : Reg.Has w' b vs := by
  refine ⟨fun i v hv => hg.cell (h.cell i v hv) hne, fun i hi => ?_, Nat.lt_of_lt_of_le h.lt hg.size⟩
  rw [hg.frozen_far ⟨b, i, none⟩ h.lt hne]
  exact h.free i hi
theorem grown_set (w : World) (b i : Nat) (v : Value) : w.grownBy (w.setCell ⟨b, i, none⟩ v) (some b) :=
  ⟨rfl, rfl, rfl, by simp [World.setCell], fun k _ hk => Below.heap_setCell _ _ _ _ (fun e => hk (by simp [e]))⟩
/-- two blocks whose first cells part are two -/
theorem Has.ne {w : World} {b g : Nat} {vs : List Value} {u x : Value} (h : Reg.Has w b vs) (h0 : vs[0]? = some u) (hc : w.cell? ⟨g, 0, none⟩ = some x) (hx : u ≠ x) : g ≠ b := by
  rintro rfl
  rw [h.cell 0 u h0] at hc
  exact hx (Option.some.inj hc)

/-- u is a slice of these bytes, whole, in a block from B on -/
def BytesAt (B : Nat) (w : World) (u : Value) (l : List UInt8) : Prop := ∃ b c, u = .slice (some ⟨b, 0, none⟩) l.length c ∧ B ≤ b ∧ Reg.Has w b (Mem.bytesV l)
theorem BytesAt.call {B : Nat} {w w' : World} {u : Value} {l : List UInt8} (h : BytesAt B w u l) (hb : Below w.heap.size w w') : BytesAt B w' u l := by
  obtain ⟨b, c, rfl, hB, hh⟩ := h
  exact ⟨b, c, rfl, hB, hh.call hb⟩
/-- a replacer's table, built, in block t; all of it in blocks from B on -/
def RepTab (B : Nat) (w : World) (t : Nat) : Prop := B ≤ t ∧ ∃ A C v, Reg.Has w t (tabL A C v) ∧ BytesAt B w A [92, 34] ∧ BytesAt B w C [92, 92] ∧ w.ownsRow B 9 1 v 2 [.string ⟨#[92]⟩, .string ⟨#[34]⟩]
theorem RepTab.call {B : Nat} {w w' : World} {t : Nat} (h : RepTab B w t) (hb : Below w.heap.size w w') : RepTab B w' t := by
  obtain ⟨h0, A, C, v, h1, h2, h3, h4⟩ := h
  exact ⟨h0, A, C, v, h1.call hb, h2.call hb, h3.call hb, h4.kept (row := none) ⟨hb.os, hb.tape, hb.output, hb.size, fun k hk _ => hb.block k hk⟩ (by
    cases hv : v.ownBlock with
    | none => exact .inl rfl
    | some g => exact .inr (by simp))⟩
theorem RepTab.set {B : Nat} {w : World} {t : Nat} (h : RepTab B w t) (b i : Nat) (hb : b < B) (u : Value) : RepTab B (w.setCell ⟨b, i, none⟩ u) t := by
  obtain ⟨h0, A, C, v, h1, ⟨b2, c2, rfl, z2, h2⟩, ⟨b3, c3, rfl, z3, h3⟩, h4⟩ := h
  exact ⟨h0, _, _, v, h1.other (a := ⟨b, i, none⟩) (by show b ≠ t; omega) u, ⟨b2, c2, rfl, z2, h2.other (a := ⟨b, i, none⟩) (by show b ≠ b2; omega) u⟩, ⟨b3, c3, rfl, z3, h3.other (a := ⟨b, i, none⟩) (by show b ≠ b3; omega) u⟩, ownsRow_setCell_below h4 (a := ⟨b, i, none⟩) hb u⟩
theorem RepTab.drew {B : Nat} {w : World} {t : Nat} (h : RepTab B w t) : RepTab B w.drew t := h.call (Below.refl _ _).drew

/-- where build stands: so much is listed, the table holds A and B -/
structure BSt (w0 w : World) (t : Nat) (n : Nat) (xs : List Value) (A B v : Value) : Prop where
  own : Own w0 w w0.heap.size 9 1 v n xs
  tab : Reg.Has w t (tabL A B v)
  far : v.ownBlock ≠ some t
  le : w0.heap.size ≤ t

theorem makeS_run (w : World) : ∃ w1, (Instr.makeSlice 97 (.int .i64 0) (.int .i64 2)).run Tryz.prog w = .ok (.slice (some ⟨w.heap.size, 0, none⟩) 0 2) w1 ∧
    Own w w1 w.heap.size 9 1 (.slice (some ⟨w.heap.size, 0, none⟩) 0 2) 0 [] ∧ w.heap.size < w1.heap.size := by
  obtain ⟨i, hi, hz, h1, h2⟩ := info_parts (P := Tryz.prog) (e := 9) (z := .string ⟨#[]⟩) (size := 1) (bytes := 16) (by kernel_rfl)
  obtain ⟨w', hr, hown, hgr⟩ := run_makeSlice_owned (P := Tryz.prog) w w.heap.size 97 9 i _ 1 Tryz.underlying97 hi hz h1 .i64 .i64 2 (by omega) (by rw [h2]; omega) (by unfold maxLen; omega) (Nat.le_refl _)
  exact ⟨w', hr, ⟨hown, (Below.refl _ _).grown hgr (Nat.le_refl _) (fun k hk => by cases hk), hgr.size⟩, (hown.lt _ rfl).2⟩

section
variable {ops : Array Oper} {rest : List Oper} {o : Oper} {a : Act} {w : World} {Q : Exit → Act → World → Prop}
/-- append(out, u), u laid in a new block just before; what else is kept -/
theorem wpList_pushK {wr w0 : World} (hgd : o.guard = none) (s x : Operand) (ho : o.op = .call { callee := .builtin .append, args := #[s, x], argTypes := #[97, 97] })
    (base : Nat) (v : Value) (n : Nat) (xs : List Value) (hs : a.eval s = v) (hown : Own w0 wr base 9 1 v n xs) (u : ByteArray) (hw : w = wr.alloc (.cells #[.string u] 9))
    (gb c : Nat) (hgb : gb = wr.heap.size) (hx : a.eval x = .slice (some ⟨gb, 0, none⟩) 1 c) (hn : n ≤ 1000)
    (h : ∀ v' w1, Own w0 w1 base 9 1 v' (n + 1) (xs ++ [.string u]) → w.grownBy w1 v.ownBlock → wpList Tryz.prog ops Q rest (a.put o.dst v') w1) : wpList Tryz.prog ops Q (o :: rest) a w := by
  subst hgb
  subst hw
  obtain ⟨i, hi, hz, h1, h2⟩ := info_parts (P := Tryz.prog) (e := 9) (z := .string ⟨#[]⟩) (size := 1) (bytes := 16) (by kernel_rfl)
  have hA := hown.alloc (.cells #[.string u] 9)
  refine wpList_append_own _ hgd s x 97 ho base 9 i _ 1 16 Tryz.underlying97 hi hz h1 h2 rfl (by decide) v n xs hs hA.own ⟨wr.heap.size, 0, none⟩ 1 c [.string u] hx (by simp) (fun j y hy => ?_) (by intro y hy; simp at hy; subst hy; rfl) (by unfold maxLen; omega) (by omega) hA.le (fun v' w' h2 h3 _ => ?_)
  · rw [Addr.add_mid, Nat.zero_add, World.cell?_alloc_at _ _ _ _ rfl]
    simpa using hy
  · exact h v' w' ⟨h2, hA.bel.grown h3 hA.le (row_base hA.own), Nat.le_trans hA.le h3.size⟩ h3
end
theorem Own.set {w0 w : World} {base : Nat} {e : TypeId} {sz : Nat} {v : Value} {n : Nat} {xs : List Value} (h : Own w0 w base e sz v n xs) (b i : Nat) (hb : base ≤ b) (hne : v.ownBlock ≠ some b) (u : Value) : Own w0 (w.setCell ⟨b, i, none⟩ u) base e sz v n xs :=
  ⟨h.own.kept (grown_set w b i u) (.inr hne), h.bel.setCell hb u, by simpa [World.setCell] using h.le⟩

set_option maxRecDepth 100000 in
set_option maxHeartbeats 4000000 in
theorem build_any (b : Nat) (v : Value) (w : World) (h4 : w.cell? ⟨b, 4, none⟩ = some v) (hv : Rd w v 4 1 (strV repA)) :
    Calls Tryz.prog 112 #[.pointer (some ⟨b, 0, none⟩)] w fun e w' => ∃ t, e = .returned (.iface 152 (.pointer (some ⟨t, 0, none⟩))) ∧ RepTab w.heap.size w' t ∧ Below w.heap.size w w' := by
  obtain ⟨ao, cap, rfl⟩ := hv.form
  obtain ⟨g, off, rfl, hg, d0⟩ := str_cell hv 0 (by decide)
  obtain ⟨_, _, e1, _, d1⟩ := str_cell hv 1 (by decide)
  cases e1
  obtain ⟨_, _, e2, _, d2⟩ := str_cell hv 2 (by decide)
  cases e2
  obtain ⟨_, _, e3, _, d3⟩ := str_cell hv 3 (by decide)
  cases e3
  simp only [repA, List.getElem_cons_zero, List.getElem_cons_succ, Nat.add_zero] at d0 d1 d2 d3
  have hb4 := World.block_lt_of_cell? w _ h4
  clear hv
  go_enter Tryz.func112, Tryz.ntmps112
  go_wp2_with fail
  go_loop [4, 5] (fun al i => (al = .bool true ∧ i = .int .i64 0) ∨ (al = .bool false ∧ i = .int .i64 2) ∨ (al = .bool false ∧ i = .int .i64 4)) (fun _ i => 4 - (intOf i).toNat)
  case atStart => exact .inl ⟨rfl, rfl⟩
  case round =>
    rcases hrel with ⟨rfl, rfl⟩ | ⟨rfl, rfl⟩ | ⟨rfl, rfl⟩
    · go_wp2_with fail
      go_round
      case rel => exact .inr (.inl ⟨rfl, rfl⟩)
      case measure => simp [intOf]
    · go_wp2_with fail
      go_round
      case rel => exact .inr (.inr ⟨rfl, rfl⟩)
      case measure => simp [intOf]
    · obtain ⟨w1, hmk, ho1, hz1⟩ := makeS_run w
      have O1 := hide ho1
      clear ho1
      go_upto_region 27 with (first
        | (refine wpList_store_row rfl _ _ _ rfl w1.heap.size _ rfl rfl 151 tabZ (alloc_at _ _) (tab_info _) rfl (tab0_one _ _ _) ?_)
        | (refine wpList_tabBuild rfl _ rfl _ _ _ rfl ?_)
        | (refine wpList_tabAlloc rfl rfl ?_))
      have ST : Hid (BSt w ((w1.alloc (.cells tabZ 151)).setRow w1.heap.size (tab0 (.slice (some ⟨w.heap.size, 0, none⟩) 0 2))) w1.heap.size 0 [] nilS nilS (.slice (some ⟨w.heap.size, 0, none⟩) 0 2)) :=
        hide ⟨(unhide O1).call (below_tab0 w1 _), has_tab0 w1 _, by intro e; have := Option.some.inj e; simp at this; omega, Nat.le_of_lt hz1⟩
      clear O1 hmk
      generalize (w1.alloc (.cells tabZ 151)).setRow w1.heap.size (tab0 (.slice (some ⟨w.heap.size, 0, none⟩) 0 2)) = w2 at ST ⊢
      generalize w1.heap.size = t at *
      go_wp2_with fail
      go_loopw [12] (fun i wr => (i = .int .i64 2 ∧ ∃ v, BSt w wr t 0 [] nilS nilS v) ∨ (i = .int .i64 0 ∧ ∃ v B, BSt w wr t 1 [.string ⟨#[92]⟩] nilS B v ∧ BytesAt w.heap.size wr B [92, 92]) ∨
          (i = .int .i64 (-2) ∧ ∃ v A B, BSt w wr t 2 [.string ⟨#[92]⟩, .string ⟨#[34]⟩] A B v ∧ BytesAt w.heap.size wr A [92, 34] ∧ BytesAt w.heap.size wr B [92, 92])) (fun i _ => (intOf i + 2).toNat)
      case atStart => exact .inl ⟨rfl, _, unhide ST⟩
      case round =>
        rcases hrel with ⟨rfl, v, hst⟩ | ⟨rfl, v, B, hst, hB⟩ | ⟨rfl, v, A, B, hst, hA, hB⟩
        · obtain ⟨ao0, cp0, rfl⟩ := (Rd.own hst.own.own).form
          have eA := (hst.own.bel.cell (p := ⟨g, off + 2, none⟩) hg).trans d2
          have eB := (hst.own.bel.cell (p := ⟨g, off + 3, none⟩) hg).trans d3
          have eT := hst.tab.cell 92 _ (tabL_B _ _ _)
          have eS := hst.tab.cell 256 _ (tabL_S _ _ _)
          have zt := hst.tab.lt
          have zg := Nat.lt_of_lt_of_le hg hst.own.bel.size
          unfold nilS at eT
          have ST2 := hide hst
          have hlit : (⟨#[92]⟩ : ByteArray)[0].toNat = 92 := rfl
          have hnl := nil_eql
          have hgt : g ≠ t := by have := (unhide ST2).le; omega
          clear hst ST h4
          go_upto_region 34 with (first
            | (refine Mem.wpList_text rfl 54 9 5 _ rfl wr.heap.size 1 1 [92] rfl Tryz.underlying54 Tryz.underlying9 Tryz.underlying5 rfl (Reg.Has.new wr [.int .u8 92] 5) ?_)
            | (at_builtin; refine wpList_pushK (w0 := w) (wr := wr.alloc (.cells #[.int .u8 92] 5)) rfl _ _ rfl w.heap.size (.slice ao0 0 cp0) 0 _ rfl ((unhide ST2).own.alloc _) ⟨#[92]⟩ rfl (wr.heap.size + 1) 1 (by simp) rfl (by decide) ?_; intro v4 w4 ho4 hg4; obtain ⟨g1, cp1, rfl, _, zg1⟩ := World.ownsRow.form ho4.own (by decide); have T4 := hide (Has.grown (((unhide ST2).tab.alloc _).alloc _) hg4 (fun e => (unhide ST2).far e.symm)); have O4 := hide ho4; clear ho4 hg4; have eS4 := (unhide T4).cell 256 _ (tabL_S _ _ _); have fS4 := (unhide T4).free 256 (by rw [tabL_len]; decide); have zt4 := (unhide T4).lt; clear eT eS))
          have n41 : g1 ≠ t := Has.ne (unhide T4) (tabL_0 _ _ _) (x := .string ⟨#[92]⟩) ((unhide O4).own.cellAt 0 (by decide)) (by intro e; cases e)
          have O5 := hide (Own.set (unhide O4) t 256 (unhide ST2).le (by intro e; exact n41 (Option.some.inj e)) (.slice (some ⟨g1, 0, none⟩) 1 cp1))
          have T5 := hide ((unhide T4).put 256 (.slice (some ⟨g1, 0, none⟩) 1 cp1))
          rw [tabL_setS] at T5
          have eB5 := ((unhide O5).bel.cell (p := ⟨g, off + 3, none⟩) hg).trans d3
          clear eA eB eS4 fS4 zt4 O4 T4
          generalize w4.setCell ⟨t, 256, none⟩ (.slice (some ⟨g1, 0, none⟩) 1 cp1) = w5 at O5 T5 eB5 ⊢
          go_wp2_with (refine Mem.wpList_bytes rfl 9 54 5 _ rfl _ rfl Tryz.underlying9 Tryz.underlying54 Tryz.underlying5 ?_; intro cap2 w6 h6 hb6; have H6 := hide h6; have O6 := hide ((unhide O5).call hb6); have T6 := hide ((unhide T5).call hb6); clear h6 hb6; have eT6 := (unhide T6).cell 92 _ (tabL_B _ _ _); have fT6 := (unhide T6).free 92 (by rw [tabL_len]; decide); have zt6 := (unhide T6).lt; unfold nilS at eT6)
          go_roundw
          case rel =>
            have n6 : t ≠ w5.heap.size := Nat.ne_of_lt (unhide T5).lt
            have T7 := (unhide T6).put 92 (.slice (some ⟨w5.heap.size, 0, none⟩) 2 cap2)
            rw [tabL_setB] at T7
            exact .inr (.inl ⟨rfl, _, _, ⟨Own.set (unhide O6) t 92 (unhide ST2).le (by intro e; exact n41 (Option.some.inj e)) _, T7, by intro e; exact n41 (Option.some.inj e), (unhide ST2).le⟩, ⟨w5.heap.size, cap2, rfl, (unhide O5).bel.size, (unhide H6).other (a := ⟨t, 92, none⟩) n6 _⟩⟩)
          case measure => simp [intOf]
        · obtain ⟨g0, cp0, rfl, _, _⟩ := World.ownsRow.form hst.own.own (by decide)
          obtain ⟨b1, c1, rfl, zb1, hh1⟩ := hB
          have n01 : g0 ≠ b1 := Has.ne hh1 (u := .int .u8 92) rfl (x := .string ⟨#[92]⟩) (hst.own.own.cellAt 0 (by decide)) (by intro e; cases e)
          have eA := (hst.own.bel.cell (p := ⟨g, off, none⟩) hg).trans d0
          have eB := (hst.own.bel.cell (p := ⟨g, off + 1, none⟩) hg).trans d1
          have eT := hst.tab.cell 34 _ (tabL_A _ _ _)
          have eS := hst.tab.cell 256 _ (tabL_S _ _ _)
          have zt := hst.tab.lt
          have zg := Nat.lt_of_lt_of_le hg hst.own.bel.size
          unfold nilS at eT
          have ST2 := hide hst
          have HB0 := hide hh1
          have hlit : (⟨#[34]⟩ : ByteArray)[0].toNat = 34 := rfl
          have hnl := nil_eql
          have hgt : g ≠ t := by have := (unhide ST2).le; omega
          clear hst ST h4 hh1
          go_upto_region 34 with (first
            | (refine Mem.wpList_text rfl 54 9 5 _ rfl wr.heap.size 1 1 [34] rfl Tryz.underlying54 Tryz.underlying9 Tryz.underlying5 rfl (Reg.Has.new wr [.int .u8 34] 5) ?_)
            | (at_builtin; refine wpList_pushK (w0 := w) (wr := wr.alloc (.cells #[.int .u8 34] 5)) rfl _ _ rfl w.heap.size (.slice (some ⟨g0, 0, none⟩) 1 cp0) 1 _ rfl ((unhide ST2).own.alloc _) ⟨#[34]⟩ rfl (wr.heap.size + 1) 1 (by simp) rfl (by decide) ?_; intro v4 w4 ho4 hg4; obtain ⟨g1, cp1, rfl, _, zg1⟩ := World.ownsRow.form ho4.own (by decide); have T4 := hide (Has.grown (((unhide ST2).tab.alloc _).alloc _) hg4 (fun e => (unhide ST2).far e.symm)); have O4 := hide ho4; have HB4 := hide (Has.grown (((unhide HB0).alloc _).alloc _) hg4 (fun e => n01 (Option.some.inj e).symm)); clear ho4 hg4; have eS4 := (unhide T4).cell 256 _ (tabL_S _ _ _); have fS4 := (unhide T4).free 256 (by rw [tabL_len]; decide); have zt4 := (unhide T4).lt; clear eT eS))
          have n41 : g1 ≠ t := Has.ne (unhide T4) (tabL_0 _ _ _) (x := .string ⟨#[92]⟩) ((unhide O4).own.cellAt 0 (by decide)) (by intro e; cases e)
          have n42 : t ≠ b1 := Has.ne (unhide HB4) (u := .int .u8 92) rfl (x := nilS) ((unhide T4).cell 0 _ (tabL_0 _ _ _)) (by intro e; cases e)
          have O5 := hide (Own.set (unhide O4) t 256 (unhide ST2).le (by intro e; exact n41 (Option.some.inj e)) (.slice (some ⟨g1, 0, none⟩) 2 cp1))
          have T5 := hide ((unhide T4).put 256 (.slice (some ⟨g1, 0, none⟩) 2 cp1))
          rw [tabL_setS] at T5
          have HB5 := hide ((unhide HB4).other (a := ⟨t, 256, none⟩) n42 (.slice (some ⟨g1, 0, none⟩) 2 cp1))
          have eB5 := ((unhide O5).bel.cell (p := ⟨g, off + 1, none⟩) hg).trans d1
          clear eA eB eS4 fS4 zt4 O4 T4 HB4 HB0
          generalize w4.setCell ⟨t, 256, none⟩ (.slice (some ⟨g1, 0, none⟩) 2 cp1) = w5 at O5 T5 eB5 HB5 ⊢
          go_wp2_with (refine Mem.wpList_bytes rfl 9 54 5 _ rfl _ rfl Tryz.underlying9 Tryz.underlying54 Tryz.underlying5 ?_; intro cap2 w6 h6 hb6; have H6 := hide h6; have O6 := hide ((unhide O5).call hb6); have T6 := hide ((unhide T5).call hb6); have HB6 := hide ((unhide HB5).call hb6); clear h6 hb6; have eT6 := (unhide T6).cell 34 _ (tabL_A _ _ _); have fT6 := (unhide T6).free 34 (by rw [tabL_len]; decide); have zt6 := (unhide T6).lt; unfold nilS at eT6)
          go_roundw
          case rel =>
            have n6 : t ≠ w5.heap.size := Nat.ne_of_lt (unhide T5).lt
            have T7 := (unhide T6).put 34 (.slice (some ⟨w5.heap.size, 0, none⟩) 2 cap2)
            rw [tabL_setA] at T7
            exact .inr (.inr ⟨rfl, _, _, _, ⟨Own.set (unhide O6) t 34 (unhide ST2).le (by intro e; exact n41 (Option.some.inj e)) _, T7, by intro e; exact n41 (Option.some.inj e), (unhide ST2).le⟩, ⟨w5.heap.size, cap2, rfl, (unhide O5).bel.size, (unhide H6).other (a := ⟨t, 34, none⟩) n6 _⟩, b1, c1, rfl, zb1, (unhide HB6).other (a := ⟨t, 34, none⟩) n42 _⟩)
          case measure => simp [intOf]
        · have ST3 := hide hst
          clear hst ST h4 d0 d1 d2 d3
          go_wp2_with fail
          go_ret
          exact ⟨t, rfl, ⟨(unhide ST3).le, A, B, v, (unhide ST3).tab, hA, hB, (unhide ST3).own.own⟩, (unhide ST3).own.bel⟩
end Go.Proofs.YtfkobhagdjaleaaGreatDoor.Sp
