/- Lemmas for the statement's proof, several texts in one: U12. -/
import Derived.Test.YtbpopmbabckojaaGreatDoorZ40
import Derived.Test.YtbpopmbabckojaaGreatDoorZ09
set_option linter.unusedVariables false
set_option linter.unusedSimpArgs false
/- The fields of a name, for long lists; a message that came in, with a bound on its fields. -/
section
namespace Go.Proofs.YtbpopmbabckojaaGreatDoor.Sp
open Go.ChangeShapes Go.WideShapes Go.ChangeAt Go.RowKit Go.Deep Sl Go.Joins
section
variable {P : Program} {ops : Array Oper} {rest : List Oper} {o : Oper} {a : Act} {w : World} {Q : Exit → Act → World → Prop}
theorem wpList_pushSL {wr w0 : World} (hgd : o.guard = none) (s x : Operand) (ho : o.op = .call { callee := .builtin .append, args := #[s, x], argTypes := #[51, 51] })
    (base : Nat) (v : Value) (n : Nat) (xs : List Value) (hs : a.eval s = v) (hown : Own w0 wr base 9 1 v n xs) (p : ByteArray) (hw : w = wr.alloc (.cells #[.string p] 9))
    (c : Nat) (hx : a.eval x = .slice (some ⟨wr.heap.size, 0, none⟩) 1 c) (hn : n ≤ 4398046511104)
    (h : ∀ v' w1, Own w0 w1 base 9 1 v' (n + 1) (xs ++ [.string p]) → wpList Tryz.prog ops Q rest (a.put o.dst v') w1) : wpList Tryz.prog ops Q (o :: rest) a w := by
  obtain ⟨i, hi, hz, h1, h2⟩ := info_parts (P := Tryz.prog) (e := 9) (z := .string ⟨#[]⟩) (size := 1) (bytes := 16) (by kernel_rfl)
  exact wpList_push hgd s x 51 ho base 9 i _ 1 16 Tryz.underlying51 hi hz h1 h2 rfl (by decide) v n xs hs hown [.string p] (by rw [hw]) rfl (by intro u hu; simp at hu; subst hu; rfl) c hx (by omega) (by unfold maxLen; omega) h
end

set_option maxHeartbeats 2000000 in
theorem rall_long (v : Value) (L : List Fld) (name : ByteArray) (hlen : L.length ≤ 4398046511104) (hsz : ∀ f ∈ L, f.1.size ≤ 1000000000000000 ∧ f.2.size ≤ 1000000000000000) (hn : name.size ≤ 2000) (w : World) (hv : Rd w v L.length 2 (fldV L)) :
    Calls Tryz.prog 25 #[v, .string name] w (RetS w (allB L name)) := by
  obtain ⟨ao, cap, rfl⟩ := hv.form
  have HV := hide hv
  have HF := hide hsz
  have s2 : name.size ≤ 9223372036854775807 := by omega
  clear hv hsz
  go_enter Tryz.func25, Tryz.ntmps25
  go_wp2_with fail
  go_loopw [5, 6] (fun v i wr => ∃ k : Nat, i = .int .i64 k ∧ k ≤ L.length ∧ Own w wr w.heap.size 9 1 v (allB (L.take k) name).length (strV (allB (L.take k) name))) (fun _ i _ => L.length - (intOf i).toNat)
  case atStart => exact ⟨0, rfl, Nat.zero_le _, Own.start _ _ (Nat.le_refl _) _ _⟩
  case round =>
    obtain ⟨k, rfl, hk, ho⟩ := hrel
    obtain ⟨bo, cp, rfl⟩ := (Rd.own ho.own).form
    have HO := hide ho
    have hal := allB_len (L.take k) name
    rw [List.length_take] at hal
    rcases Nat.lt_or_ge k L.length with hlt | hge
    · have HT := Lib.hid (allB_take L name k hlt)
      have s1 : L[k].1.size ≤ 9223372036854775807 := by have := ((unhide HF) L[k] (List.getElem_mem _)).1; omega
      obtain ⟨b, off, rfl, hb, c1, c2⟩ := fld_cells (unhide HV) rfl k hlt
      have hbw : b < wr.heap.size := Nat.lt_of_lt_of_le hb ho.bel.size
      have d1 := (ho.bel.cell (p := ⟨b, off + k * 2, none⟩) hb).trans c1
      have d2 := (ho.bel.cell (p := ⟨b, off + k * 2 + 1, none⟩) hb).trans c2
      clear c1 c2 ho
      cases hsm : same L[k].1.data.toList name.data.toList
      · have hT : allB (L.take (k + 1)) name = allB (L.take k) name := by rw [HT.out, if_neg (by unfold isN; rw [hsm]; decide), List.append_nil]
        have HT2 := Lib.hid hT
        clear hT
        go_wp2_with (go_at_call 49; refine (rsame_any _ _ s1 s2 _).mono ?_; rintro e w1 ⟨rfl, hb1⟩; have d3 : w1.cell? ⟨b, off + k * 2 + 1, none⟩ = some (.string L[k].2) := (hb1.cell (p := ⟨b, off + k * 2 + 1, none⟩) hbw).trans d2; have H1 := hide ((unhide HO).call hb1); clear hb1)
        go_roundw
        case rel => exact ⟨k + 1, by go_num, by omega, by rw [HT2.out]; exact unhide H1⟩
        case measure => simp [intOf]; omega
      · have hT : allB (L.take (k + 1)) name = allB (L.take k) name ++ [L[k].2] := by rw [HT.out, if_pos (by unfold isN; rw [hsm])]
        have HT2 := Lib.hid hT
        clear hT
        go_wp2_with (first | (at_builtin; refine wpList_pushSL (w0 := w) rfl _ _ rfl w.heap.size _ _ _ rfl (unhide H1) L[k].2 rfl _ rfl (by omega) ?_; intro v' w2 h2; obtain ⟨ao', cp', rfl⟩ := (Rd.own h2.own).form; have H2 := hide h2; clear h2) | (go_at_call 49; refine (rsame_any _ _ s1 s2 _).mono ?_; rintro e w1 ⟨rfl, hb1⟩; have d3 : w1.cell? ⟨b, off + k * 2 + 1, none⟩ = some (.string L[k].2) := (hb1.cell (p := ⟨b, off + k * 2 + 1, none⟩) hbw).trans d2; have H1 := hide ((unhide HO).call hb1); clear hb1))
        go_roundw
        case rel => exact ⟨k + 1, by go_num, by omega, by rw [HT2.out, List.length_append, strV_app]; exact unhide H2⟩
        case measure => simp [intOf]; omega
    · have hT : allB (L.take k) name = allB L name := by rw [List.take_of_length_le hge]
      have HT := Lib.hid hT
      clear hT ho
      go_wp2_with fail
      go_ret
      refine ⟨_, rfl, ?_, (unhide HO).bel⟩
      have := (unhide HO).own
      rw [← HT.out]; exact this

theorem fields_ofL {H : Type} {enc : TypeId × Value → H} {W : World} {v : Value} {fuel : Nat} {x : DataW H × List MemPlace}
    (h : DataW.trod enc Tryz.prog W 0 (fun _ => true) true fuel 22 [v] = some x) (hw : ∀ n ∈ x.1.weights Tryz.prog 22, n ≤ reachBytes) :
    ∃ L : List Fld, L.length ≤ 4398046511104 ∧ (∀ f ∈ L, f.1.size ≤ 1000000000000000 ∧ f.2.size ≤ 1000000000000000) ∧ Rd W v L.length 2 (fldV L) := by
  obtain ⟨L, _, h2, h3⟩ := fields_of h hw
  refine ⟨L, ?_, h2, h3⟩
  obtain ⟨ao, c, rfl⟩ := h3.form
  rcases open_slice_pairs Tryz.underlying22 Tryz.underlying55 (by kernel_rfl) rfl rfl (by kernel_rfl) (by kernel_rfl) h with ⟨hcs, _⟩ | ⟨a, len, cap, m, n, V0, V1, D0, D1, P0, P1, hcs, _, hlc, hm, hmm, rfl, hi⟩
  · simp only [List.cons.injEq, and_true, Value.slice.injEq] at hcs
    obtain ⟨_, hl, _⟩ := hcs
    omega
  · simp only [List.cons.injEq, and_true, Value.slice.injEq] at hcs
    obtain ⟨_, hl, _⟩ := hcs
    have hbz : Tryz.prog.bytesOf 55 = 32 := by kernel_rfl
    simp only [DataW.weights, Tryz.underlying22, List.mem_cons, forall_eq_or_imp] at hw
    have h0 := hw.1
    rw [hbz, List.length_map, List.length_range] at h0
    have this := Nat.le_trans (Nat.mul_le_mul_right 32 (Nat.le_add_right _ _)) h0
    unfold reachBytes at this
    omega
set_option maxRecDepth 100000 in
theorem msg_ofL {H : Type} {enc : TypeId × Value → H} {W : World} {b0 : Nat} {v : Value} {d : DataW H} {p : List MemPlace} (hv : Value.okWide Tryz.prog W .any b0 24 v)
    (h : DataW.Trod enc Tryz.prog W 0 (fun _ => true) true 24 v d p) (hw : ∀ n ∈ d.weights Tryz.prog 24, n ≤ reachBytes) :
    ∃ (me ta re bo : ByteArray) (st mi : Int) (fs tr : Value) (F T : List Fld), v = .agg (msgV me ta st re mi fs bo tr) ∧ me.size ≤ 9223372036854775807 ∧ ta.size ≤ 9223372036854775807 ∧ re.size ≤ 9223372036854775807 ∧ bo.size ≤ 9223372036854775807 ∧
      F.length ≤ 4398046511104 ∧ T.length ≤ 9223372036854775807 ∧ (∀ f ∈ F, f.1.size ≤ 1000000000000000 ∧ f.2.size ≤ 1000000000000000) ∧ (∀ f ∈ T, f.1.size ≤ 1000000000000000 ∧ f.2.size ≤ 1000000000000000) ∧ Rd W fs F.length 2 (fldV F) ∧ Rd W tr T.length 2 (fldV T) := by
  obtain ⟨cs, rfl, hsz⟩ := okWide_struct Tryz.underlying24 hv
  obtain ⟨c0, c1, c2, c3, c4, c5, c6, c7, rfl⟩ := array8 (hsz.trans (by kernel_rfl))
  obtain ⟨fuel, hf⟩ := h
  obtain ⟨xs, n, _, hx, _, hlen, hfs⟩ := DataW.trod_struct Tryz.underlying24 hf
  match xs, hlen with
  | [y0, y1, y2, y3, y4, y5, y6, y7], _ =>
    have k9 : Tryz.prog.cellsOf 9 = 1 := by kernel_rfl
    have k3 : Tryz.prog.cellsOf 3 = 1 := by kernel_rfl
    have k22 : Tryz.prog.cellsOf 22 = 1 := by kernel_rfl
    have g0 := hfs 0 _ rfl
    have g1 := hfs 1 _ rfl
    have g2 := hfs 2 _ rfl
    have g3 := hfs 3 _ rfl
    have g4 := hfs 4 _ rfl
    have g5 := hfs 5 _ rfl
    have g6 := hfs 6 _ rfl
    have g7 := hfs 7 _ rfl
    simp [Value.cells, k9, k3, k22] at g0 g1 g2 g3 g4 g5 g6 g7
    obtain ⟨me, e0, _, z0⟩ := DataW.trod_string Tryz.underlying9 g0
    obtain ⟨ta, e1, _, z1⟩ := DataW.trod_string Tryz.underlying9 g1
    obtain ⟨st, e2, _, _⟩ := DataW.trod_int Tryz.underlying3 g2
    obtain ⟨re, e3, _, z3⟩ := DataW.trod_string Tryz.underlying9 g3
    obtain ⟨mi, e4, _, _⟩ := DataW.trod_int Tryz.underlying3 g4
    obtain ⟨bo, e6, _, z6⟩ := DataW.trod_string Tryz.underlying9 g6
    simp only [Prod.mk.injEq] at hx
    have hwe : ∀ (j : Nat) (t : TypeId) (y : DataW H), ([9, 9, 3, 9, 3, 22, 9, 22] : List TypeId)[j]? = some t → ([y0.1, y1.1, y2.1, y3.1, y4.1, y5.1, y6.1, y7.1] : List (DataW H))[j]? = some y → ∀ q ∈ y.weights Tryz.prog t, q ≤ reachBytes := by
      intro j t y ht hy q hq
      refine hw q ?_
      rw [hx.1]
      simp only [DataW.weights, Tryz.underlying24]
      exact DataW.weights_mem_each (ts := [9, 9, 3, 9, 3, 22, 9, 22]) ht hy q hq
    obtain ⟨F, hF1, hF2, hF3⟩ := fields_ofL g5 (hwe 5 _ _ rfl rfl)
    obtain ⟨T, hT1, hT2, hT3⟩ := fields_of g7 (hwe 7 _ _ rfl rfl)
    unfold maxLen at z0 z1 z3 z6
    simp only [List.cons.injEq, and_true] at e0 e1 e2 e3 e4 e6
    exact ⟨me, ta, re, bo, st, mi, c5, c7, F, T, by rw [e0, e1, e2, e3, e4, e6]; rfl, by omega, by omega, by omega, by omega, hF1, hT1, hF2, hT2, hF3, hT3⟩
end Go.Proofs.YtbpopmbabckojaaGreatDoor.Sp
end
