/- The reference's Set; ref07's Hop and Strip. -/
import Derived.Test.YtfohhhdebinikaaGreatDoorD4
namespace Go.Proofs.YtfohhhdebinikaaGreatDoor.Sp
open Go.RowKit Sl

theorem Own.put {w0 w : World} {base : Nat} {e : TypeId} {sz : Nat} {v : Value} {n : Nat} {xs : List Value} (h : Own w0 w base e sz v n xs) (p : Addr) (u : Value) (hp : base ≤ p.block) (hne : ∀ k, v.ownBlock = some k → k ≠ p.block) : Own w0 (w.setCell p u) base e sz v n xs :=
  ⟨h.own.kept (row := some p.block) ⟨rfl, rfl, rfl, by simp [World.setCell], fun k _ hr => Below.heap_setCell _ _ _ _ (by intro e; exact hr (by rw [e]))⟩ (by
    cases hv : v.ownBlock with
    | none => exact .inl rfl
    | some g => exact .inr (by intro e; cases e; exact hne _ hv rfl)), h.bel.setCell hp u, by simpa [World.setCell] using h.le⟩

section
variable {P : Program} {ops : Array Oper} {rest : List Oper} {o : Oper} {a : Act} {w : World} {Q : Exit → Act → World → Prop}
theorem wpList_pushFat {wr w0 : World} (hgd : o.guard = none) (s x : Operand) (ho : o.op = .call { callee := .builtin .append, args := #[s, x], argTypes := #[22, 22] })
    (base : Nat) (v : Value) (n : Nat) (xs : List Value) (hs : a.eval s = v) (hown : Own w0 wr base 30 2 v n xs) (p q : ByteArray) (hw : w = wr.alloc (.cells #[.string p, .string q] 30))
    (g : Nat) (hg : wr.heap.size = g) (c : Nat) (hx : a.eval x = .slice (some ⟨g, 0, none⟩) 1 c) (hn : n ≤ 1000000)
    (h : ∀ v' w1, Own w0 w1 base 30 2 v' (n + 1) (xs ++ [.string p, .string q]) → wpList Tryz.prog ops Q rest (a.put o.dst v') w1) : wpList Tryz.prog ops Q (o :: rest) a w := by
  subst hg
  exact wpList_pushF hgd s x ho base v n xs hs hown p q hw c hx hn h
end



def stepR (name value : ByteArray) (there : Bool) (f : Fld) : List Fld := if isN name f = true then (if there = true then [] else [(f.1, value)]) else [f]
def outR (name value : ByteArray) : Bool → List Fld → List Fld
  | _, [] => []
  | there, f :: t => stepR name value there f ++ outR name value (there || isN name f) t
theorem setR_out (name value : ByteArray) : ∀ (L : List Fld) (there : Bool), setR name value there L = outR name value there L ++ (if (there || L.any (isN name)) = true then [] else [(name, value)])
  | [], true => rfl
  | [], false => rfl
  | f :: t, there => by
    have ih := setR_out name value t
    cases hf : isN name f
    · rw [List.any_cons, hf, Bool.false_or]
      simp [setR, outR, stepR, hf, ih there]
    · cases there <;> simp [setR, outR, stepR, hf, ih true]
theorem outR_app (name value : ByteArray) : ∀ (A B : List Fld) (there : Bool), outR name value there (A ++ B) = outR name value there A ++ outR name value (there || A.any (isN name)) B
  | [], B, there => by simp [outR]
  | f :: t, B, there => by
    rw [List.cons_append, outR, outR, outR_app name value t B, List.append_assoc]
    simp [Bool.or_assoc]
theorem outR_take (name value : ByteArray) (L : List Fld) (k : Nat) (h : k < L.length) : outR name value false (L.take (k + 1)) = outR name value false (L.take k) ++ stepR name value ((L.take k).any (isN name)) L[k] := by
  rw [List.take_succ_eq_append_getElem h, outR_app]
  simp [outR]
theorem anyF_take (L : List Fld) (p : Fld → Bool) (k : Nat) (h : k < L.length) : (L.take (k + 1)).any p = ((L.take k).any p || p L[k]) := by
  rw [List.take_succ_eq_append_getElem h, List.any_append]; simp
theorem outR_len (name value : ByteArray) : ∀ (L : List Fld) (there : Bool), (outR name value there L).length ≤ L.length
  | [], _ => Nat.le_refl _
  | f :: t, there => by
    rw [outR, List.length_append]
    have := outR_len name value t (there || isN name f)
    have h2 : (stepR name value there f).length ≤ 1 := by unfold stepR; repeat' split
                                                          all_goals simp
    simp; omega

set_option maxRecDepth 100000 in
set_option maxHeartbeats 2000000 in
theorem rset_any (v : Value) (L : List Fld) (name value : ByteArray) (hL : Few L) (hn : name.size ≤ 2000) (w : World) (hv : Rd w v L.length 2 (fldV L)) :
    Calls Tryz.prog 34 #[v, .string name, .string value] w (RetF w (setB L name value)) := by
  obtain ⟨ao, cap, rfl⟩ := hv.form
  have HV := hide hv
  have HF := hide hL
  have hlen := hL.1
  have s2 : name.size ≤ 9223372036854775807 := by omega
  clear hv hL
  go_enter Tryz.func34, Tryz.ntmps34
  go_wp2_with fail
  go_loopw [7, 8, 9] (fun v t i wr => ∃ k : Nat, i = .int .i64 k ∧ k ≤ L.length ∧ t = .bool ((L.take k).any (isN name)) ∧ Own w wr w.heap.size 30 2 v (outR name value false (L.take k)).length (fldV (outR name value false (L.take k)))) (fun _ _ i _ => L.length - (intOf i).toNat)
  case atStart => exact ⟨0, rfl, Nat.zero_le _, rfl, Own.start _ _ (Nat.le_refl _) _ _⟩
  case round =>
    obtain ⟨k, rfl, hk, rfl, ho⟩ := hrel
    obtain ⟨bo, cp, rfl⟩ := (Rd.own ho.own).form
    have HO := hide ho
    have hal := outR_len name value (L.take k) false
    rw [List.length_take] at hal
    obtain ⟨th, hth⟩ : ∃ th, (L.take k).any (isN name) = th := ⟨_, rfl⟩
    rw [hth]
    have HTH := Lib.hid hth
    clear hth
    rcases Nat.lt_or_ge k L.length with hlt | hge
    · have HT := Lib.hid (outR_take name value L k hlt)
      have HY := Lib.hid (anyF_take L (isN name) k hlt)
      have s1 : L[k].1.size ≤ 9223372036854775807 := by have := ((unhide HF).2 L[k] (List.getElem_mem _)).1; omega
      obtain ⟨b, off, rfl, hb, c1, c2⟩ := fld_cells (unhide HV) rfl k hlt
      have hbw : b < wr.heap.size := Nat.lt_of_lt_of_le hb ho.bel.size
      have d1 := (ho.bel.cell (p := ⟨b, off + k * 2, none⟩) hb).trans c1
      have d2 := (ho.bel.cell (p := ⟨b, off + k * 2 + 1, none⟩) hb).trans c2
      have hwr := ho.le
      have hob : ∀ g, (Value.slice bo (outR name value false (List.take k L)).length cp).ownBlock = some g → g < wr.heap.size := fun g hg => (ho.own.lt g hg).2
      have HOB := hide hob
      clear c1 c2 ho hob
      cases hsm : same L[k].1.data.toList name.data.toList
      · have hT : outR name value false (L.take (k + 1)) = outR name value false (L.take k) ++ [L[k]] := by rw [HT.out, stepR, if_neg (by unfold isN; rw [hsm]; decide)]
        have hY : (L.take (k + 1)).any (isN name) = th := by rw [HY.out, HTH.out]; unfold isN; rw [hsm, Bool.or_false]
        have HT2 := Lib.hid hT
        have HY2 := Lib.hid hY
        clear hT hY
        go_wp2_with (first
          | (at_builtin; refine wpList_pushF (w0 := w) rfl _ _ rfl w.heap.size _ _ _ rfl (unhide H1) L[k].1 L[k].2 rfl _ rfl (by omega) ?_; intro v' w2 h2; obtain ⟨ao', cp', rfl⟩ := (Rd.own h2.own).form; have H2 := hide h2; clear h2)
          | (go_at_call 25; refine (rsame_any _ _ s1 s2 _).mono ?_; rintro e w1 ⟨rfl, hb1⟩; have d3 := cell_call hb1 (a := ⟨wr.heap.size, 0, none⟩) (v := .string L[k].1) (by simp); have d4 := cell_call hb1 (a := ⟨wr.heap.size, 1, none⟩) (v := .string L[k].2) (by simp); have H1 := hide (((unhide HO).alloc _).call hb1); clear hb1))
        go_roundw
        case rel => exact ⟨k + 1, by go_num, by omega, by rw [HY2.out], by rw [HT2.out, List.length_append, fldV_app]; exact unhide H2⟩
        case measure => simp [intOf]; omega
      · have hY : (L.take (k + 1)).any (isN name) = true := by rw [HY.out]; unfold isN; rw [hsm, Bool.or_true]
        have HY2 := Lib.hid hY
        clear hY
        cases th
        · have hT : outR name value false (L.take (k + 1)) = outR name value false (L.take k) ++ [(L[k].1, value)] := by rw [HT.out, HTH.out, stepR, if_pos (by unfold isN; exact hsm), if_neg (by decide)]
          have HT2 := Lib.hid hT
          clear hT
          go_wp2_with (first
            | (at_builtin; refine wpList_pushFat (w0 := w) rfl _ _ rfl w.heap.size _ _ _ rfl (Own.put (unhide H1) ⟨wr.heap.size, 1, none⟩ (.string value) hwr (fun g hg => Nat.ne_of_lt (unhide HOB g hg))) L[k].1 value rfl w1.heap.size (by simp [World.setCell]) _ rfl (by omega) ?_; intro v' w2 h2; obtain ⟨ao', cp', rfl⟩ := (Rd.own h2.own).form; have H2 := hide h2; clear h2)
            | (go_at_call 25; refine (rsame_any _ _ s1 s2 _).mono ?_; rintro e w1 ⟨rfl, hb1⟩; have d3 := cell_call hb1 (a := ⟨wr.heap.size, 0, none⟩) (v := .string L[k].1) (by simp); have d4 := cell_call hb1 (a := ⟨wr.heap.size, 1, none⟩) (v := .string L[k].2) (by simp); have f4 : w1.frozen? ⟨wr.heap.size, 1, none⟩ = false := (hb1.frozen (p := ⟨wr.heap.size, 1, none⟩) (by simp)).trans (World.frozen?_alloc_at _ _ _ _ rfl); have H1 := hide (((unhide HO).alloc _).call hb1); clear hb1))
          go_roundw
          case rel => exact ⟨k + 1, by go_num, by omega, by rw [HY2.out], by rw [HT2.out, List.length_append, fldV_app]; exact unhide H2⟩
          case measure => simp [intOf]; omega
        · have hT : outR name value false (L.take (k + 1)) = outR name value false (L.take k) := by rw [HT.out, HTH.out, stepR, if_pos (by unfold isN; exact hsm), if_pos rfl, List.append_nil]
          have HT2 := Lib.hid hT
          clear hT
          go_wp2_with (go_at_call 25; refine (rsame_any _ _ s1 s2 _).mono ?_; rintro e w1 ⟨rfl, hb1⟩; have H1 := hide (((unhide HO).alloc _).call hb1); clear hb1)
          go_roundw
          case rel => exact ⟨k + 1, by go_num, by omega, by rw [HY2.out], by rw [HT2.out]; exact unhide H1⟩
          case measure => simp [intOf]; omega
    · have hT : L.take k = L := List.take_of_length_le hge
      have hfin := setR_out name value L false
      have h9 := HTH.out
      rw [hT] at HO h9 hal ⊢
      rw [Bool.false_or, h9] at hfin
      clear hT ho h9
      cases th
      · have hfin2 : setB L name value = outR name value false L ++ [(name, value)] := hfin
        have HFIN := Lib.hid hfin2
        clear hfin hfin2
        go_wp2_with (at_builtin; refine wpList_pushF (w0 := w) rfl _ _ rfl w.heap.size _ _ _ rfl (unhide HO) name value rfl _ rfl (by omega) ?_; intro v' w2 h2; obtain ⟨ao', cp', rfl⟩ := (Rd.own h2.own).form; have H2 := hide h2; clear h2)
        go_ret
        refine ⟨_, rfl, ?_, (unhide H2).bel⟩
        have := (unhide H2).own
        rw [HFIN.out, List.length_append, fldV_app]; exact this
      · have hfin2 : setB L name value = outR name value false L := by
          have : setB L name value = outR name value false L ++ [] := hfin
          rwa [List.append_nil] at this
        have HFIN := Lib.hid hfin2
        clear hfin hfin2
        go_wp2_with fail
        go_ret
        refine ⟨_, rfl, ?_, (unhide HO).bel⟩
        have := (unhide HO).own
        rw [HFIN.out]; exact this
end Go.Proofs.YtfohhhdebinikaaGreatDoor.Sp
