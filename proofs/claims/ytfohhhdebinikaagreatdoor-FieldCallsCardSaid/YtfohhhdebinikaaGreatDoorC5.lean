/- The parts of the values of a name: by the program, by the reference. -/
import Derived.Test.YtfohhhdebinikaaGreatDoorC4
namespace Go.Proofs.YtfohhhdebinikaaGreatDoor.Sp
open Go.RowKit Sl

section
variable {P : Program} {ops : Array Oper} {rest : List Oper} {o : Oper} {a : Act} {w : World} {Q : Exit → Act → World → Prop}
theorem wpList_pushAllS {w0 : World} (hgd : o.guard = none) (s x : Operand) (ho : o.op = .call { callee := .builtin .append, args := #[s, x], argTypes := #[37, 37] })
    (base : Nat) (v : Value) (n : Nat) (xs : List Value) (hs : a.eval s = v) (hown : Own w0 w base 9 1 v n xs) (u : Value) (L : List ByteArray) (hr : Rd w u L.length 1 (strV L)) (hx : a.eval x = u) (hn : n + L.length ≤ 1000000)
    (h : ∀ v' w1, Own w0 w1 base 9 1 v' (n + L.length) (xs ++ strV L) → wpList Tryz.prog ops Q rest (a.put o.dst v') w1) : wpList Tryz.prog ops Q (o :: rest) a w := by
  obtain ⟨i, hi, hz, h1, h2⟩ := info_parts (P := Tryz.prog) (e := 9) (z := .string ⟨#[]⟩) (size := 1) (bytes := 16) (by kernel_rfl)
  exact wpList_pushAll hgd s x 37 ho base 9 i _ 1 16 Tryz.underlying37 hi hz h1 h2 rfl (by decide) v n xs hs hown u L.length (strV L) hr hx (strV_one L) (by omega) (by unfold maxLen; omega) h
theorem wpList_pushAllF {w0 : World} (hgd : o.guard = none) (s x : Operand) (ho : o.op = .call { callee := .builtin .append, args := #[s, x], argTypes := #[22, 22] })
    (base : Nat) (v : Value) (n : Nat) (xs : List Value) (hs : a.eval s = v) (hown : Own w0 w base 30 2 v n xs) (u : Value) (L : List Fld) (hr : Rd w u L.length 2 (fldV L)) (hx : a.eval x = u) (hn : n + L.length ≤ 1000000)
    (h : ∀ v' w1, Own w0 w1 base 30 2 v' (n + L.length) (xs ++ fldV L) → wpList Tryz.prog ops Q rest (a.put o.dst v') w1) : wpList Tryz.prog ops Q (o :: rest) a w := by
  obtain ⟨i, hi, hz, h1, h2⟩ := info_parts (P := Tryz.prog) (e := 30) (z := .agg #[.string ⟨#[]⟩, .string ⟨#[]⟩]) (size := 2) (bytes := 32) (by kernel_rfl)
  exact wpList_pushAll hgd s x 22 ho base 30 i _ 2 32 Tryz.underlying22 hi hz h1 h2 rfl (by decide) v n xs hs hown u L.length (fldV L) hr hx (fldV_one L) (by omega) (by unfold maxLen; omega) h
theorem wpList_pushF {wr w0 : World} (hgd : o.guard = none) (s x : Operand) (ho : o.op = .call { callee := .builtin .append, args := #[s, x], argTypes := #[22, 22] })
    (base : Nat) (v : Value) (n : Nat) (xs : List Value) (hs : a.eval s = v) (hown : Own w0 wr base 30 2 v n xs) (p q : ByteArray) (hw : w = wr.alloc (.cells #[.string p, .string q] 30))
    (c : Nat) (hx : a.eval x = .slice (some ⟨wr.heap.size, 0, none⟩) 1 c) (hn : n ≤ 1000000)
    (h : ∀ v' w1, Own w0 w1 base 30 2 v' (n + 1) (xs ++ [.string p, .string q]) → wpList Tryz.prog ops Q rest (a.put o.dst v') w1) : wpList Tryz.prog ops Q (o :: rest) a w := by
  obtain ⟨i, hi, hz, h1, h2⟩ := info_parts (P := Tryz.prog) (e := 30) (z := .agg #[.string ⟨#[]⟩, .string ⟨#[]⟩]) (size := 2) (bytes := 32) (by kernel_rfl)
  exact wpList_push hgd s x 22 ho base 30 i _ 2 32 Tryz.underlying22 hi hz h1 h2 rfl (by decide) v n xs hs hown [.string p, .string q] (by rw [hw]) rfl (by intro u hu; simp at hu; rcases hu with rfl | rfl <;> rfl) c hx (by omega) (by unfold maxLen; omega) h
end

theorem RetS.rd {w w' : World} {L : List ByteArray} {v : Value} (h : w'.ownsRow w.heap.size 9 1 v L.length (strV L)) : Rd w' v L.length 1 (strV L) := Rd.own h

theorem str_cell {w : World} {ao : Option Addr} {n cap : Nat} {L : List ByteArray} (h : Rd w (.slice ao n cap) n 1 (strV L)) (k : Nat) (hk : k < L.length) :
    ∃ b off, ao = some ⟨b, off, none⟩ ∧ b < w.heap.size ∧ w.cell? ⟨b, off + k, none⟩ = some (.string L[k]) := by
  obtain ⟨ao', cap', e, _, _, _, hc⟩ := h
  cases e
  have hg := strV_get L k hk
  obtain ⟨b, off, rfl, hlt, hcc⟩ := hc (by intro e; rw [e] at hg; simp at hg)
  exact ⟨b, off, rfl, hlt, hcc _ _ hg⟩

def flatB (A : List ByteArray) : List ByteArray := A.flatMap splitB
def listB (L : List Fld) (name : ByteArray) : List ByteArray := flatB (allB L name)
theorem flatB_take (A : List ByteArray) (k : Nat) (h : k < A.length) : flatB (A.take (k + 1)) = flatB (A.take k) ++ splitB A[k] := by
  unfold flatB
  rw [List.take_succ_eq_append_getElem h, List.flatMap_append]; simp
theorem splitB_len (s : ByteArray) : (splitB s).length ≤ s.size + 1 := by
  unfold splitB splitS keep
  rw [List.length_map]
  refine Nat.le_trans (List.length_filter_le _ _) ?_
  rw [List.length_map]
  have := pieces_len s.data.toList s.data.toList.length false [] s.data.toList (Nat.le_refl _)
  simpa using this
theorem flat_len : ∀ (A : List ByteArray) (c : Nat), (∀ x ∈ A, x.size ≤ c) → (flatB A).length ≤ A.length * (c + 1)
  | [], _, _ => by simp [flatB]
  | x :: t, c, h => by
    have h1 := flat_len t c (fun y hy => h y (List.mem_cons_of_mem _ hy))
    have h2 := splitB_len x
    have h3 := h x List.mem_cons_self
    unfold flatB at h1 ⊢
    rw [List.flatMap_cons, List.length_append, List.length_cons, Nat.succ_mul]
    omega
theorem allB_small {L : List Fld} (hL : Few L) (name : ByteArray) : (allB L name).length ≤ 100 ∧ ∀ x ∈ allB L name, x.size ≤ 2000 := by
  refine ⟨Nat.le_trans (allB_len L name) hL.1, fun x hx => ?_⟩
  unfold allB at hx
  obtain ⟨f, hf, rfl⟩ := List.mem_map.1 hx
  exact (hL.2 f (List.mem_filter.1 hf).1).2

set_option maxHeartbeats 2000000 in
theorem flist_any (v : Value) (L : List Fld) (name : ByteArray) (hL : Few L) (hn : name.size ≤ 2000) (w : World) (hv : Rd w v L.length 2 (fldV L)) :
    Calls Tryz.prog 21 #[v, .string name] w (RetS w (listB L name)) := by
  obtain ⟨ao, cap, rfl⟩ := hv.form
  have hc := hide (fall_any _ L name hL hn w hv)
  obtain ⟨A, hA⟩ : ∃ A : List ByteArray, allB L name = A := ⟨_, rfl⟩
  obtain ⟨hl1, hl2⟩ := allB_small hL name
  rw [hA] at hl1 hl2
  have HA := Lib.hid hA
  have HL2 := hide hl2
  have HV := hide hv
  clear hA hv hl2
  go_enter Tryz.func21, Tryz.ntmps21
  go_wp2_with (go_at_call 18; refine (unhide hc).mono ?_; rintro e w1 ⟨v1, rfl, ho1, hb1⟩; rw [HA.out] at ho1; obtain ⟨bo, cp, rfl⟩ := (Rd.own ho1).form; have HR := hide (Rd.own ho1); clear ho1)
  go_loopw [4, 11] (fun v i wr => ∃ k : Nat, i = .int .i64 k ∧ k ≤ A.length ∧ Own w1 wr w1.heap.size 9 1 v (flatB (A.take k)).length (strV (flatB (A.take k)))) (fun _ i _ => A.length - (intOf i).toNat)
  case atStart => exact ⟨0, rfl, Nat.zero_le _, Own.start _ _ (Nat.le_refl _) _ _⟩
  case round =>
    obtain ⟨k, rfl, hk, ho⟩ := hrel
    obtain ⟨co, cq, rfl⟩ := (Rd.own ho.own).form
    have HO := hide ho
    rcases Nat.lt_or_ge k A.length with hlt | hge
    · obtain ⟨b, off, rfl, hb, c1⟩ := str_cell (unhide HR) k hlt
      have d1 := (ho.bel.cell (p := ⟨b, off + k, none⟩) hb).trans c1
      have hsz : A[k].size ≤ 100000 := by have := (unhide HL2) A[k] (List.getElem_mem _); omega
      have HT := Lib.hid (flatB_take A k hlt)
      have hbd := flat_len (A.take k) 2000 (fun x hx => (unhide HL2) x (List.mem_of_mem_take hx))
      have hbd2 := splitB_len A[k]
      rw [List.length_take] at hbd
      have hbd3 : (flatB (A.take k)).length + (splitB A[k]).length ≤ 1000000 := by
        have h5 : min k A.length * 2001 ≤ 100 * 2001 := Nat.mul_le_mul_right _ (by omega)
        have h6 : min k A.length * (2000 + 1) = min k A.length * 2001 := rfl
        omega
      clear c1 ho hbd hbd2
      go_wp2_with (first
        | (at_builtin; refine wpList_pushAllS (w0 := w1) rfl _ _ rfl w1.heap.size _ _ _ rfl (unhide H1) _ (splitB A[k]) (unhide HRD) rfl hbd3 ?_; intro v' w3 h3; obtain ⟨ao', cp', rfl⟩ := (Rd.own h3.own).form; have H3 := hide h3; clear h3)
        | (go_at_call 50; refine (split_any _ hsz _).mono ?_; rintro e w2 ⟨v2, rfl, ho2, hb2⟩; obtain ⟨eo, ep, rfl⟩ := (Rd.own ho2).form; have HRD := hide (Rd.own ho2); have H1 := hide ((unhide HO).call hb2); clear ho2 hb2))
      go_roundw
      case rel => exact ⟨k + 1, by go_num, by omega, by rw [HT.out, List.length_append, strV_app]; exact unhide H3⟩
      case measure => simp [intOf]; omega
    · have hT : flatB (A.take k) = listB L name := by rw [List.take_of_length_le hge, ← HA.out]; rfl
      have HT := Lib.hid hT
      clear hT ho
      go_wp2_with fail
      go_ret
      refine ⟨_, rfl, ?_, hb1.trans ((unhide HO).bel.mono hb1.size)⟩
      have := (unhide HO).own
      rw [← HT.out]; exact World.ownsRow.mono this hb1.size

set_option maxHeartbeats 2000000 in
theorem rlist_any (v : Value) (L : List Fld) (name : ByteArray) (hL : Few L) (hn : name.size ≤ 2000) (w : World) (hv : Rd w v L.length 2 (fldV L)) :
    Calls Tryz.prog 32 #[v, .string name] w (RetS w (listB L name)) := by
  obtain ⟨ao, cap, rfl⟩ := hv.form
  have hc := hide (rall_any _ L name hL hn w hv)
  obtain ⟨A, hA⟩ : ∃ A : List ByteArray, allB L name = A := ⟨_, rfl⟩
  obtain ⟨hl1, hl2⟩ := allB_small hL name
  rw [hA] at hl1 hl2
  have HA := Lib.hid hA
  have HL2 := hide hl2
  have HV := hide hv
  clear hA hv hl2
  go_enter Tryz.func32, Tryz.ntmps32
  go_wp2_with (go_at_call 31; refine (unhide hc).mono ?_; rintro e w1 ⟨v1, rfl, ho1, hb1⟩; rw [HA.out] at ho1; obtain ⟨bo, cp, rfl⟩ := (Rd.own ho1).form; have HR := hide (Rd.own ho1); clear ho1)
  go_loopw [6, 7] (fun v i wr => ∃ k : Nat, i = .int .i64 k ∧ k ≤ A.length ∧ Own w1 wr w1.heap.size 9 1 v (flatB (A.take k)).length (strV (flatB (A.take k)))) (fun _ i _ => A.length - (intOf i).toNat)
  case atStart => exact ⟨0, rfl, Nat.zero_le _, Own.start _ _ (Nat.le_refl _) _ _⟩
  case round =>
    obtain ⟨k, rfl, hk, ho⟩ := hrel
    obtain ⟨co, cq, rfl⟩ := (Rd.own ho.own).form
    have HO := hide ho
    rcases Nat.lt_or_ge k A.length with hlt | hge
    · obtain ⟨b, off, rfl, hb, c1⟩ := str_cell (unhide HR) k hlt
      have d1 := (ho.bel.cell (p := ⟨b, off + k, none⟩) hb).trans c1
      have hsz : A[k].size ≤ 100000 := by have := (unhide HL2) A[k] (List.getElem_mem _); omega
      have HT := Lib.hid (flatB_take A k hlt)
      have hbd := flat_len (A.take k) 2000 (fun x hx => (unhide HL2) x (List.mem_of_mem_take hx))
      have hbd2 := splitB_len A[k]
      rw [List.length_take] at hbd
      have hbd3 : (flatB (A.take k)).length + (splitB A[k]).length ≤ 1000000 := by
        have h5 : min k A.length * 2001 ≤ 100 * 2001 := Nat.mul_le_mul_right _ (by omega)
        have h6 : min k A.length * (2000 + 1) = min k A.length * 2001 := rfl
        omega
      clear c1 ho hbd hbd2
      go_wp2_with (first
        | (at_builtin; refine wpList_pushAllS (w0 := w1) rfl _ _ rfl w1.heap.size _ _ _ rfl (unhide H1) _ (splitB A[k]) (unhide HRD) rfl hbd3 ?_; intro v' w3 h3; obtain ⟨ao', cp', rfl⟩ := (Rd.own h3.own).form; have H3 := hide h3; clear h3)
        | (go_at_call 19; refine (rsplit_any _ hsz _).mono ?_; rintro e w2 ⟨v2, rfl, ho2, hb2⟩; obtain ⟨eo, ep, rfl⟩ := (Rd.own ho2).form; have HRD := hide (Rd.own ho2); have H1 := hide ((unhide HO).call hb2); clear ho2 hb2))
      go_roundw
      case rel => exact ⟨k + 1, by go_num, by omega, by rw [HT.out, List.length_append, strV_app]; exact unhide H3⟩
      case measure => simp [intOf]; omega
    · have hT : flatB (A.take k) = listB L name := by rw [List.take_of_length_le hge, ← HA.out]; rfl
      have HT := Lib.hid hT
      clear hT ho
      go_wp2_with fail
      go_ret
      refine ⟨_, rfl, ?_, hb1.trans ((unhide HO).bel.mono hb1.size)⟩
      have := (unhide HO).own
      rw [← HT.out]; exact World.ownsRow.mono this hb1.size
end Go.Proofs.YtfohhhdebinikaaGreatDoor.Sp
