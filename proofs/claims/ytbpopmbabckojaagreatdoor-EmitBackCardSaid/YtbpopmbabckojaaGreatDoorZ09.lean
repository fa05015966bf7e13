/- Lemmas for the statement's proof, several texts in one: C4, C5, C7, C8. -/
import Derived.Test.YtbpopmbabckojaaGreatDoorZ08
import Derived.Lib.SliceRun
set_option linter.unusedVariables false
set_option linter.unusedSimpArgs false
/- The values of a name: by the program, by the reference. -/
section
namespace Go.Proofs.YtbpopmbabckojaaGreatDoor.Sp
open Go.RowKit Sl

def RetS (w : World) (L : List ByteArray) (e : Ending) (w' : World) : Prop := ∃ v, e = .returned v ∧ w'.ownsRow w.heap.size 9 1 v L.length (strV L) ∧ Below w.heap.size w w'
def RetF (w : World) (L : List Fld) (e : Ending) (w' : World) : Prop := ∃ v, e = .returned v ∧ w'.ownsRow w.heap.size 55 2 v L.length (fldV L) ∧ Below w.heap.size w w'

/-- few fields, of few bytes -/
def Few (L : List Fld) : Prop := L.length ≤ 100 ∧ ∀ f ∈ L, f.1.size ≤ 2000 ∧ f.2.size ≤ 2000

def isN (name : ByteArray) (f : Fld) : Bool := same f.1.data.toList name.data.toList
def allB (L : List Fld) (name : ByteArray) : List ByteArray := (L.filter (isN name)).map (·.2)

theorem allB_take (L : List Fld) (name : ByteArray) (k : Nat) (h : k < L.length) : allB (L.take (k + 1)) name = allB (L.take k) name ++ if isN name L[k] then [L[k].2] else [] := by
  unfold allB
  rw [List.take_succ_eq_append_getElem h, List.filter_append, List.map_append]
  congr 1
  cases hh : isN name L[k] <;> simp [hh]
theorem allB_len (L : List Fld) (name : ByteArray) : (allB L name).length ≤ L.length := by unfold allB; rw [List.length_map]; exact List.length_filter_le _ _

/-- the cells of a field in a list -/
theorem fld_cells {w : World} {ao : Option Addr} {n cap : Nat} {L : List Fld} (h : Rd w (.slice ao n cap) n 2 (fldV L)) (hn : n = L.length) (k : Nat) (hk : k < L.length) :
    ∃ b off, ao = some ⟨b, off, none⟩ ∧ b < w.heap.size ∧ w.cell? ⟨b, off + k * 2, none⟩ = some (.string L[k].1) ∧ w.cell? ⟨b, off + k * 2 + 1, none⟩ = some (.string L[k].2) := by
  obtain ⟨ao', cap', e, _, _, _, hc⟩ := h
  cases e
  have hg := fldV_get L k hk
  obtain ⟨b, off, rfl, hlt, hcc⟩ := hc (by intro e; rw [e] at hg; simp at hg)
  exact ⟨b, off, rfl, hlt, hcc _ _ hg.1, hcc _ _ hg.2⟩

set_option maxHeartbeats 2000000 in
theorem fall_any (v : Value) (L : List Fld) (name : ByteArray) (hL : Few L) (hn : name.size ≤ 2000) (w : World) (hv : Rd w v L.length 2 (fldV L)) :
    Calls Tryz.prog 71 #[v, .string name] w (RetS w (allB L name)) := by
  obtain ⟨ao, cap, rfl⟩ := hv.form
  have HV := hide hv
  have HF := hide hL
  have hlen := hL.1
  have s2 : name.size ≤ 9223372036854775807 := by omega
  clear hv hL
  go_enter Tryz.func71, Tryz.ntmps71
  go_wp2_with fail
  go_loopw [4, 9] (fun v i wr => ∃ k : Nat, i = .int .i64 k ∧ k ≤ L.length ∧ Own w wr w.heap.size 9 1 v (allB (L.take k) name).length (strV (allB (L.take k) name))) (fun _ i _ => L.length - (intOf i).toNat)
  case atStart => exact ⟨0, rfl, Nat.zero_le _, Own.start _ _ (Nat.le_refl _) _ _⟩
  case round =>
    obtain ⟨k, rfl, hk, ho⟩ := hrel
    obtain ⟨bo, cp, rfl⟩ := (Rd.own ho.own).form
    have HO := hide ho
    have hal := allB_len (L.take k) name
    rw [List.length_take] at hal
    rcases Nat.lt_or_ge k L.length with hlt | hge
    · have HT := Lib.hid (allB_take L name k hlt)
      have s1 : L[k].1.size ≤ 9223372036854775807 := by have := ((unhide HF).2 L[k] (List.getElem_mem _)).1; omega
      obtain ⟨b, off, rfl, hb, c1, c2⟩ := fld_cells (unhide HV) rfl k hlt
      have hbw : b < wr.heap.size := Nat.lt_of_lt_of_le hb ho.bel.size
      have d1 := (ho.bel.cell (p := ⟨b, off + k * 2, none⟩) hb).trans c1
      have d2 := (ho.bel.cell (p := ⟨b, off + k * 2 + 1, none⟩) hb).trans c2
      clear c1 c2 ho
      cases hsm : same L[k].1.data.toList name.data.toList
      · have hT : allB (L.take (k + 1)) name = allB (L.take k) name := by rw [HT.out, if_neg (by unfold isN; rw [hsm]; decide), List.append_nil]
        have HT2 := Lib.hid hT
        clear hT
        go_wp2_with (go_at_call 94; refine (same_any _ _ s1 s2 _).mono ?_; rintro e w1 ⟨rfl, hb1⟩; have d3 : w1.cell? ⟨wr.heap.size, 1, none⟩ = some (.string L[k].2) := (hb1.cell (p := ⟨wr.heap.size, 1, none⟩) (by simp)).trans (by simp); have H1 := hide (((unhide HO).alloc (.cells #[.string L[k].1, .string L[k].2] 55)).call hb1); clear hb1)
        go_roundw
        case rel => exact ⟨k + 1, by go_num, by omega, by rw [HT2.out]; exact unhide H1⟩
        case measure => simp [intOf]; omega
      · have hT : allB (L.take (k + 1)) name = allB (L.take k) name ++ [L[k].2] := by rw [HT.out, if_pos (by unfold isN; rw [hsm])]
        have HT2 := Lib.hid hT
        clear hT
        go_wp2_with (first | (at_builtin; refine wpList_pushS (w0 := w) rfl _ _ rfl w.heap.size _ _ _ rfl (unhide H1) L[k].2 rfl _ rfl (by omega) ?_; intro v' w2 h2; obtain ⟨ao', cp', rfl⟩ := (Rd.own h2.own).form; have H2 := hide h2; clear h2) | (go_at_call 94; refine (same_any _ _ s1 s2 _).mono ?_; rintro e w1 ⟨rfl, hb1⟩; have d3 : w1.cell? ⟨wr.heap.size, 1, none⟩ = some (.string L[k].2) := (hb1.cell (p := ⟨wr.heap.size, 1, none⟩) (by simp)).trans (by simp); have H1 := hide (((unhide HO).alloc (.cells #[.string L[k].1, .string L[k].2] 55)).call hb1); clear hb1))
        go_roundw
        case rel => exact ⟨k + 1, by go_num, by omega, by rw [HT2.out, List.length_append, strV_app]; exact unhide H2⟩
        case measure => simp [intOf]; omega
    · have hT : allB (L.take k) name = allB L name := by rw [List.take_of_length_le hge]
      have HT := Lib.hid hT
      clear hT ho
      go_wp2_with fail
      go_ret
      refine ⟨_, rfl, ?_, (unhide HO).bel⟩
      have := (unhide HO).own
      rw [← HT.out]; exact this

set_option maxHeartbeats 2000000 in
theorem rall_any (v : Value) (L : List Fld) (name : ByteArray) (hL : Few L) (hn : name.size ≤ 2000) (w : World) (hv : Rd w v L.length 2 (fldV L)) :
    Calls Tryz.prog 25 #[v, .string name] w (RetS w (allB L name)) := by
  obtain ⟨ao, cap, rfl⟩ := hv.form
  have HV := hide hv
  have HF := hide hL
  have hlen := hL.1
  have s2 : name.size ≤ 9223372036854775807 := by omega
  clear hv hL
  go_enter Tryz.func25, Tryz.ntmps25
  go_wp2_with fail
  go_loopw [5, 6] (fun v i wr => ∃ k : Nat, i = .int .i64 k ∧ k ≤ L.length ∧ Own w wr w.heap.size 9 1 v (allB (L.take k) name).length (strV (allB (L.take k) name))) (fun _ i _ => L.length - (intOf i).toNat)
  case atStart => exact ⟨0, rfl, Nat.zero_le _, Own.start _ _ (Nat.le_refl _) _ _⟩
  case round =>
    obtain ⟨k, rfl, hk, ho⟩ := hrel
    obtain ⟨bo, cp, rfl⟩ := (Rd.own ho.own).form
    have HO := hide ho
    have hal := allB_len (L.take k) name
    rw [List.length_take] at hal
    rcases Nat.lt_or_ge k L.length with hlt | hge
    · have HT := Lib.hid (allB_take L name k hlt)
      have s1 : L[k].1.size ≤ 9223372036854775807 := by have := ((unhide HF).2 L[k] (List.getElem_mem _)).1; omega
      obtain ⟨b, off, rfl, hb, c1, c2⟩ := fld_cells (unhide HV) rfl k hlt
      have hbw : b < wr.heap.size := Nat.lt_of_lt_of_le hb ho.bel.size
      have d1 := (ho.bel.cell (p := ⟨b, off + k * 2, none⟩) hb).trans c1
      have d2 := (ho.bel.cell (p := ⟨b, off + k * 2 + 1, none⟩) hb).trans c2
      clear c1 c2 ho
      cases hsm : same L[k].1.data.toList name.data.toList
      · have hT : allB (L.take (k + 1)) name = allB (L.take k) name := by rw [HT.out, if_neg (by unfold isN; rw [hsm]; decide), List.append_nil]
        have HT2 := Lib.hid hT
        clear hT
        go_wp2_with (go_at_call 49; refine (rsame_any _ _ s1 s2 _).mono ?_; rintro e w1 ⟨rfl, hb1⟩; have d3 : w1.cell? ⟨b, off + k * 2 + 1, none⟩ = some (.string L[k].2) := (hb1.cell (p := ⟨b, off + k * 2 + 1, none⟩) hbw).trans d2; have H1 := hide ((unhide HO).call hb1); clear hb1)
        go_roundw
        case rel => exact ⟨k + 1, by go_num, by omega, by rw [HT2.out]; exact unhide H1⟩
        case measure => simp [intOf]; omega
      · have hT : allB (L.take (k + 1)) name = allB (L.take k) name ++ [L[k].2] := by rw [HT.out, if_pos (by unfold isN; rw [hsm])]
        have HT2 := Lib.hid hT
        clear hT
        go_wp2_with (first | (at_builtin; refine wpList_pushS (w0 := w) rfl _ _ rfl w.heap.size _ _ _ rfl (unhide H1) L[k].2 rfl _ rfl (by omega) ?_; intro v' w2 h2; obtain ⟨ao', cp', rfl⟩ := (Rd.own h2.own).form; have H2 := hide h2; clear h2) | (go_at_call 49; refine (rsame_any _ _ s1 s2 _).mono ?_; rintro e w1 ⟨rfl, hb1⟩; have d3 : w1.cell? ⟨b, off + k * 2 + 1, none⟩ = some (.string L[k].2) := (hb1.cell (p := ⟨b, off + k * 2 + 1, none⟩) hbw).trans d2; have H1 := hide ((unhide HO).call hb1); clear hb1))
        go_roundw
        case rel => exact ⟨k + 1, by go_num, by omega, by rw [HT2.out, List.length_append, strV_app]; exact unhide H2⟩
        case measure => simp [intOf]; omega
    · have hT : allB (L.take k) name = allB L name := by rw [List.take_of_length_le hge]
      have HT := Lib.hid hT
      clear hT ho
      go_wp2_with fail
      go_ret
      refine ⟨_, rfl, ?_, (unhide HO).bel⟩
      have := (unhide HO).own
      rw [← HT.out]; exact this
end Go.Proofs.YtbpopmbabckojaaGreatDoor.Sp
end

/- The parts of the values of a name: by the program, by the reference. -/
section
namespace Go.Proofs.YtbpopmbabckojaaGreatDoor.Sp
open Go.RowKit Sl

section
variable {P : Program} {ops : Array Oper} {rest : List Oper} {o : Oper} {a : Act} {w : World} {Q : Exit → Act → World → Prop}
theorem wpList_pushAllF {w0 : World} (hgd : o.guard = none) (s x : Operand) (ho : o.op = .call { callee := .builtin .append, args := #[s, x], argTypes := #[22, 22] })
    (base : Nat) (v : Value) (n : Nat) (xs : List Value) (hs : a.eval s = v) (hown : Own w0 w base 55 2 v n xs) (u : Value) (L : List Fld) (hr : Rd w u L.length 2 (fldV L)) (hx : a.eval x = u) (hn : n + L.length ≤ 1000000)
    (h : ∀ v' w1, Own w0 w1 base 55 2 v' (n + L.length) (xs ++ fldV L) → wpList Tryz.prog ops Q rest (a.put o.dst v') w1) : wpList Tryz.prog ops Q (o :: rest) a w := by
  obtain ⟨i, hi, hz, h1, h2⟩ := info_parts (P := Tryz.prog) (e := 55) (z := .agg #[.string ⟨#[]⟩, .string ⟨#[]⟩]) (size := 2) (bytes := 32) (by kernel_rfl)
  exact wpList_pushAll hgd s x 22 ho base 55 i _ 2 32 Tryz.underlying22 hi hz h1 h2 rfl (by decide) v n xs hs hown u L.length (fldV L) hr hx (fldV_one L) (by omega) (by unfold maxLen; omega) h
theorem wpList_pushF {wr w0 : World} (hgd : o.guard = none) (s x : Operand) (ho : o.op = .call { callee := .builtin .append, args := #[s, x], argTypes := #[22, 22] })
    (base : Nat) (v : Value) (n : Nat) (xs : List Value) (hs : a.eval s = v) (hown : Own w0 wr base 55 2 v n xs) (p q : ByteArray) (hw : w = wr.alloc (.cells #[.string p, .string q] 55))
    (c : Nat) (hx : a.eval x = .slice (some ⟨wr.heap.size, 0, none⟩) 1 c) (hn : n ≤ 1000000)
    (h : ∀ v' w1, Own w0 w1 base 55 2 v' (n + 1) (xs ++ [.string p, .string q]) → wpList Tryz.prog ops Q rest (a.put o.dst v') w1) : wpList Tryz.prog ops Q (o :: rest) a w := by
  obtain ⟨i, hi, hz, h1, h2⟩ := info_parts (P := Tryz.prog) (e := 55) (z := .agg #[.string ⟨#[]⟩, .string ⟨#[]⟩]) (size := 2) (bytes := 32) (by kernel_rfl)
  exact wpList_push hgd s x 22 ho base 55 i _ 2 32 Tryz.underlying22 hi hz h1 h2 rfl (by decide) v n xs hs hown [.string p, .string q] (by rw [hw]) rfl (by intro u hu; simp at hu; rcases hu with rfl | rfl <;> rfl) c hx (by omega) (by unfold maxLen; omega) h
end

theorem RetS.rd {w w' : World} {L : List ByteArray} {v : Value} (h : w'.ownsRow w.heap.size 9 1 v L.length (strV L)) : Rd w' v L.length 1 (strV L) := Rd.own h


def flatB (A : List ByteArray) : List ByteArray := A.flatMap splitB
def listB (L : List Fld) (name : ByteArray) : List ByteArray := flatB (allB L name)
theorem flatB_take (A : List ByteArray) (k : Nat) (h : k < A.length) : flatB (A.take (k + 1)) = flatB (A.take k) ++ splitB A[k] := by
  unfold flatB
  rw [List.take_succ_eq_append_getElem h, List.flatMap_append]; simp
theorem splitB_len (s : ByteArray) : (splitB s).length ≤ s.size + 1 := by
  unfold splitB splitS keep
  rw [List.length_map]
  refine Nat.le_trans (List.length_filter_le _ _) ?_
  rw [List.length_map]
  have := pieces_len s.data.toList s.data.toList.length false [] s.data.toList (Nat.le_refl _)
  simpa using this
theorem flat_len : ∀ (A : List ByteArray) (c : Nat), (∀ x ∈ A, x.size ≤ c) → (flatB A).length ≤ A.length * (c + 1)
  | [], _, _ => by simp [flatB]
  | x :: t, c, h => by
    have h1 := flat_len t c (fun y hy => h y (List.mem_cons_of_mem _ hy))
    have h2 := splitB_len x
    have h3 := h x List.mem_cons_self
    unfold flatB at h1 ⊢
    rw [List.flatMap_cons, List.length_append, List.length_cons, Nat.succ_mul]
    omega
theorem allB_small {L : List Fld} (hL : Few L) (name : ByteArray) : (allB L name).length ≤ 100 ∧ ∀ x ∈ allB L name, x.size ≤ 2000 := by
  refine ⟨Nat.le_trans (allB_len L name) hL.1, fun x hx => ?_⟩
  unfold allB at hx
  obtain ⟨f, hf, rfl⟩ := List.mem_map.1 hx
  exact (hL.2 f (List.mem_filter.1 hf).1).2


set_option maxHeartbeats 2000000 in
theorem rlist_any (v : Value) (L : List Fld) (name : ByteArray) (hL : Few L) (hn : name.size ≤ 2000) (w : World) (hv : Rd w v L.length 2 (fldV L)) :
    Calls Tryz.prog 146 #[v, .string name] w (RetS w (listB L name)) := by
  obtain ⟨ao, cap, rfl⟩ := hv.form
  have hc := hide (rall_any _ L name hL hn w hv)
  obtain ⟨A, hA⟩ : ∃ A : List ByteArray, allB L name = A := ⟨_, rfl⟩
  obtain ⟨hl1, hl2⟩ := allB_small hL name
  rw [hA] at hl1 hl2
  have HA := Lib.hid hA
  have HL2 := hide hl2
  have HV := hide hv
  clear hA hv hl2
  go_enter Tryz.func146, Tryz.ntmps146
  go_wp2_with (go_at_call 25; refine (unhide hc).mono ?_; rintro e w1 ⟨v1, rfl, ho1, hb1⟩; rw [HA.out] at ho1; obtain ⟨bo, cp, rfl⟩ := (Rd.own ho1).form; have HR := hide (Rd.own ho1); clear ho1)
  go_loopw [6, 7] (fun v i wr => ∃ k : Nat, i = .int .i64 k ∧ k ≤ A.length ∧ Own w1 wr w1.heap.size 9 1 v (flatB (A.take k)).length (strV (flatB (A.take k)))) (fun _ i _ => A.length - (intOf i).toNat)
  case atStart => exact ⟨0, rfl, Nat.zero_le _, Own.start _ _ (Nat.le_refl _) _ _⟩
  case round =>
    obtain ⟨k, rfl, hk, ho⟩ := hrel
    obtain ⟨co, cq, rfl⟩ := (Rd.own ho.own).form
    have HO := hide ho
    rcases Nat.lt_or_ge k A.length with hlt | hge
    · obtain ⟨b, off, rfl, hb, c1⟩ := str_cell (unhide HR) k hlt
      have d1 := (ho.bel.cell (p := ⟨b, off + k, none⟩) hb).trans c1
      have hsz : A[k].size ≤ 100000 := by have := (unhide HL2) A[k] (List.getElem_mem _); omega
      have HT := Lib.hid (flatB_take A k hlt)
      have hbd := flat_len (A.take k) 2000 (fun x hx => (unhide HL2) x (List.mem_of_mem_take hx))
      have hbd2 := splitB_len A[k]
      rw [List.length_take] at hbd
      have hbd3 : (flatB (A.take k)).length + (splitB A[k]).length ≤ 1000000 := by
        have h5 : min k A.length * 2001 ≤ 100 * 2001 := Nat.mul_le_mul_right _ (by omega)
        have h6 : min k A.length * (2000 + 1) = min k A.length * 2001 := rfl
        omega
      clear c1 ho hbd hbd2
      go_wp2_with (first
        | (at_builtin; refine wpList_pushAllS (w0 := w1) rfl _ _ rfl w1.heap.size _ _ _ rfl (unhide H1) _ (splitB A[k]) (unhide HRD) rfl hbd3 ?_; intro v' w3 h3; obtain ⟨ao', cp', rfl⟩ := (Rd.own h3.own).form; have H3 := hide h3; clear h3)
        | (go_at_call 154; refine (rsplit_any _ hsz _).mono ?_; rintro e w2 ⟨v2, rfl, ho2, hb2⟩; obtain ⟨eo, ep, rfl⟩ := (Rd.own ho2).form; have HRD := hide (Rd.own ho2); have H1 := hide ((unhide HO).call hb2); clear ho2 hb2))
      go_roundw
      case rel => exact ⟨k + 1, by go_num, by omega, by rw [HT.out, List.length_append, strV_app]; exact unhide H3⟩
      case measure => simp [intOf]; omega
    · have hT : flatB (A.take k) = listB L name := by rw [List.take_of_length_le hge, ← HA.out]; rfl
      have HT := Lib.hid hT
      clear hT ho
      go_wp2_with fail
      go_ret
      refine ⟨_, rfl, ?_, hb1.trans ((unhide HO).bel.mono hb1.size)⟩
      have := (unhide HO).own
      rw [← HT.out]; exact World.ownsRow.mono this hb1.size
end Go.Proofs.YtbpopmbabckojaaGreatDoor.Sp
end

/- slices.IndexFunc, slices.DeleteFunc, slices.Clone on fields. -/
section
namespace Go.Proofs.YtbpopmbabckojaaGreatDoor.Sp
open Go.RowKit Sl

/-- Below B all is as it was, but for the one block 'row'. -/
structure Aft (B : Nat) (row : Option Nat) (w w' : World) : Prop where
  os : w'.os = w.os
  tape : w'.tape = w.tape
  output : w'.output = w.output
  size : w.heap.size ≤ w'.heap.size
  block : ∀ k, k < B → some k ≠ row → w'.heap[k]? = w.heap[k]?
theorem Aft.refl (B : Nat) (row : Option Nat) (w : World) : Aft B row w w := ⟨rfl, rfl, rfl, Nat.le_refl _, fun _ _ _ => rfl⟩
theorem Aft.trans {B : Nat} {row : Option Nat} {a b c : World} (h : Aft B row a b) (k : Aft B row b c) : Aft B row a c :=
  ⟨k.os.trans h.os, k.tape.trans h.tape, k.output.trans h.output, Nat.le_trans h.size k.size, fun i hi hr => (k.block i hi hr).trans (h.block i hi hr)⟩
theorem Aft.of_below {B : Nat} {row : Option Nat} {a b : World} (h : Below B a b) : Aft B row a b := ⟨h.os, h.tape, h.output, h.size, fun k hk _ => h.block k hk⟩
theorem Aft.of_grown {B : Nat} {row : Option Nat} {a b : World} (h : a.grownBy b row) (hB : B ≤ a.heap.size) : Aft B row a b := ⟨h.os, h.tape, h.output, h.size, fun k hk hr => h.block k (by omega) hr⟩
theorem Aft.below {B : Nat} {a b : World} (h : Aft B none a b) : Below B a b := ⟨h.os, h.tape, h.output, h.size, fun k hk => h.block k hk (by simp)⟩

/-- A function value that takes a field and says yes or no; it may keep a state of its own, in one block below B. -/
structure Clo (g : FuncId) (cap : Array Value) (B : Nat) (row : Option Nat) {σ : Type} (I : World → σ → Prop) (step : σ → Fld → Bool × σ) : Prop where
  turn : ∀ w w' s, I w s → Below B w w' → I w' s
  call : ∀ (w : World) (s : σ) (f : Fld), I w s → f.1.size ≤ 2000 → B ≤ w.heap.size → Calls Tryz.prog g (#[.agg #[.string f.1, .string f.2]] ++ cap) w fun e w' => e = .returned (.bool (step s f).1) ∧ I w' (step s f).2 ∧ w.grownBy w' row
  rowlt : ∀ T, row = some T → T < B

section
variable {σ : Type} (step : σ → Fld → Bool × σ)
/-- the state behind these fields -/
def runS (s : σ) (L : List Fld) : σ := L.foldl (fun s f => (step s f).2) s
/-- what is kept -/
def keepF (s : σ) : List Fld → List Fld
  | [] => []
  | f :: t => if (step s f).1 = true then keepF (step s f).2 t else f :: keepF (step s f).2 t
/-- the first place where it says yes -/
def firstF (s : σ) : List Fld → Option Nat
  | [] => none
  | f :: t => if (step s f).1 = true then some 0 else (firstF (step s f).2 t).map (· + 1)
theorem runS_take (s : σ) (L : List Fld) (k : Nat) (h : k < L.length) : runS step s (L.take (k + 1)) = (step (runS step s (L.take k)) L[k]).2 := by
  unfold runS
  rw [List.take_succ_eq_append_getElem h, List.foldl_append]; rfl
end

theorem Clo.row {σ : Type} {step : σ → Fld → Bool × σ} {g : FuncId} {cap : Array Value} {B : Nat} {row : Option Nat} {I : World → σ → Prop} (hC : Clo g cap B row I step) {w w' : World} {e : TypeId} {sz : Nat} {v : Value} {n : Nat} {xs : List Value} (h : w.ownsRow B e sz v n xs) (hg : w.grownBy w' row) : w'.ownsRow B e sz v n xs := by
  refine h.kept hg ?_
  cases hv : v.ownBlock with
  | none => exact .inl rfl
  | some k =>
    refine .inr fun e => ?_
    have h1 := row_base h k hv
    have h2 := hC.rowlt k e.symm
    omega

end Go.Proofs.YtbpopmbabckojaaGreatDoor.Sp
end

/- slices.DeleteFunc on fields. -/
section
namespace Go.Proofs.YtbpopmbabckojaaGreatDoor.Sp
open Go.RowKit Sl

section
variable {σ : Type} (step : σ → Fld → Bool × σ)
theorem keepF_app (s : σ) (A B : List Fld) : keepF step s (A ++ B) = keepF step s A ++ keepF step (runS step s A) B := by
  induction A generalizing s with
  | nil => rfl
  | cons f t ih =>
    rw [List.cons_append, keepF, keepF, ih]
    have : runS step s (f :: t) = runS step (step s f).2 t := rfl
    rw [this]
    by_cases h : (step s f).1 = true
    · rw [if_pos h, if_pos h]
    · rw [if_neg h, if_neg h]; rfl
theorem keepF_take (s : σ) (L : List Fld) (k : Nat) (h : k < L.length) : keepF step s (L.take (k + 1)) = keepF step s (L.take k) ++ if (step (runS step s (L.take k)) L[k]).1 = true then [] else [L[k]] := by
  rw [List.take_succ_eq_append_getElem h, keepF_app]
  congr 1
theorem keepF_none (s : σ) (L : List Fld) : ∀ k, k ≤ L.length → (∀ j (h : j < k) (h2 : j < L.length), (step (runS step s (L.take j)) L[j]).1 = false) → keepF step s (L.take k) = L.take k
  | 0, _, _ => by simp [keepF]
  | k + 1, hk, h => by
    rw [keepF_take step s L k (by omega), keepF_none s L k (by omega) (fun j hj h2 => h j (by omega) h2), if_neg (by rw [h k (by omega) (by omega)]; decide), List.take_succ_eq_append_getElem (by omega)]
theorem keepF_len (s : σ) (L : List Fld) : (keepF step s L).length ≤ L.length := by
  induction L generalizing s with
  | nil => simp [keepF]
  | cons f t ih =>
    rw [keepF]
    split
    · have := ih (step s f).2; simp; omega
    · have := ih (step s f).2; simp; omega
theorem keepF_mem (s : σ) (L : List Fld) : ∀ f ∈ keepF step s L, f ∈ L := by
  induction L generalizing s with
  | nil => simp [keepF]
  | cons f t ih =>
    rw [keepF]
    intro x hx
    split at hx
    · exact List.mem_cons_of_mem _ (ih _ x hx)
    · rcases List.mem_cons.1 hx with rfl | hx
      · exact List.mem_cons_self
      · exact List.mem_cons_of_mem _ (ih _ x hx)
end

theorem own_setCells {B : Nat} {e : TypeId} {sz : Nat} {g n cap : Nat} : ∀ (l : List Value) (o : Nat) (w : World) (xs : List Value), w.ownsRow B e sz (.slice (some ⟨g, 0, none⟩) n cap) n xs →
    ∃ ys, ys.take o = xs.take o ∧ (w.setCells g o l).ownsRow B e sz (.slice (some ⟨g, 0, none⟩) n cap) n ys ∧ w.grownBy (w.setCells g o l) (some g)
  | [], o, w, xs, h => ⟨xs, rfl, h, rfl, rfl, rfl, Nat.le_refl _, fun _ _ _ => rfl⟩
  | v :: r, o, w, xs, h => by
    obtain ⟨h1, h2⟩ := h.stored o v
    obtain ⟨ys, e1, h3, h4⟩ := own_setCells r (o + 1) (w.setCell ⟨g, o, none⟩ v) _ h1
    refine ⟨ys, ?_, h3, h4.os.trans h2.os, h4.tape.trans h2.tape, h4.output.trans h2.output, Nat.le_trans h2.size h4.size, fun k hk hne => (h4.block k (Nat.lt_of_lt_of_le hk h2.size) hne).trans (h2.block k hk hne)⟩
    have e2 := congrArg (List.take o) e1
    rw [List.take_take, List.take_take, Nat.min_eq_left (Nat.le_succ o)] at e2
    rw [e2, List.take_set_of_le (Nat.le_refl _)]

theorem own_cut {w : World} {B : Nat} {e : TypeId} {sz : Nat} {g n cap i : Nat} {xs : List Value} (h : w.ownsRow B e sz (.slice (some ⟨g, 0, none⟩) n cap) n xs) (hi : i ≤ n) :
    w.ownsRow B e sz (.slice (some ⟨g, 0, none⟩) i cap) i (xs.take (i * sz)) := by
  rcases h with ⟨hl, ⟨h', _⟩ | ⟨g', cap', cur, h', hb, hg, hnc, hcm, hcs, ht⟩⟩
  · cases h'
  · cases h'
    have hm : i * sz ≤ n * sz := Nat.mul_le_mul_right _ hi
    refine ⟨by rw [List.length_take, hl]; omega, .inr ⟨g, cap, cur, rfl, hb, hg, Nat.le_trans hi hnc, hcm, hcs, ?_⟩⟩
    rw [← ht, List.take_take, Nat.min_eq_left hm]

theorem fldV_take (L : List Fld) (i : Nat) : (fldV L).take (i * 2) = fldV (L.take i) := by
  induction L generalizing i with
  | nil => simp [fldV]
  | cons f t ih =>
    cases i with
    | zero => rw [Nat.zero_mul, List.take_zero, List.take_zero]; rfl
    | succ i =>
      rw [List.take_succ_cons]
      have e1 : (i + 1) * 2 = i * 2 + 2 := by omega
      have e2 : ∀ f : Fld, ∀ l, fldV (f :: l) = Value.string f.1 :: Value.string f.2 :: fldV l := fun f l => by unfold fldV; rw [List.flatMap_cons]; rfl
      rw [e1, e2, e2, List.take_succ_cons, List.take_succ_cons, ih]
theorem fldV_set (L : List Fld) (i : Nat) (f : Fld) : ((fldV L).set (i * 2) (.string f.1)).set (i * 2 + 1) (.string f.2) = fldV (L.set i f) := by
  have e2 : ∀ f : Fld, ∀ l, fldV (f :: l) = Value.string f.1 :: Value.string f.2 :: fldV l := fun f l => by unfold fldV; rw [List.flatMap_cons]; rfl
  induction L generalizing i with
  | nil => simp [fldV]
  | cons x t ih =>
    cases i with
    | zero => rw [Nat.zero_mul, List.set_cons_zero, e2, e2, List.set_cons_zero]; rfl
    | succ i =>
      have e1 : (i + 1) * 2 = i * 2 + 2 := by omega
      rw [e1, List.set_cons_succ, e2, e2, ← ih]
      rfl

section
variable {P : Program} {ops : Array Oper} {rest : List Oper} {o : Oper} {a : Act} {w : World} {Q : Exit → Act → World → Prop}
theorem run_clear {ty : TypeId} (t e : TypeId) (z : Value) (ht : P.underlying t = some (.slice e)) (hz : ∀ w, (zeroValue e).run P w = .ok z w)
    (hz1 : ∀ u ∈ z.cells.toList, u.oneCell' = true) (hz2 : 0 < z.cells.size) (b off n c : Nat) (hn : 0 < n) (hc : ∀ j, j < n * z.cells.size → (w.cell? ⟨b, off + j, none⟩).isSome = true) (hf : ∀ j, j < n * z.cells.size → w.frozen? ⟨b, off + j, none⟩ = false) :
    ∃ l, (Builtin.clear_ #[t] ty #[.slice (some ⟨b, off, none⟩) n c]).run P w = .ok (.tuple #[]) (w.setCells b off l) := by
  have hlen : (Builtin.zeroCells z.cells n).toList.length = n * z.cells.size := by simp [Builtin.zeroCells]
  have h1 : ∀ u ∈ (Builtin.zeroCells z.cells n).toList, u.oneCell' = true := by
    intro u hu
    simp only [Builtin.zeroCells, Array.toList_map, List.mem_map] at hu
    obtain ⟨i, _, rfl⟩ := hu
    have hi : i % z.cells.size < z.cells.size := Nat.mod_lt _ hz2
    rw [getElem!_pos z.cells _ hi]
    exact hz1 _ (Array.mem_toList_iff.2 (Array.getElem_mem hi))
  have hst := run_storeCells_cells (P := P) b off (Builtin.zeroCells z.cells n).toList 0 w (by rw [hlen]; simpa using hc) (by rw [hlen]; simpa using hf) h1
  simp only [Nat.add_zero] at hst
  obtain ⟨m, rfl⟩ : ∃ m, n = m + 1 := ⟨n - 1, by omega⟩
  exact ⟨(Builtin.zeroCells z.cells (m + 1)).toList, by simp [Builtin.clear_, run_underlying ht, hz, hst]⟩
end
end Go.Proofs.YtbpopmbabckojaaGreatDoor.Sp
end
