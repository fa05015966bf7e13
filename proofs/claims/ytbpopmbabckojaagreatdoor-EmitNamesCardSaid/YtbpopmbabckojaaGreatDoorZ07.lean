/- Lemmas for the statement's proof, several texts in one: C4, C5, C7, C8, C9, C10, Ks, C12, F1, F2, F8. -/
import Derived.Test.YtbpopmbabckojaaGreatDoorZ06
import Derived.Lib.SliceRun
import Derived.Deep.AppendLies
import Derived.Test.YtbpopmbabckojaaGreatDoorZ02
import Derived.Laws.StructEq
import Derived.Test.YtbpopmbabckojaaGreatDoorZ04
import Derived.Lib.AppendIntMem
/- The values of a name: by the program, by the reference. -/
namespace Go.Proofs.YtbpopmbabckojaaGreatDoor.Sp
open Go.RowKit Sl

def RetS (w : World) (L : List ByteArray) (e : Ending) (w' : World) : Prop := ∃ v, e = .returned v ∧ w'.ownsRow w.heap.size 9 1 v L.length (strV L) ∧ Below w.heap.size w w'
def RetF (w : World) (L : List Fld) (e : Ending) (w' : World) : Prop := ∃ v, e = .returned v ∧ w'.ownsRow w.heap.size 55 2 v L.length (fldV L) ∧ Below w.heap.size w w'

/-- few fields, of few bytes -/
def Few (L : List Fld) : Prop := L.length ≤ 100 ∧ ∀ f ∈ L, f.1.size ≤ 2000 ∧ f.2.size ≤ 2000

def isN (name : ByteArray) (f : Fld) : Bool := same f.1.data.toList name.data.toList
def allB (L : List Fld) (name : ByteArray) : List ByteArray := (L.filter (isN name)).map (·.2)

theorem allB_take (L : List Fld) (name : ByteArray) (k : Nat) (h : k < L.length) : allB (L.take (k + 1)) name = allB (L.take k) name ++ if isN name L[k] then [L[k].2] else [] := by
  unfold allB
  rw [List.take_succ_eq_append_getElem h, List.filter_append, List.map_append]
  congr 1
  cases hh : isN name L[k] <;> simp [hh]
theorem allB_len (L : List Fld) (name : ByteArray) : (allB L name).length ≤ L.length := by unfold allB; rw [List.length_map]; exact List.length_filter_le _ _

/-- the cells of a field in a list -/
theorem fld_cells {w : World} {ao : Option Addr} {n cap : Nat} {L : List Fld} (h : Rd w (.slice ao n cap) n 2 (fldV L)) (hn : n = L.length) (k : Nat) (hk : k < L.length) :
    ∃ b off, ao = some ⟨b, off, none⟩ ∧ b < w.heap.size ∧ w.cell? ⟨b, off + k * 2, none⟩ = some (.string L[k].1) ∧ w.cell? ⟨b, off + k * 2 + 1, none⟩ = some (.string L[k].2) := by
  obtain ⟨ao', cap', e, _, _, _, hc⟩ := h
  cases e
  have hg := fldV_get L k hk
  obtain ⟨b, off, rfl, hlt, hcc⟩ := hc (by intro e; rw [e] at hg; simp at hg)
  exact ⟨b, off, rfl, hlt, hcc _ _ hg.1, hcc _ _ hg.2⟩

set_option maxHeartbeats 2000000 in
theorem fall_any (v : Value) (L : List Fld) (name : ByteArray) (hL : Few L) (hn : name.size ≤ 2000) (w : World) (hv : Rd w v L.length 2 (fldV L)) :
    Calls Tryz.prog 71 #[v, .string name] w (RetS w (allB L name)) := by
  obtain ⟨ao, cap, rfl⟩ := hv.form
  have HV := hide hv
  have HF := hide hL
  have hlen := hL.1
  have s2 : name.size ≤ 9223372036854775807 := by omega
  clear hv hL
  go_enter Tryz.func71, Tryz.ntmps71
  go_wp2_with fail
  go_loopw [4, 9] (fun v i wr => ∃ k : Nat, i = .int .i64 k ∧ k ≤ L.length ∧ Own w wr w.heap.size 9 1 v (allB (L.take k) name).length (strV (allB (L.take k) name))) (fun _ i _ => L.length - (intOf i).toNat)
  case atStart => exact ⟨0, rfl, Nat.zero_le _, Own.start _ _ (Nat.le_refl _) _ _⟩
  case round =>
    obtain ⟨k, rfl, hk, ho⟩ := hrel
    obtain ⟨bo, cp, rfl⟩ := (Rd.own ho.own).form
    have HO := hide ho
    have hal := allB_len (L.take k) name
    rw [List.length_take] at hal
    rcases Nat.lt_or_ge k L.length with hlt | hge
    · have HT := Lib.hid (allB_take L name k hlt)
      have s1 : L[k].1.size ≤ 9223372036854775807 := by have := ((unhide HF).2 L[k] (List.getElem_mem _)).1; omega
      obtain ⟨b, off, rfl, hb, c1, c2⟩ := fld_cells (unhide HV) rfl k hlt
      have hbw : b < wr.heap.size := Nat.lt_of_lt_of_le hb ho.bel.size
      have d1 := (ho.bel.cell (p := ⟨b, off + k * 2, none⟩) hb).trans c1
      have d2 := (ho.bel.cell (p := ⟨b, off + k * 2 + 1, none⟩) hb).trans c2
      clear c1 c2 ho
      cases hsm : same L[k].1.data.toList name.data.toList
      · have hT : allB (L.take (k + 1)) name = allB (L.take k) name := by rw [HT.out, if_neg (by unfold isN; rw [hsm]; decide), List.append_nil]
        have HT2 := Lib.hid hT
        clear hT
        go_wp2_with (go_at_call 94; refine (same_any _ _ s1 s2 _).mono ?_; rintro e w1 ⟨rfl, hb1⟩; have d3 : w1.cell? ⟨wr.heap.size, 1, none⟩ = some (.string L[k].2) := (hb1.cell (p := ⟨wr.heap.size, 1, none⟩) (by simp)).trans (by simp); have H1 := hide (((unhide HO).alloc (.cells #[.string L[k].1, .string L[k].2] 55)).call hb1); clear hb1)
        go_roundw
        case rel => exact ⟨k + 1, by go_num, by omega, by rw [HT2.out]; exact unhide H1⟩
        case measure => simp [intOf]; omega
      · have hT : allB (L.take (k + 1)) name = allB (L.take k) name ++ [L[k].2] := by rw [HT.out, if_pos (by unfold isN; rw [hsm])]
        have HT2 := Lib.hid hT
        clear hT
        go_wp2_with (first | (at_builtin; refine wpList_pushS (w0 := w) rfl _ _ rfl w.heap.size _ _ _ rfl (unhide H1) L[k].2 rfl _ rfl (by omega) ?_; intro v' w2 h2; obtain ⟨ao', cp', rfl⟩ := (Rd.own h2.own).form; have H2 := hide h2; clear h2) | (go_at_call 94; refine (same_any _ _ s1 s2 _).mono ?_; rintro e w1 ⟨rfl, hb1⟩; have d3 : w1.cell? ⟨wr.heap.size, 1, none⟩ = some (.string L[k].2) := (hb1.cell (p := ⟨wr.heap.size, 1, none⟩) (by simp)).trans (by simp); have H1 := hide (((unhide HO).alloc (.cells #[.string L[k].1, .string L[k].2] 55)).call hb1); clear hb1))
        go_roundw
        case rel => exact ⟨k + 1, by go_num, by omega, by rw [HT2.out, List.length_append, strV_app]; exact unhide H2⟩
        case measure => simp [intOf]; omega
    · have hT : allB (L.take k) name = allB L name := by rw [List.take_of_length_le hge]
      have HT := Lib.hid hT
      clear hT ho
      go_wp2_with fail
      go_ret
      refine ⟨_, rfl, ?_, (unhide HO).bel⟩
      have := (unhide HO).own
      rw [← HT.out]; exact this

set_option maxHeartbeats 2000000 in
theorem rall_any (v : Value) (L : List Fld) (name : ByteArray) (hL : Few L) (hn : name.size ≤ 2000) (w : World) (hv : Rd w v L.length 2 (fldV L)) :
    Calls Tryz.prog 25 #[v, .string name] w (RetS w (allB L name)) := by
  obtain ⟨ao, cap, rfl⟩ := hv.form
  have HV := hide hv
  have HF := hide hL
  have hlen := hL.1
  have s2 : name.size ≤ 9223372036854775807 := by omega
  clear hv hL
  go_enter Tryz.func25, Tryz.ntmps25
  go_wp2_with fail
  go_loopw [5, 6] (fun v i wr => ∃ k : Nat, i = .int .i64 k ∧ k ≤ L.length ∧ Own w wr w.heap.size 9 1 v (allB (L.take k) name).length (strV (allB (L.take k) name))) (fun _ i _ => L.length - (intOf i).toNat)
  case atStart => exact ⟨0, rfl, Nat.zero_le _, Own.start _ _ (Nat.le_refl _) _ _⟩
  case round =>
    obtain ⟨k, rfl, hk, ho⟩ := hrel
    obtain ⟨bo, cp, rfl⟩ := (Rd.own ho.own).form
    have HO := hide ho
    have hal := allB_len (L.take k) name
    rw [List.length_take] at hal
    rcases Nat.lt_or_ge k L.length with hlt | hge
    · have HT := Lib.hid (allB_take L name k hlt)
      have s1 : L[k].1.size ≤ 9223372036854775807 := by have := ((unhide HF).2 L[k] (List.getElem_mem _)).1; omega
      obtain ⟨b, off, rfl, hb, c1, c2⟩ := fld_cells (unhide HV) rfl k hlt
      have hbw : b < wr.heap.size := Nat.lt_of_lt_of_le hb ho.bel.size
      have d1 := (ho.bel.cell (p := ⟨b, off + k * 2, none⟩) hb).trans c1
      have d2 := (ho.bel.cell (p := ⟨b, off + k * 2 + 1, none⟩) hb).trans c2
      clear c1 c2 ho
      cases hsm : same L[k].1.data.toList name.data.toList
      · have hT : allB (L.take (k + 1)) name = allB (L.take k) name := by rw [HT.out, if_neg (by unfold isN; rw [hsm]; decide), List.append_nil]
        have HT2 := Lib.hid hT
        clear hT
        go_wp2_with (go_at_call 49; refine (rsame_any _ _ s1 s2 _).mono ?_; rintro e w1 ⟨rfl, hb1⟩; have d3 : w1.cell? ⟨b, off + k * 2 + 1, none⟩ = some (.string L[k].2) := (hb1.cell (p := ⟨b, off + k * 2 + 1, none⟩) hbw).trans d2; have H1 := hide ((unhide HO).call hb1); clear hb1)
        go_roundw
        case rel => exact ⟨k + 1, by go_num, by omega, by rw [HT2.out]; exact unhide H1⟩
        case measure => simp [intOf]; omega
      · have hT : allB (L.take (k + 1)) name = allB (L.take k) name ++ [L[k].2] := by rw [HT.out, if_pos (by unfold isN; rw [hsm])]
        have HT2 := Lib.hid hT
        clear hT
        go_wp2_with (first | (at_builtin; refine wpList_pushS (w0 := w) rfl _ _ rfl w.heap.size _ _ _ rfl (unhide H1) L[k].2 rfl _ rfl (by omega) ?_; intro v' w2 h2; obtain ⟨ao', cp', rfl⟩ := (Rd.own h2.own).form; have H2 := hide h2; clear h2) | (go_at_call 49; refine (rsame_any _ _ s1 s2 _).mono ?_; rintro e w1 ⟨rfl, hb1⟩; have d3 : w1.cell? ⟨b, off + k * 2 + 1, none⟩ = some (.string L[k].2) := (hb1.cell (p := ⟨b, off + k * 2 + 1, none⟩) hbw).trans d2; have H1 := hide ((unhide HO).call hb1); clear hb1))
        go_roundw
        case rel => exact ⟨k + 1, by go_num, by omega, by rw [HT2.out, List.length_append, strV_app]; exact unhide H2⟩
        case measure => simp [intOf]; omega
    · have hT : allB (L.take k) name = allB L name := by rw [List.take_of_length_le hge]
      have HT := Lib.hid hT
      clear hT ho
      go_wp2_with fail
      go_ret
      refine ⟨_, rfl, ?_, (unhide HO).bel⟩
      have := (unhide HO).own
      rw [← HT.out]; exact this
end Go.Proofs.YtbpopmbabckojaaGreatDoor.Sp

/- The parts of the values of a name: by the program, by the reference. -/
namespace Go.Proofs.YtbpopmbabckojaaGreatDoor.Sp
open Go.RowKit Sl

section
variable {P : Program} {ops : Array Oper} {rest : List Oper} {o : Oper} {a : Act} {w : World} {Q : Exit → Act → World → Prop}
theorem wpList_pushAllF {w0 : World} (hgd : o.guard = none) (s x : Operand) (ho : o.op = .call { callee := .builtin .append, args := #[s, x], argTypes := #[22, 22] })
    (base : Nat) (v : Value) (n : Nat) (xs : List Value) (hs : a.eval s = v) (hown : Own w0 w base 55 2 v n xs) (u : Value) (L : List Fld) (hr : Rd w u L.length 2 (fldV L)) (hx : a.eval x = u) (hn : n + L.length ≤ 1000000)
    (h : ∀ v' w1, Own w0 w1 base 55 2 v' (n + L.length) (xs ++ fldV L) → wpList Tryz.prog ops Q rest (a.put o.dst v') w1) : wpList Tryz.prog ops Q (o :: rest) a w := by
  obtain ⟨i, hi, hz, h1, h2⟩ := info_parts (P := Tryz.prog) (e := 55) (z := .agg #[.string ⟨#[]⟩, .string ⟨#[]⟩]) (size := 2) (bytes := 32) (by kernel_rfl)
  exact wpList_pushAll hgd s x 22 ho base 55 i _ 2 32 Tryz.underlying22 hi hz h1 h2 rfl (by decide) v n xs hs hown u L.length (fldV L) hr hx (fldV_one L) (by omega) (by unfold maxLen; omega) h
theorem wpList_pushF {wr w0 : World} (hgd : o.guard = none) (s x : Operand) (ho : o.op = .call { callee := .builtin .append, args := #[s, x], argTypes := #[22, 22] })
    (base : Nat) (v : Value) (n : Nat) (xs : List Value) (hs : a.eval s = v) (hown : Own w0 wr base 55 2 v n xs) (p q : ByteArray) (hw : w = wr.alloc (.cells #[.string p, .string q] 55))
    (c : Nat) (hx : a.eval x = .slice (some ⟨wr.heap.size, 0, none⟩) 1 c) (hn : n ≤ 1000000)
    (h : ∀ v' w1, Own w0 w1 base 55 2 v' (n + 1) (xs ++ [.string p, .string q]) → wpList Tryz.prog ops Q rest (a.put o.dst v') w1) : wpList Tryz.prog ops Q (o :: rest) a w := by
  obtain ⟨i, hi, hz, h1, h2⟩ := info_parts (P := Tryz.prog) (e := 55) (z := .agg #[.string ⟨#[]⟩, .string ⟨#[]⟩]) (size := 2) (bytes := 32) (by kernel_rfl)
  exact wpList_push hgd s x 22 ho base 55 i _ 2 32 Tryz.underlying22 hi hz h1 h2 rfl (by decide) v n xs hs hown [.string p, .string q] (by rw [hw]) rfl (by intro u hu; simp at hu; rcases hu with rfl | rfl <;> rfl) c hx (by omega) (by unfold maxLen; omega) h
end

theorem RetS.rd {w w' : World} {L : List ByteArray} {v : Value} (h : w'.ownsRow w.heap.size 9 1 v L.length (strV L)) : Rd w' v L.length 1 (strV L) := Rd.own h


def flatB (A : List ByteArray) : List ByteArray := A.flatMap splitB
def listB (L : List Fld) (name : ByteArray) : List ByteArray := flatB (allB L name)
theorem flatB_take (A : List ByteArray) (k : Nat) (h : k < A.length) : flatB (A.take (k + 1)) = flatB (A.take k) ++ splitB A[k] := by
  unfold flatB
  rw [List.take_succ_eq_append_getElem h, List.flatMap_append]; simp
theorem splitB_len (s : ByteArray) : (splitB s).length ≤ s.size + 1 := by
  unfold splitB splitS keep
  rw [List.length_map]
  refine Nat.le_trans (List.length_filter_le _ _) ?_
  rw [List.length_map]
  have := pieces_len s.data.toList s.data.toList.length false [] s.data.toList (Nat.le_refl _)
  simpa using this
theorem flat_len : ∀ (A : List ByteArray) (c : Nat), (∀ x ∈ A, x.size ≤ c) → (flatB A).length ≤ A.length * (c + 1)
  | [], _, _ => by simp [flatB]
  | x :: t, c, h => by
    have h1 := flat_len t c (fun y hy => h y (List.mem_cons_of_mem _ hy))
    have h2 := splitB_len x
    have h3 := h x List.mem_cons_self
    unfold flatB at h1 ⊢
    rw [List.flatMap_cons, List.length_append, List.length_cons, Nat.succ_mul]
    omega
theorem allB_small {L : List Fld} (hL : Few L) (name : ByteArray) : (allB L name).length ≤ 100 ∧ ∀ x ∈ allB L name, x.size ≤ 2000 := by
  refine ⟨Nat.le_trans (allB_len L name) hL.1, fun x hx => ?_⟩
  unfold allB at hx
  obtain ⟨f, hf, rfl⟩ := List.mem_map.1 hx
  exact (hL.2 f (List.mem_filter.1 hf).1).2


set_option maxHeartbeats 2000000 in
theorem rlist_any (v : Value) (L : List Fld) (name : ByteArray) (hL : Few L) (hn : name.size ≤ 2000) (w : World) (hv : Rd w v L.length 2 (fldV L)) :
    Calls Tryz.prog 146 #[v, .string name] w (RetS w (listB L name)) := by
  obtain ⟨ao, cap, rfl⟩ := hv.form
  have hc := hide (rall_any _ L name hL hn w hv)
  obtain ⟨A, hA⟩ : ∃ A : List ByteArray, allB L name = A := ⟨_, rfl⟩
  obtain ⟨hl1, hl2⟩ := allB_small hL name
  rw [hA] at hl1 hl2
  have HA := Lib.hid hA
  have HL2 := hide hl2
  have HV := hide hv
  clear hA hv hl2
  go_enter Tryz.func146, Tryz.ntmps146
  go_wp2_with (go_at_call 25; refine (unhide hc).mono ?_; rintro e w1 ⟨v1, rfl, ho1, hb1⟩; rw [HA.out] at ho1; obtain ⟨bo, cp, rfl⟩ := (Rd.own ho1).form; have HR := hide (Rd.own ho1); clear ho1)
  go_loopw [6, 7] (fun v i wr => ∃ k : Nat, i = .int .i64 k ∧ k ≤ A.length ∧ Own w1 wr w1.heap.size 9 1 v (flatB (A.take k)).length (strV (flatB (A.take k)))) (fun _ i _ => A.length - (intOf i).toNat)
  case atStart => exact ⟨0, rfl, Nat.zero_le _, Own.start _ _ (Nat.le_refl _) _ _⟩
  case round =>
    obtain ⟨k, rfl, hk, ho⟩ := hrel
    obtain ⟨co, cq, rfl⟩ := (Rd.own ho.own).form
    have HO := hide ho
    rcases Nat.lt_or_ge k A.length with hlt | hge
    · obtain ⟨b, off, rfl, hb, c1⟩ := str_cell (unhide HR) k hlt
      have d1 := (ho.bel.cell (p := ⟨b, off + k, none⟩) hb).trans c1
      have hsz : A[k].size ≤ 100000 := by have := (unhide HL2) A[k] (List.getElem_mem _); omega
      have HT := Lib.hid (flatB_take A k hlt)
      have hbd := flat_len (A.take k) 2000 (fun x hx => (unhide HL2) x (List.mem_of_mem_take hx))
      have hbd2 := splitB_len A[k]
      rw [List.length_take] at hbd
      have hbd3 : (flatB (A.take k)).length + (splitB A[k]).length ≤ 1000000 := by
        have h5 : min k A.length * 2001 ≤ 100 * 2001 := Nat.mul_le_mul_right _ (by omega)
        have h6 : min k A.length * (2000 + 1) = min k A.length * 2001 := rfl
        omega
      clear c1 ho hbd hbd2
      go_wp2_with (first
        | (at_builtin; refine wpList_pushAllS (w0 := w1) rfl _ _ rfl w1.heap.size _ _ _ rfl (unhide H1) _ (splitB A[k]) (unhide HRD) rfl hbd3 ?_; intro v' w3 h3; obtain ⟨ao', cp', rfl⟩ := (Rd.own h3.own).form; have H3 := hide h3; clear h3)
        | (go_at_call 154; refine (rsplit_any _ hsz _).mono ?_; rintro e w2 ⟨v2, rfl, ho2, hb2⟩; obtain ⟨eo, ep, rfl⟩ := (Rd.own ho2).form; have HRD := hide (Rd.own ho2); have H1 := hide ((unhide HO).call hb2); clear ho2 hb2))
      go_roundw
      case rel => exact ⟨k + 1, by go_num, by omega, by rw [HT.out, List.length_append, strV_app]; exact unhide H3⟩
      case measure => simp [intOf]; omega
    · have hT : flatB (A.take k) = listB L name := by rw [List.take_of_length_le hge, ← HA.out]; rfl
      have HT := Lib.hid hT
      clear hT ho
      go_wp2_with fail
      go_ret
      refine ⟨_, rfl, ?_, hb1.trans ((unhide HO).bel.mono hb1.size)⟩
      have := (unhide HO).own
      rw [← HT.out]; exact World.ownsRow.mono this hb1.size
end Go.Proofs.YtbpopmbabckojaaGreatDoor.Sp

/- slices.IndexFunc, slices.DeleteFunc, slices.Clone on fields. -/
namespace Go.Proofs.YtbpopmbabckojaaGreatDoor.Sp
open Go.RowKit Sl

/-- Below B all is as it was, but for the one block 'row'. -/
structure Aft (B : Nat) (row : Option Nat) (w w' : World) : Prop where
  os : w'.os = w.os
  tape : w'.tape = w.tape
  output : w'.output = w.output
  size : w.heap.size ≤ w'.heap.size
  block : ∀ k, k < B → some k ≠ row → w'.heap[k]? = w.heap[k]?
theorem Aft.refl (B : Nat) (row : Option Nat) (w : World) : Aft B row w w := ⟨rfl, rfl, rfl, Nat.le_refl _, fun _ _ _ => rfl⟩
theorem Aft.trans {B : Nat} {row : Option Nat} {a b c : World} (h : Aft B row a b) (k : Aft B row b c) : Aft B row a c :=
  ⟨k.os.trans h.os, k.tape.trans h.tape, k.output.trans h.output, Nat.le_trans h.size k.size, fun i hi hr => (k.block i hi hr).trans (h.block i hi hr)⟩
theorem Aft.of_below {B : Nat} {row : Option Nat} {a b : World} (h : Below B a b) : Aft B row a b := ⟨h.os, h.tape, h.output, h.size, fun k hk _ => h.block k hk⟩
theorem Aft.of_grown {B : Nat} {row : Option Nat} {a b : World} (h : a.grownBy b row) (hB : B ≤ a.heap.size) : Aft B row a b := ⟨h.os, h.tape, h.output, h.size, fun k hk hr => h.block k (by omega) hr⟩
theorem Aft.below {B : Nat} {a b : World} (h : Aft B none a b) : Below B a b := ⟨h.os, h.tape, h.output, h.size, fun k hk => h.block k hk (by simp)⟩

/-- A function value that takes a field and says yes or no; it may keep a state of its own, in one block below B. -/
structure Clo (g : FuncId) (cap : Array Value) (B : Nat) (row : Option Nat) {σ : Type} (I : World → σ → Prop) (step : σ → Fld → Bool × σ) : Prop where
  turn : ∀ w w' s, I w s → Below B w w' → I w' s
  call : ∀ (w : World) (s : σ) (f : Fld), I w s → f.1.size ≤ 2000 → B ≤ w.heap.size → Calls Tryz.prog g (#[.agg #[.string f.1, .string f.2]] ++ cap) w fun e w' => e = .returned (.bool (step s f).1) ∧ I w' (step s f).2 ∧ w.grownBy w' row
  rowlt : ∀ T, row = some T → T < B

section
variable {σ : Type} (step : σ → Fld → Bool × σ)
/-- the state behind these fields -/
def runS (s : σ) (L : List Fld) : σ := L.foldl (fun s f => (step s f).2) s
/-- what is kept -/
def keepF (s : σ) : List Fld → List Fld
  | [] => []
  | f :: t => if (step s f).1 = true then keepF (step s f).2 t else f :: keepF (step s f).2 t
/-- the first place where it says yes -/
def firstF (s : σ) : List Fld → Option Nat
  | [] => none
  | f :: t => if (step s f).1 = true then some 0 else (firstF (step s f).2 t).map (· + 1)
theorem runS_take (s : σ) (L : List Fld) (k : Nat) (h : k < L.length) : runS step s (L.take (k + 1)) = (step (runS step s (L.take k)) L[k]).2 := by
  unfold runS
  rw [List.take_succ_eq_append_getElem h, List.foldl_append]; rfl
end

theorem Clo.row {σ : Type} {step : σ → Fld → Bool × σ} {g : FuncId} {cap : Array Value} {B : Nat} {row : Option Nat} {I : World → σ → Prop} (hC : Clo g cap B row I step) {w w' : World} {e : TypeId} {sz : Nat} {v : Value} {n : Nat} {xs : List Value} (h : w.ownsRow B e sz v n xs) (hg : w.grownBy w' row) : w'.ownsRow B e sz v n xs := by
  refine h.kept hg ?_
  cases hv : v.ownBlock with
  | none => exact .inl rfl
  | some k =>
    refine .inr fun e => ?_
    have h1 := row_base h k hv
    have h2 := hC.rowlt k e.symm
    omega

end Go.Proofs.YtbpopmbabckojaaGreatDoor.Sp

/- slices.DeleteFunc on fields. -/
namespace Go.Proofs.YtbpopmbabckojaaGreatDoor.Sp
open Go.RowKit Sl

section
variable {σ : Type} (step : σ → Fld → Bool × σ)
theorem keepF_app (s : σ) (A B : List Fld) : keepF step s (A ++ B) = keepF step s A ++ keepF step (runS step s A) B := by
  induction A generalizing s with
  | nil => rfl
  | cons f t ih =>
    rw [List.cons_append, keepF, keepF, ih]
    have : runS step s (f :: t) = runS step (step s f).2 t := rfl
    rw [this]
    by_cases h : (step s f).1 = true
    · rw [if_pos h, if_pos h]
    · rw [if_neg h, if_neg h]; rfl
theorem keepF_take (s : σ) (L : List Fld) (k : Nat) (h : k < L.length) : keepF step s (L.take (k + 1)) = keepF step s (L.take k) ++ if (step (runS step s (L.take k)) L[k]).1 = true then [] else [L[k]] := by
  rw [List.take_succ_eq_append_getElem h, keepF_app]
  congr 1
theorem keepF_none (s : σ) (L : List Fld) : ∀ k, k ≤ L.length → (∀ j (h : j < k) (h2 : j < L.length), (step (runS step s (L.take j)) L[j]).1 = false) → keepF step s (L.take k) = L.take k
  | 0, _, _ => by simp [keepF]
  | k + 1, hk, h => by
    rw [keepF_take step s L k (by omega), keepF_none s L k (by omega) (fun j hj h2 => h j (by omega) h2), if_neg (by rw [h k (by omega) (by omega)]; decide), List.take_succ_eq_append_getElem (by omega)]
theorem keepF_len (s : σ) (L : List Fld) : (keepF step s L).length ≤ L.length := by
  induction L generalizing s with
  | nil => simp [keepF]
  | cons f t ih =>
    rw [keepF]
    split
    · have := ih (step s f).2; simp; omega
    · have := ih (step s f).2; simp; omega
theorem keepF_mem (s : σ) (L : List Fld) : ∀ f ∈ keepF step s L, f ∈ L := by
  induction L generalizing s with
  | nil => simp [keepF]
  | cons f t ih =>
    rw [keepF]
    intro x hx
    split at hx
    · exact List.mem_cons_of_mem _ (ih _ x hx)
    · rcases List.mem_cons.1 hx with rfl | hx
      · exact List.mem_cons_self
      · exact List.mem_cons_of_mem _ (ih _ x hx)
end

theorem own_setCells {B : Nat} {e : TypeId} {sz : Nat} {g n cap : Nat} : ∀ (l : List Value) (o : Nat) (w : World) (xs : List Value), w.ownsRow B e sz (.slice (some ⟨g, 0, none⟩) n cap) n xs →
    ∃ ys, ys.take o = xs.take o ∧ (w.setCells g o l).ownsRow B e sz (.slice (some ⟨g, 0, none⟩) n cap) n ys ∧ w.grownBy (w.setCells g o l) (some g)
  | [], o, w, xs, h => ⟨xs, rfl, h, rfl, rfl, rfl, Nat.le_refl _, fun _ _ _ => rfl⟩
  | v :: r, o, w, xs, h => by
    obtain ⟨h1, h2⟩ := h.stored o v
    obtain ⟨ys, e1, h3, h4⟩ := own_setCells r (o + 1) (w.setCell ⟨g, o, none⟩ v) _ h1
    refine ⟨ys, ?_, h3, h4.os.trans h2.os, h4.tape.trans h2.tape, h4.output.trans h2.output, Nat.le_trans h2.size h4.size, fun k hk hne => (h4.block k (Nat.lt_of_lt_of_le hk h2.size) hne).trans (h2.block k hk hne)⟩
    have e2 := congrArg (List.take o) e1
    rw [List.take_take, List.take_take, Nat.min_eq_left (Nat.le_succ o)] at e2
    rw [e2, List.take_set_of_le (Nat.le_refl _)]

theorem own_cut {w : World} {B : Nat} {e : TypeId} {sz : Nat} {g n cap i : Nat} {xs : List Value} (h : w.ownsRow B e sz (.slice (some ⟨g, 0, none⟩) n cap) n xs) (hi : i ≤ n) :
    w.ownsRow B e sz (.slice (some ⟨g, 0, none⟩) i cap) i (xs.take (i * sz)) := by
  rcases h with ⟨hl, ⟨h', _⟩ | ⟨g', cap', cur, h', hb, hg, hnc, hcm, hcs, ht⟩⟩
  · cases h'
  · cases h'
    have hm : i * sz ≤ n * sz := Nat.mul_le_mul_right _ hi
    refine ⟨by rw [List.length_take, hl]; omega, .inr ⟨g, cap, cur, rfl, hb, hg, Nat.le_trans hi hnc, hcm, hcs, ?_⟩⟩
    rw [← ht, List.take_take, Nat.min_eq_left hm]

theorem fldV_take (L : List Fld) (i : Nat) : (fldV L).take (i * 2) = fldV (L.take i) := by
  induction L generalizing i with
  | nil => simp [fldV]
  | cons f t ih =>
    cases i with
    | zero => rw [Nat.zero_mul, List.take_zero, List.take_zero]; rfl
    | succ i =>
      rw [List.take_succ_cons]
      have e1 : (i + 1) * 2 = i * 2 + 2 := by omega
      have e2 : ∀ f : Fld, ∀ l, fldV (f :: l) = Value.string f.1 :: Value.string f.2 :: fldV l := fun f l => by unfold fldV; rw [List.flatMap_cons]; rfl
      rw [e1, e2, e2, List.take_succ_cons, List.take_succ_cons, ih]
theorem fldV_set (L : List Fld) (i : Nat) (f : Fld) : ((fldV L).set (i * 2) (.string f.1)).set (i * 2 + 1) (.string f.2) = fldV (L.set i f) := by
  have e2 : ∀ f : Fld, ∀ l, fldV (f :: l) = Value.string f.1 :: Value.string f.2 :: fldV l := fun f l => by unfold fldV; rw [List.flatMap_cons]; rfl
  induction L generalizing i with
  | nil => simp [fldV]
  | cons x t ih =>
    cases i with
    | zero => rw [Nat.zero_mul, List.set_cons_zero, e2, e2, List.set_cons_zero]; rfl
    | succ i =>
      have e1 : (i + 1) * 2 = i * 2 + 2 := by omega
      rw [e1, List.set_cons_succ, e2, e2, ← ih]
      rfl

section
variable {P : Program} {ops : Array Oper} {rest : List Oper} {o : Oper} {a : Act} {w : World} {Q : Exit → Act → World → Prop}
theorem run_clear {ty : TypeId} (t e : TypeId) (z : Value) (ht : P.underlying t = some (.slice e)) (hz : ∀ w, (zeroValue e).run P w = .ok z w)
    (hz1 : ∀ u ∈ z.cells.toList, u.oneCell' = true) (hz2 : 0 < z.cells.size) (b off n c : Nat) (hn : 0 < n) (hc : ∀ j, j < n * z.cells.size → (w.cell? ⟨b, off + j, none⟩).isSome = true) (hf : ∀ j, j < n * z.cells.size → w.frozen? ⟨b, off + j, none⟩ = false) :
    ∃ l, (Builtin.clear_ #[t] ty #[.slice (some ⟨b, off, none⟩) n c]).run P w = .ok (.tuple #[]) (w.setCells b off l) := by
  have hlen : (Builtin.zeroCells z.cells n).toList.length = n * z.cells.size := by simp [Builtin.zeroCells]
  have h1 : ∀ u ∈ (Builtin.zeroCells z.cells n).toList, u.oneCell' = true := by
    intro u hu
    simp only [Builtin.zeroCells, Array.toList_map, List.mem_map] at hu
    obtain ⟨i, _, rfl⟩ := hu
    have hi : i % z.cells.size < z.cells.size := Nat.mod_lt _ hz2
    rw [getElem!_pos z.cells _ hi]
    exact hz1 _ (Array.mem_toList_iff.2 (Array.getElem_mem hi))
  have hst := run_storeCells_cells (P := P) b off (Builtin.zeroCells z.cells n).toList 0 w (by rw [hlen]; simpa using hc) (by rw [hlen]; simpa using hf) h1
  simp only [Nat.add_zero] at hst
  obtain ⟨m, rfl⟩ : ∃ m, n = m + 1 := ⟨n - 1, by omega⟩
  exact ⟨(Builtin.zeroCells z.cells (m + 1)).toList, by simp [Builtin.clear_, run_underlying ht, hz, hst]⟩
end
end Go.Proofs.YtbpopmbabckojaaGreatDoor.Sp

/- slices.DeleteFunc on fields: the walk. -/
namespace Go.Proofs.YtbpopmbabckojaaGreatDoor.Sp
open Go.RowKit Sl

theorem zeroFld (w : World) : (zeroValue 55).run Tryz.prog w = .ok (.agg #[.string ⟨#[]⟩, .string ⟨#[]⟩]) w := by kernel_rfl

theorem Aft.of_set {B : Nat} {row : Option Nat} {a b : World} {g : Nat} (h : a.grownBy b (some g)) (hg : B ≤ g) (hB : B ≤ a.heap.size) : Aft B row a b :=
  ⟨h.os, h.tape, h.output, h.size, fun k hk _ => h.block k (by omega) (fun e => by have := Option.some.inj e; omega)⟩

/-- What IndexFunc tells. -/
def Found {σ : Type} (step : σ → Fld → Bool × σ) (B : Nat) (row : Option Nat) (I : World → σ → Prop) (v : Value) (L : List Fld) (s : σ) (w w' : World) (r : Int) : Prop :=
  (r = -1 ∧ (∀ k (h : k < L.length), (step (runS step s (L.take k)) L[k]).1 = false) ∧ I w' (runS step s L) ∨
    ∃ k, ∃ h : k < L.length, r = k ∧ (∀ j (h : j < k) (h2 : j < L.length), (step (runS step s (L.take j)) L[j]).1 = false) ∧ (step (runS step s (L.take k)) L[k]).1 = true ∧ I w' (runS step s (L.take (k + 1)))) ∧
  w'.ownsRow B 55 2 v L.length (fldV L) ∧ Aft B row w w'

/-- Where DeleteFunc stands: i fields kept, those from j on as they were. -/
structure Mid {σ : Type} (step : σ → Fld → Bool × σ) (s : σ) (L R : List Fld) (i j : Nat) : Prop where
  lt : i < j
  le : j ≤ L.length
  len : R.length = L.length
  front : R.take i = keepF step s (L.take j)
  back : R.drop j = L.drop j
theorem Mid.start {σ : Type} {step : σ → Fld → Bool × σ} {s : σ} {L : List Fld} {k : Nat} (hk : k < L.length) (ha : ∀ j (h : j < k) (h2 : j < L.length), (step (runS step s (L.take j)) L[j]).1 = false) (ht : (step (runS step s (L.take k)) L[k]).1 = true) : Mid step s L L k (k + 1) :=
  ⟨by omega, by omega, rfl, by rw [keepF_take step s L k hk, if_pos ht, List.append_nil, keepF_none step s L k (by omega) ha], rfl⟩
theorem Mid.get {σ : Type} {step : σ → Fld → Bool × σ} {s : σ} {L R : List Fld} {i j : Nat} (h : Mid step s L R i j) (hj : j < L.length) : R[j]'(by rw [h.len]; exact hj) = L[j] := by
  have h1 : R[j]? = L[j]? := by
    have := congrArg (fun l : List Fld => l[0]?) h.back
    simpa using this
  have h2 : j < R.length := by rw [h.len]; exact hj
  rw [List.getElem?_eq_getElem h2, List.getElem?_eq_getElem hj] at h1
  exact Option.some.inj h1
theorem Mid.skip {σ : Type} {step : σ → Fld → Bool × σ} {s : σ} {L R : List Fld} {i j : Nat} (h : Mid step s L R i j) (hj : j < L.length) (hd : (step (runS step s (L.take j)) L[j]).1 = true) : Mid step s L R i (j + 1) := by
  refine ⟨by have := h.lt; omega, by omega, h.len, by rw [keepF_take step s L j hj, if_pos hd, List.append_nil]; exact h.front, ?_⟩
  have := congrArg (List.drop 1) h.back
  rwa [List.drop_drop, List.drop_drop] at this
theorem Mid.keep {σ : Type} {step : σ → Fld → Bool × σ} {s : σ} {L R : List Fld} {i j : Nat} (h : Mid step s L R i j) (hj : j < L.length) (hd : (step (runS step s (L.take j)) L[j]).1 = false) : Mid step s L (R.set i L[j]) (i + 1) (j + 1) := by
  have hi : i < R.length := by rw [h.len]; have := h.lt; omega
  refine ⟨by have := h.lt; omega, by omega, by rw [List.length_set]; exact h.len, ?_, ?_⟩
  · rw [keepF_take step s L j hj, if_neg (by rw [hd]; decide), ← h.front, List.take_succ_eq_append_getElem (by rw [List.length_set]; exact hi), List.getElem_set_self, List.take_set_of_le (Nat.le_refl _)]
  · rw [List.drop_set_of_lt (by have := h.lt; omega)]
    have := congrArg (List.drop 1) h.back
    rwa [List.drop_drop, List.drop_drop] at this
theorem Mid.done {σ : Type} {step : σ → Fld → Bool × σ} {s : σ} {L R : List Fld} {i : Nat} (h : Mid step s L R i L.length) : R.take i = keepF step s L := by
  have := h.front
  rwa [List.take_length] at this

theorem own_fld {w : World} {B : Nat} {e : TypeId} {g n cap : Nat} {R : List Fld} (h : w.ownsRow B e 2 (.slice (some ⟨g, 0, none⟩) n cap) n (fldV R)) (hn : R.length = n) (k : Nat) (hk : k < n) :
    w.cell? ⟨g, k * 2, none⟩ = some (.string (R[k]'(by omega)).1) ∧ w.cell? ⟨g, k * 2 + 1, none⟩ = some (.string (R[k]'(by omega)).2) := by
  have hg := fldV_get R k (by omega)
  exact ⟨(h.cellAt (k * 2) (by omega)).trans hg.1, (h.cellAt (k * 2 + 1) (by omega)).trans hg.2⟩

end Go.Proofs.YtbpopmbabckojaaGreatDoor.Sp

/- slices.Clone, kit.Own, kit.Same, kit.LightFields. -/
namespace Go.Proofs.YtbpopmbabckojaaGreatDoor.Sp
open Go.RowKit Sl

theorem own_empty (w : World) (e : TypeId) (sz : Nat) : (w.alloc (.cells #[] e)).ownsRow w.heap.size e sz (.slice (some ⟨w.heap.size, 0, none⟩) 0 0) 0 [] :=
  ⟨by simp, .inr ⟨w.heap.size, 0, #[], rfl, Nat.le_refl _, alloc_at _ _, Nat.le_refl _, by unfold maxLen; omega, by simp, by simp⟩⟩
theorem Own.fresh (w : World) (e : TypeId) (sz : Nat) : Own w (w.alloc (.cells #[] e)) w.heap.size e sz (.slice (some ⟨w.heap.size, 0, none⟩) 0 0) 0 [] :=
  ⟨own_empty w e sz, (Below.refl _ _).alloc (Nat.le_refl _) _, by simp⟩


set_option maxRecDepth 100000 in
set_option maxHeartbeats 1000000 in
theorem own_any (v : Value) (L : List Fld) (hL : L.length ≤ 100000) (w : World) (hv : Rd w v L.length 2 (fldV L)) :
    Calls Tryz.prog 26 #[v] w (RetF w L) := by
  obtain ⟨ao, cap, rfl⟩ := hv.form
  have HV := hide (hv.alloc (.cells #[] 55))
  have HO := hide (Own.fresh w 55 2)
  clear hv
  go_enter Tryz.func26, Tryz.ntmps26
  go_wp2_with (at_builtin; refine wpList_pushAllF (w0 := w) rfl _ _ rfl w.heap.size _ 0 [] rfl (unhide HO) _ L (unhide HV) rfl (by omega) ?_; intro v' w2 h2; obtain ⟨ao', cp', rfl⟩ := (Rd.own h2.own).form; have H2 := hide h2; clear h2)
  go_ret
  have := unhide H2
  refine ⟨_, rfl, ?_, this.bel⟩
  have h3 := this.own
  rw [Nat.zero_add, List.nil_append] at h3
  simpa using h3
end Go.Proofs.YtbpopmbabckojaaGreatDoor.Sp

/- The kit's Same at texts. -/
namespace Go.Proofs.YtbpopmbabckojaaGreatDoor.Sp
open Go.RowKit Sl

def sameLS (A B : List ByteArray) : Bool := decide (A = B)
theorem take_ne {α : Type} {A B : List α} {k : Nat} (hA : k < A.length) (hB : k < B.length) (h : A[k] ≠ B[k]) : A ≠ B := by
  intro e; subst e; exact h rfl

end Go.Proofs.YtbpopmbabckojaaGreatDoor.Sp

/- kit.Same, kit.LightFields, one. -/
namespace Go.Proofs.YtbpopmbabckojaaGreatDoor.Sp
open Go.RowKit Sl

set_option maxRecDepth 100000 in
set_option maxHeartbeats 2000000 in
theorem lightF_any (v : Value) (L : List Fld) (most bytes : Nat) (hL : L.length ≤ 9223372036854775807) (hb1 : most ≤ 1000) (hb2 : bytes ≤ 1000) (hf : ∀ f ∈ L, f.1.size ≤ 1000000000000000 ∧ f.2.size ≤ 1000000000000000) (w : World) (hv : Rd w v L.length 2 (fldV L)) :
    Calls Tryz.prog 58 #[v, .int .i64 most, .int .i64 bytes] w fun e w' => ∃ r, e = .returned (.bool r) ∧ (r = true → L.length ≤ most ∧ ∀ f ∈ L, f.1.size + f.2.size ≤ bytes) ∧ Below w.heap.size w w' := by
  obtain ⟨ao, cap, rfl⟩ := hv.form
  have HV := hide hv
  have HF := hide hf
  clear hv hf
  rcases Nat.lt_or_ge most L.length with hm | hm
  · go_enter Tryz.func58, Tryz.ntmps58
    go_wp2_with fail
    go_ret
    exact ⟨_, rfl, (by simp), Below.refl _ _⟩
  · go_enter Tryz.func58, Tryz.ntmps58
    go_wp2_with fail
    go_loopw [7, 8] (fun n i wr => ∃ k s : Nat, i = .int .i64 k ∧ n = .int .i64 s ∧ k ≤ L.length ∧ s ≤ bytes ∧ (∀ f ∈ L.take k, f.1.size + f.2.size ≤ bytes) ∧ Below w.heap.size w wr) (fun _ i _ => L.length - (intOf i).toNat)
    case atStart => exact ⟨0, 0, rfl, rfl, Nat.zero_le _, Nat.zero_le _, by simp, Below.refl _ _⟩
    case round =>
      obtain ⟨k, s, rfl, rfl, hk, hs, hall, hbel⟩ := hrel
      have HA := hide hall
      have HB := hide hbel
      rcases Nat.lt_or_ge k L.length with hlt | hge
      · obtain ⟨b, off, rfl, hb, c1, c2⟩ := fld_cells (unhide HV) rfl k hlt
        have d1 := (hbel.cell (p := ⟨b, off + k * 2, none⟩) hb).trans c1
        have d2 := (hbel.cell (p := ⟨b, off + k * 2 + 1, none⟩) hb).trans c2
        have z1 := ((unhide HF) L[k] (List.getElem_mem _)).1
        have z2 := ((unhide HF) L[k] (List.getElem_mem _)).2
        have HT := hide (List.take_succ_eq_append_getElem hlt)
        clear c1 c2 hall hbel
        have hbw : b < wr.heap.size := Nat.lt_of_lt_of_le hb (unhide HB).size
        go_wp2_with fail
        refine Reg.region_more (by kernel_rfl) (by kernel_rfl) ?_
        repeat (go_big_quiet_step (fail))
        refine wpQuiet_nil ?_
        intro w9 hb9; obtain ⟨hc9, hf9, hz9⟩ := bcell hb9; (try simp at hz9)
        have HB9 := hide ((unhide HB).trans (hb9.mono (unhide HB).size))
        clear hb9 hc9 hf9
        rcases Nat.lt_or_ge bytes (s + L[k].1.size + L[k].2.size) with hq | hq
        · go_wp2_with fail
          go_ret
          exact ⟨_, rfl, (by simp), unhide HB9⟩
        · go_wp2_with fail
          go_roundw
          case rel =>
            refine ⟨k + 1, s + L[k].1.size + L[k].2.size, by go_num, by go_num, by omega, by omega, fun f hf => ?_, unhide HB9⟩
            rw [unhide HT, List.mem_append] at hf
            rcases hf with hf | hf
            · exact unhide HA f hf
            · rw [List.mem_singleton] at hf; subst hf; omega
          case measure => simp [intOf]; omega
      · have hT : L.take k = L := List.take_of_length_le hge
        have HT := Lib.hid hT
        clear hT hall hbel
        go_wp2_with fail
        go_ret
        refine ⟨_, rfl, fun _ => ⟨hm, ?_⟩, unhide HB⟩
        have := unhide HA
        rw [HT.out] at this
        exact this

theorem eqFld (a b c d : ByteArray) (w : World) : (Op.equalIn 10000 55 (.agg #[.string a, .string b]) (.agg #[.string c, .string d])).run Tryz.prog w = .ok (a.toList == c.toList && b.toList == d.toList) w := by
  have u9 := Tryz.underlying9
  have a9 := Tryz.isAgg9
  have z9 := Tryz.sizeOf9
  have hS : Tryz.prog.underlying 55 = some (.struct (Tryz.prog.fieldsOf 55)) := by kernel_rfl
  have hp : Tryz.prog.stoodInHeld 55 = false := by kernel_rfl
  rw [show (10000 : Nat) = 9999 + 1 from rfl, run_equalIn_agg w 9999 55 _ _ hS hp]
  simp only [Program.fieldsOf, Tryz.underlying55]
  go_simp
  by_cases h1 : a.toList = c.toList <;> by_cases h2 : b.toList = d.toList <;> simp [h1, h2]
theorem neqFld (a b c d : ByteArray) (w : World) : (binOp .neq 55 (.agg #[.string a, .string b]) (.agg #[.string c, .string d])).run Tryz.prog w = .ok (.bool (!(a.toList == c.toList && b.toList == d.toList))) w := by
  rw [run_neq_struct, eqFld]; rfl
theorem eqlFld (a b c d : ByteArray) (w : World) : (binOp .eql 55 (.agg #[.string a, .string b]) (.agg #[.string c, .string d])).run Tryz.prog w = .ok (.bool (a.toList == c.toList && b.toList == d.toList)) w := by
  rw [run_eql_struct, eqFld]; rfl
theorem guardFld (op : BinOp) (x y : Operand) (xs ys : Array Value) (w : World) : (eqGuard op 55 x y (.agg xs) (.agg ys)).run Tryz.prog w = .ok () w := run_eqGuard_agg w op 55 x y xs ys (by kernel_rfl)

def sameLF (A B : List Fld) : Bool := decide (A = B)
end Go.Proofs.YtbpopmbabckojaaGreatDoor.Sp

/- field.value, Check, Line; the same by the reference. -/
namespace Go.Proofs.YtbpopmbabckojaaGreatDoor.Sp
open Go.RowKit Sl

theorem value_any (s : ByteArray) (hs : s.size ≤ 1000000) (w : World) :
    Calls Tryz.prog 92 #[.string s] w fun e w' => e = .returned (.bool (allS chr s.data.toList)) ∧ Below w.heap.size w w' := by
  cases h : allS chr s.data.toList
  · have hc := hide (fun w => quote_no s hs h w)
    clear h
    go_enter Tryz.func92, Tryz.ntmps92
    go_wp2_with (go_at_call 113; refine (unhide hc _).mono ?_; rintro e w1 ⟨rfl, hb1⟩; have HB := hide hb1; clear hb1)
    go_ret
    exact ⟨rfl, unhide HB⟩
  · have hc := hide (fun w => quote_ok s hs h w)
    clear h
    go_enter Tryz.func92, Tryz.ntmps92
    go_wp2_with (go_at_call 113; refine (unhide hc _).mono ?_; rintro e w1 ⟨rfl, hb1⟩; have HB := hide hb1; clear hb1)
    go_ret
    exact ⟨rfl, unhide HB⟩

/-- may it be a field? -/
def chkS (f : Fld) : Bool := (tokenS f.1.data.toList && allS chr f.2.data.toList) && ((ofL (trimW f.2.data.toList)).toList == f.2.toList)
def errI (ok : Bool) : Int := if ok = true then 0 else 4

set_option maxRecDepth 100000 in
set_option maxHeartbeats 2000000 in
theorem check_any (x y : ByteArray) (hx : x.size ≤ 1000000) (hy : y.size ≤ 1000000) (w : World) :
    Calls Tryz.prog 70 #[.agg #[.string x, .string y]] w fun e w' => e = .returned (.int .i64 (errI (chkS (x, y)))) ∧ Below w.heap.size w w' := by
  have h1 := fun w => token_any x (by omega) w
  have h2 := fun w => value_any y hy w
  have h3 := fun w => trim_any y (by omega) w
  have hc : chkS (x, y) = ((tokenS x.data.toList && allS chr y.data.toList) && ((ofL (trimW y.data.toList)).toList == y.toList)) := rfl
  rw [hc]
  obtain ⟨z, hz⟩ : ∃ z, ofL (trimW y.data.toList) = z := ⟨_, rfl⟩
  obtain ⟨a, ha⟩ : ∃ a, tokenS x.data.toList = a := ⟨_, rfl⟩
  obtain ⟨b, hb⟩ : ∃ b, allS chr y.data.toList = b := ⟨_, rfl⟩
  rw [ha] at h1 ⊢
  rw [hb] at h2 ⊢
  rw [hz] at h3 ⊢
  have H1 := hide h1
  have H2 := hide h2
  have H3 := hide h3
  clear h1 h2 h3 hc hz ha hb
  go_enter Tryz.func70, Tryz.ntmps70
  go_upto_region 1 with fail
  have HH := Reg.Has.new w [.string x, .string y] 55
  have HB := hide ((Below.refl w.heap.size w).alloc (Nat.le_refl _) (.cells #[.string x, .string y] 55))
  generalize w.alloc (.cells #[.string x, .string y] 55) = w1 at HH HB ⊢
  have p1 := HH.cell 0 _ rfl; have q1 := HH.cell 1 _ rfl; have u1 := HH.free 0 (by simp); have v1 := HH.free 1 (by simp); have z1 := HH.lt
  clear HH
  cases a <;> cases b
  all_goals
    refine Reg.region_more (by kernel_rfl) (by kernel_rfl) ?_
    repeat (go_big_quiet_step ((first | (go_at_call 89; exact Reg.Calls.more (unhide H1 _)) | (go_at_call 92; exact Reg.Calls.more (unhide H2 _)) | (go_at_call 93; exact Reg.Calls.more (unhide H3 _)))))
    refine wpQuiet_nil ?_
    intro w9 hb9; obtain ⟨hc9, hf9, hz9⟩ := bcell hb9; (try simp at hz9)
    have HB9 := hide ((unhide HB).trans (hb9.mono (unhide HB).size))
    clear hb9 hc9 hf9
  · go_wp2_with fail
    go_ret
    exact ⟨rfl, unhide HB9⟩
  · go_wp2_with fail
    go_ret
    exact ⟨rfl, unhide HB9⟩
  · go_wp2_with fail
    go_ret
    exact ⟨rfl, unhide HB9⟩
  · cases hzy : (z.toList == y.toList)
    · go_wp2_with fail
      go_ret
      exact ⟨by rw [hzy] <;> rfl, unhide HB9⟩
    · go_wp2_with fail
      go_ret
      exact ⟨by rw [hzy] <;> rfl, unhide HB9⟩
end Go.Proofs.YtbpopmbabckojaaGreatDoor.Sp

/- field.Line; the example that is asked first. -/
namespace Go.Proofs.YtbpopmbabckojaaGreatDoor.Sp
open Go.RowKit Sl

section
variable {ops : Array Oper} {rest : List Oper} {o : Oper} {a : Act} {w : World} {Q : Exit → Act → World → Prop}
theorem infoF : (Tryz.prog.info? 55).map (·.size) = some 2 := by kernel_rfl
theorem wpList_loadF (hgd : o.guard = none) (x : Operand) (ho : o.op = .load 55 x) (b : Nat) (hx : a.eval x = .pointer (some ⟨b, 0, none⟩)) (vs : List Value) (hl : vs.length = 2) (H : Reg.Has w b vs)
    (h : wpList Tryz.prog ops Q rest (a.put o.dst (.agg vs.toArray)) w) : wpList Tryz.prog ops Q (o :: rest) a w :=
  wpList_load_mid hgd 55 x ho b 0 hx vs _ (has_range H) Tryz.underlying55 rfl (by rw [infoF, hl]) h
theorem wpList_storeF (hgd : o.guard = none) (x y : Operand) (ho : o.op = .store 55 x y) (b : Nat) (hx : a.eval x = .pointer (some ⟨b, 0, none⟩)) (cells : Array Value) (hc : cells.size = 2) (hy : a.eval y = .agg cells) (old : List Value) (hl : old.length = 2) (H : Reg.Has w b old) (h1 : cells.all (·.oneCell') = true)
    (h : Reg.Has (w.setCells b 0 cells.toList) b cells.toList → wpList Tryz.prog ops Q rest (a.put o.dst undef) (w.setCells b 0 cells.toList)) : wpList Tryz.prog ops Q (o :: rest) a w := by
  have ht : w.there b 0 cells.size := by have := has_there H; rw [hl] at this; rw [hc]; exact this
  exact wpList_store_mid hgd 55 x y ho b 0 cells hx hy ht (by rw [infoF, hc]) h1 (h (has_setCells (by simp) ht H.lt (fun o w => size_setCells _ _ _ _)))
theorem run_loadF (b : Nat) (cells : Array Value) (hc : cells.size = 2) (H : Reg.Has w b cells.toList) : (loadVar 55 ⟨b, 0, none⟩).run Tryz.prog w = .ok (.agg cells) w :=
  run_loadVar_mid (P := Tryz.prog) w b 0 55 cells.toList _ (has_range H) Tryz.underlying55 rfl (by rw [infoF]; simp [hc])
end

def lineF (s : ByteArray) : Fld := (ofL (cutS 58 s.data.toList).1, ofL (trimW (cutS 58 s.data.toList).2.1))
def lineB (s : ByteArray) : Bool := (cutS 58 s.data.toList).2.2 && chkS (lineF s)
theorem lineF_size (s : ByteArray) : (lineF s).1.size ≤ s.size ∧ (lineF s).2.size ≤ s.size := by
  have h := cutS_len 58 s.data.toList
  have hs : s.data.toList.length = s.size := by simp
  have h2 := trim_len (cutS 58 s.data.toList).2.1
  unfold lineF
  refine ⟨?_, ?_⟩
  · show (ofL _).size ≤ _
    rw [size_list (l := (cutS 58 s.data.toList).1) rfl]; omega
  · show (ofL _).size ≤ _
    rw [size_list (l := trimW (cutS 58 s.data.toList).2.1) rfl]; omega

def fldOut (f : Fld) (ok : Bool) (e : Ending) : Prop := e = .returned (.tuple #[.agg #[.string (if ok = true then f.1 else ⟨#[]⟩), .string (if ok = true then f.2 else ⟨#[]⟩)], .int .i64 (errI ok)])

end Go.Proofs.YtbpopmbabckojaaGreatDoor.Sp

/- field.Bytes. -/
namespace Go.Proofs.YtbpopmbabckojaaGreatDoor.Sp
open Go.RowKit Sl

theorem cell_call8 {W w' : World} {a : Addr} {v : Value} (hb : Below W.heap.size W w') (h : W.cell? a = some v) : w'.cell? a = some v :=
  (hb.cell (World.block_lt_of_cell? W a h)).trans h
def line1 (f : Fld) : ByteArray := f.1 ++ ⟨#[58, 32]⟩ ++ f.2 ++ ⟨#[13, 10]⟩
def linesL (L : List Fld) : List UInt8 := L.flatMap fun f => (line1 f).data.toList
theorem line1_data (f : Fld) : (line1 f).data.toList = f.1.data.toList ++ [58, 32] ++ f.2.data.toList ++ [13, 10] := by
  unfold line1
  rw [app_data, app_data, app_data]
theorem line1_size (f : Fld) : (line1 f).size = f.1.size + f.2.size + 4 := by
  rw [size_list (line1_data f)]
  simp; omega
theorem linesL_len (c : Nat) : ∀ L : List Fld, (∀ f ∈ L, f.1.size + f.2.size + 4 ≤ c) → (linesL L).length ≤ L.length * c
  | [], _ => by simp [linesL]
  | f :: t, h => by
    have ih := linesL_len c t (fun g hg => h g (List.mem_cons_of_mem _ hg))
    have h0 := h f List.mem_cons_self
    have h1 := line1_size f
    unfold linesL at ih ⊢
    rw [List.flatMap_cons, List.length_append, List.length_cons, Nat.add_mul]
    have h2 : (line1 f).data.toList.length = (line1 f).size := by simp
    omega
theorem linesL_app (A B : List Fld) : linesL (A ++ B) = linesL A ++ linesL B := by simp [linesL]
theorem linesL_take (L : List Fld) (k : Nat) (h : k < L.length) : linesL (L.take (k + 1)) = linesL (L.take k) ++ (line1 L[k]).data.toList := by
  rw [List.take_succ_eq_append_getElem h, linesL_app]
  show _ ++ List.flatMap _ [L[k]] = _
  rw [List.flatMap_cons, List.flatMap_nil, List.append_nil]

theorem isB_call {T e : TypeId} {B b : Nat} {xs : List Value} {w w' : World} (h : Lib.IsBuilder T e B b xs w) (hb : Below w.heap.size w w') : Lib.IsBuilder T e B b xs w' := by
  have one : ∀ p, Lib.BuilderAt T e B b p xs w → Lib.BuilderAt T e B b p xs w' := by
    rintro p ⟨hB, v, hbk, hown, hne⟩
    have hlt : b < w.heap.size := Lib.BuilderAt.lt ⟨hB, v, hbk, hown, hne⟩
    refine ⟨hB, v, (hb.block b hlt).trans hbk, ?_, hne⟩
    exact hown.kept (row := none) ⟨hb.os, hb.tape, hb.output, hb.size, fun k hk _ => hb.block k hk⟩ (by
      cases hv : v.ownBlock with
      | none => exact .inl rfl
      | some g => exact .inr (by simp))
  rcases h with h | h
  · exact .inl (one _ h)
  · exact .inr (one _ h)

theorem write_any (B b : Nat) (l : List UInt8) (s : ByteArray) (w : World) (h : Lib.IsBuilder 68 5 B b (Lib.byteCells l) w) (hlen : l.length + s.size ≤ 140737488355328) (hBw : B ≤ w.heap.size) :
    Calls Tryz.prog 62 #[.pointer (some ⟨b, 0, none⟩), .string s] w fun e w' => e = .returned (.tuple #[.int .i64 s.size, .nilIface]) ∧ Lib.IsBuilder 68 5 B b (Lib.byteCells (l ++ s.data.toList)) w' ∧ Below B w w' := by
  have hl : (Lib.byteCells l).length = l.length := by simp [Lib.byteCells]
  refine (Any.Builder_WriteString { Tryz.lays156 with } Tryz.Builder_Extra_156 B b (Lib.byteCells l) s w h (by rw [hl]; exact hlen) hBw).mono ?_
  rintro e w' ⟨rfl, h1, h2⟩
  refine ⟨rfl, .inr ?_, h2⟩
  have : Lib.byteCells (l ++ s.data.toList) = Lib.byteCells l ++ Lib.strCells s := by simp [Lib.byteCells, Lib.strCells]
  rw [this]
  exact h1

def BytesO (L : List Fld) (e : Ending) : Prop := e = .returned (.tuple #[.string (if L.all chkS = true then ofL (linesL L) else ⟨#[]⟩), .int .i64 (errI (L.all chkS))])
theorem allC_take (L : List Fld) (k : Nat) (h : k < L.length) : (L.take (k + 1)).all chkS = ((L.take k).all chkS && chkS L[k]) := by
  rw [List.take_succ_eq_append_getElem h, List.all_append]; simp
theorem allC_no (L : List Fld) (k : Nat) (h : k < L.length) (hn : chkS L[k] = false) : L.all chkS = false := by
  cases hh : L.all chkS
  · rfl
  · rw [List.all_eq_true] at hh
    rw [hh _ (List.getElem_mem h)] at hn
    exact hn

set_option maxRecDepth 100000 in
set_option maxHeartbeats 2000000 in
theorem bytes_any (v : Value) (L : List Fld) (hL : L.length ≤ 1000000) (hf : ∀ f ∈ L, f.1.size ≤ 100000 ∧ f.2.size ≤ 100000) (w : World) (hv : Rd w v L.length 2 (fldV L)) :
    Calls Tryz.prog 47 #[v] w fun e w' => BytesO L e ∧ Below w.heap.size w w' := by
  obtain ⟨ao, cap, rfl⟩ := hv.form
  have HV := hide hv
  have HF := hide hf
  clear hv hf
  go_enter Tryz.func47, Tryz.ntmps47
  go_upto_region 2 with fail
  have HI := hide (Lib.fresh_isBuilder 68 5 w)
  have HB := hide ((Below.refl w.heap.size w).alloc (Nat.le_refl _) (.cells #[.pointer none, .slice none 0 0] 68))
  generalize w.alloc (.cells #[.pointer none, .slice none 0 0] 68) = w0 at HI HB ⊢
  go_wp2_with fail
  go_loopw [10] (fun i wr => ∃ k : Nat, i = .int .i64 k ∧ k ≤ L.length ∧ (L.take k).all chkS = true ∧ Lib.IsBuilder 68 5 w.heap.size w.heap.size (Lib.byteCells (linesL (L.take k))) wr ∧ Below w.heap.size w wr) (fun i _ => L.length - (intOf i).toNat)
  case atStart => exact ⟨0, rfl, Nat.zero_le _, by simp, by rw [List.take_zero]; exact unhide HI, unhide HB⟩
  case round =>
    clear HI HB
    obtain ⟨k, rfl, hk, hall, hi, hb⟩ := hrel
    have HA := Lib.hid hall
    have HI := hide hi
    have HB := hide hb
    clear hall hi
    rcases Nat.lt_or_ge k L.length with hlt | hge
    · obtain ⟨b, off, rfl, hbk, d1, d2⟩ := fld_cells ((unhide HV).below hb) rfl k hlt
      have hz := (unhide HF) L[k] (List.getElem_mem _)
      have hnl := linesL_len 200004 (L.take k) (fun f hf => by have := (unhide HF) f (List.mem_of_mem_take hf); omega)
      rw [List.length_take, Nat.min_eq_left hk] at hnl
      have HS := Lib.hid (linesL_take L k hlt)
      have HT := Lib.hid (allC_take L k hlt)
      have hno := allC_no L k hlt
      have h1s := line1_size L[k]
      have hsz := hb.size
      obtain ⟨⟨x, y⟩, hx⟩ : ∃ x, L[k] = x := ⟨_, rfl⟩
      rw [hx] at d1 d2 hz hno h1s HS HT
      obtain ⟨l, hl⟩ : ∃ l, linesL (L.take k) = l := ⟨_, rfl⟩
      rw [hl] at HI HS hnl
      have hzx : x.size ≤ 1000000 := Nat.le_trans hz.1 (by decide)
      have hzy : y.size ≤ 1000000 := Nat.le_trans hz.2 (by decide)
      have hc := fun w => check_any x y hzx hzy w
      have HZ := hide (show l.length + (line1 (x, y)).size ≤ 140737488355328 by simp only at hz h1s; omega)
      clear hx hl hz h1s hnl hb
      obtain ⟨ok, hok⟩ : ∃ ok, chkS (x, y) = ok := ⟨_, rfl⟩
      rw [hok] at hc hno HT
      have HC := hide hc
      have HNO := hide hno
      clear hc hno hok
      unfold errI at HC
      cases ok
      · simp only [Bool.false_eq_true, if_false] at HC
        have HN := Lib.hid ((unhide HNO) rfl)
        go_wp2_with (go_at_call 70; refine (unhide HC _).mono ?_; rintro e w2 ⟨rfl, hb2⟩; have HB2 := hide (((unhide HB).alloc hsz (.cells #[.string x, .string y] 55)).trans (hb2.mono (by simp; omega))); clear hb2)
        go_ret2
        unfold BytesO
        rw [HN.out]
        exact ⟨rfl, unhide HB2⟩
      · simp only [if_true] at HC
        go_wp2_with (first
          | (go_at_call 70; refine (unhide HC _).mono ?_; rintro e w2 ⟨rfl, hb2⟩; have d3 := cell_call8 hb2 (a := ⟨wr.heap.size, 0, none⟩) (v := .string x) (by simp); have d4 := cell_call8 hb2 (a := ⟨wr.heap.size, 1, none⟩) (v := .string y) (by simp); have HI2 := hide (isB_call (isB_call (unhide HI) ((Below.refl wr.heap.size wr).alloc (Nat.le_refl _) (.cells #[.string x, .string y] 55))) hb2); have HB2 := hide (((unhide HB).alloc hsz (.cells #[.string x, .string y] 55)).trans (hb2.mono (by simp; omega))); clear hb2)
          | (go_at_call 62; refine (write_any w.heap.size w.heap.size l (line1 (x, y)) _ (unhide HI2) (unhide HZ) (unhide HB2).size).mono ?_; rintro e w3 ⟨rfl, hi3, hb3⟩; have HI3 := hide hi3; have HB3 := hide ((unhide HB2).trans hb3); clear hi3 hb3))
        go_roundw
        case rel => exact ⟨k + 1, by go_num, by omega, by rw [HT.out, HA.out]; rfl, by rw [HS.out]; exact unhide HI3, unhide HB3⟩
        case measure => simp [intOf]; omega
    · have hT : L.take k = L := List.take_of_length_le hge
      rw [hT] at HA HI
      have HN := HA
      have HI2 := HI
      have hsz := hb.size
      clear hT hb
      go_wp2_with (go_at_call 41; refine (Tryz.Builder_String_any w.heap.size w.heap.size (linesL L) _ (unhide HI2) hsz).mono ?_; rintro e w3 ⟨rfl, hb3⟩; have HB3 := hide ((unhide HB).trans hb3); clear hb3)
      go_ret2
      unfold BytesO
      rw [HN.out]
      exact ⟨rfl, unhide HB3⟩
end Go.Proofs.YtbpopmbabckojaaGreatDoor.Sp
