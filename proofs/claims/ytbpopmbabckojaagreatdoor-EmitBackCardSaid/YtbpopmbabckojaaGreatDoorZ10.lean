/- Lemmas for the statement's proof, several texts in one: C9, C10, Ks, C12, Cut, F1, F2, Q1, A0, A1. -/
import Derived.Test.YtbpopmbabckojaaGreatDoorZ09
import Derived.Deep.AppendLies
import Derived.Test.YtbpopmbabckojaaGreatDoorZ04
import Derived.Laws.StructEq
import Derived.Test.YtbpopmbabckojaaGreatDoorZ01
import Derived.Lib.IndexMore
import Derived.Test.YtbpopmbabckojaaGreatDoorZ07
import Derived.Test.YtbpopmbabckojaaGreatDoorZ03
set_option linter.unusedVariables false
set_option linter.unusedSimpArgs false
/- slices.DeleteFunc on fields: the walk. -/
section
namespace Go.Proofs.YtbpopmbabckojaaGreatDoor.Sp
open Go.RowKit Sl

theorem zeroFld (w : World) : (zeroValue 55).run Tryz.prog w = .ok (.agg #[.string ⟨#[]⟩, .string ⟨#[]⟩]) w := by kernel_rfl

theorem Aft.of_set {B : Nat} {row : Option Nat} {a b : World} {g : Nat} (h : a.grownBy b (some g)) (hg : B ≤ g) (hB : B ≤ a.heap.size) : Aft B row a b :=
  ⟨h.os, h.tape, h.output, h.size, fun k hk _ => h.block k (by omega) (fun e => by have := Option.some.inj e; omega)⟩

/-- What IndexFunc tells. -/
def Found {σ : Type} (step : σ → Fld → Bool × σ) (B : Nat) (row : Option Nat) (I : World → σ → Prop) (v : Value) (L : List Fld) (s : σ) (w w' : World) (r : Int) : Prop :=
  (r = -1 ∧ (∀ k (h : k < L.length), (step (runS step s (L.take k)) L[k]).1 = false) ∧ I w' (runS step s L) ∨
    ∃ k, ∃ h : k < L.length, r = k ∧ (∀ j (h : j < k) (h2 : j < L.length), (step (runS step s (L.take j)) L[j]).1 = false) ∧ (step (runS step s (L.take k)) L[k]).1 = true ∧ I w' (runS step s (L.take (k + 1)))) ∧
  w'.ownsRow B 55 2 v L.length (fldV L) ∧ Aft B row w w'

/-- Where DeleteFunc stands: i fields kept, those from j on as they were. -/
structure Mid {σ : Type} (step : σ → Fld → Bool × σ) (s : σ) (L R : List Fld) (i j : Nat) : Prop where
  lt : i < j
  le : j ≤ L.length
  len : R.length = L.length
  front : R.take i = keepF step s (L.take j)
  back : R.drop j = L.drop j
theorem Mid.start {σ : Type} {step : σ → Fld → Bool × σ} {s : σ} {L : List Fld} {k : Nat} (hk : k < L.length) (ha : ∀ j (h : j < k) (h2 : j < L.length), (step (runS step s (L.take j)) L[j]).1 = false) (ht : (step (runS step s (L.take k)) L[k]).1 = true) : Mid step s L L k (k + 1) :=
  ⟨by omega, by omega, rfl, by rw [keepF_take step s L k hk, if_pos ht, List.append_nil, keepF_none step s L k (by omega) ha], rfl⟩
theorem Mid.get {σ : Type} {step : σ → Fld → Bool × σ} {s : σ} {L R : List Fld} {i j : Nat} (h : Mid step s L R i j) (hj : j < L.length) : R[j]'(by rw [h.len]; exact hj) = L[j] := by
  have h1 : R[j]? = L[j]? := by
    have := congrArg (fun l : List Fld => l[0]?) h.back
    simpa using this
  have h2 : j < R.length := by rw [h.len]; exact hj
  rw [List.getElem?_eq_getElem h2, List.getElem?_eq_getElem hj] at h1
  exact Option.some.inj h1
theorem Mid.skip {σ : Type} {step : σ → Fld → Bool × σ} {s : σ} {L R : List Fld} {i j : Nat} (h : Mid step s L R i j) (hj : j < L.length) (hd : (step (runS step s (L.take j)) L[j]).1 = true) : Mid step s L R i (j + 1) := by
  refine ⟨by have := h.lt; omega, by omega, h.len, by rw [keepF_take step s L j hj, if_pos hd, List.append_nil]; exact h.front, ?_⟩
  have := congrArg (List.drop 1) h.back
  rwa [List.drop_drop, List.drop_drop] at this
theorem Mid.keep {σ : Type} {step : σ → Fld → Bool × σ} {s : σ} {L R : List Fld} {i j : Nat} (h : Mid step s L R i j) (hj : j < L.length) (hd : (step (runS step s (L.take j)) L[j]).1 = false) : Mid step s L (R.set i L[j]) (i + 1) (j + 1) := by
  have hi : i < R.length := by rw [h.len]; have := h.lt; omega
  refine ⟨by have := h.lt; omega, by omega, by rw [List.length_set]; exact h.len, ?_, ?_⟩
  · rw [keepF_take step s L j hj, if_neg (by rw [hd]; decide), ← h.front, List.take_succ_eq_append_getElem (by rw [List.length_set]; exact hi), List.getElem_set_self, List.take_set_of_le (Nat.le_refl _)]
  · rw [List.drop_set_of_lt (by have := h.lt; omega)]
    have := congrArg (List.drop 1) h.back
    rwa [List.drop_drop, List.drop_drop] at this
theorem Mid.done {σ : Type} {step : σ → Fld → Bool × σ} {s : σ} {L R : List Fld} {i : Nat} (h : Mid step s L R i L.length) : R.take i = keepF step s L := by
  have := h.front
  rwa [List.take_length] at this

theorem own_fld {w : World} {B : Nat} {e : TypeId} {g n cap : Nat} {R : List Fld} (h : w.ownsRow B e 2 (.slice (some ⟨g, 0, none⟩) n cap) n (fldV R)) (hn : R.length = n) (k : Nat) (hk : k < n) :
    w.cell? ⟨g, k * 2, none⟩ = some (.string (R[k]'(by omega)).1) ∧ w.cell? ⟨g, k * 2 + 1, none⟩ = some (.string (R[k]'(by omega)).2) := by
  have hg := fldV_get R k (by omega)
  exact ⟨(h.cellAt (k * 2) (by omega)).trans hg.1, (h.cellAt (k * 2 + 1) (by omega)).trans hg.2⟩

end Go.Proofs.YtbpopmbabckojaaGreatDoor.Sp
end

/- slices.Clone, kit.Own, kit.Same, kit.LightFields. -/
section
namespace Go.Proofs.YtbpopmbabckojaaGreatDoor.Sp
open Go.RowKit Sl

theorem own_empty (w : World) (e : TypeId) (sz : Nat) : (w.alloc (.cells #[] e)).ownsRow w.heap.size e sz (.slice (some ⟨w.heap.size, 0, none⟩) 0 0) 0 [] :=
  ⟨by simp, .inr ⟨w.heap.size, 0, #[], rfl, Nat.le_refl _, alloc_at _ _, Nat.le_refl _, by unfold maxLen; omega, by simp, by simp⟩⟩
theorem Own.fresh (w : World) (e : TypeId) (sz : Nat) : Own w (w.alloc (.cells #[] e)) w.heap.size e sz (.slice (some ⟨w.heap.size, 0, none⟩) 0 0) 0 [] :=
  ⟨own_empty w e sz, (Below.refl _ _).alloc (Nat.le_refl _) _, by simp⟩


set_option maxRecDepth 100000 in
set_option maxHeartbeats 1000000 in
theorem own_any (v : Value) (L : List Fld) (hL : L.length ≤ 100000) (w : World) (hv : Rd w v L.length 2 (fldV L)) :
    Calls Tryz.prog 26 #[v] w (RetF w L) := by
  obtain ⟨ao, cap, rfl⟩ := hv.form
  have HV := hide (hv.alloc (.cells #[] 55))
  have HO := hide (Own.fresh w 55 2)
  clear hv
  go_enter Tryz.func26, Tryz.ntmps26
  go_wp2_with (at_builtin; refine wpList_pushAllF (w0 := w) rfl _ _ rfl w.heap.size _ 0 [] rfl (unhide HO) _ L (unhide HV) rfl (by omega) ?_; intro v' w2 h2; obtain ⟨ao', cp', rfl⟩ := (Rd.own h2.own).form; have H2 := hide h2; clear h2)
  go_ret
  have := unhide H2
  refine ⟨_, rfl, ?_, this.bel⟩
  have h3 := this.own
  rw [Nat.zero_add, List.nil_append] at h3
  simpa using h3
end Go.Proofs.YtbpopmbabckojaaGreatDoor.Sp
end

/- The kit's Same at texts. -/
section
namespace Go.Proofs.YtbpopmbabckojaaGreatDoor.Sp
open Go.RowKit Sl

def sameLS (A B : List ByteArray) : Bool := decide (A = B)
theorem take_ne {α : Type} {A B : List α} {k : Nat} (hA : k < A.length) (hB : k < B.length) (h : A[k] ≠ B[k]) : A ≠ B := by
  intro e; subst e; exact h rfl

end Go.Proofs.YtbpopmbabckojaaGreatDoor.Sp
end

/- kit.Same, kit.LightFields, one. -/
section
namespace Go.Proofs.YtbpopmbabckojaaGreatDoor.Sp
open Go.RowKit Sl

set_option maxRecDepth 100000 in
set_option maxHeartbeats 2000000 in
theorem lightF_any (v : Value) (L : List Fld) (most bytes : Nat) (hL : L.length ≤ 9223372036854775807) (hb1 : most ≤ 1000) (hb2 : bytes ≤ 1000) (hf : ∀ f ∈ L, f.1.size ≤ 1000000000000000 ∧ f.2.size ≤ 1000000000000000) (w : World) (hv : Rd w v L.length 2 (fldV L)) :
    Calls Tryz.prog 58 #[v, .int .i64 most, .int .i64 bytes] w fun e w' => ∃ r, e = .returned (.bool r) ∧ (r = true → L.length ≤ most ∧ ∀ f ∈ L, f.1.size + f.2.size ≤ bytes) ∧ Below w.heap.size w w' := by
  obtain ⟨ao, cap, rfl⟩ := hv.form
  have HV := hide hv
  have HF := hide hf
  clear hv hf
  rcases Nat.lt_or_ge most L.length with hm | hm
  · go_enter Tryz.func58, Tryz.ntmps58
    go_wp2_with fail
    go_ret
    exact ⟨_, rfl, (by simp), Below.refl _ _⟩
  · go_enter Tryz.func58, Tryz.ntmps58
    go_wp2_with fail
    go_loopw [7, 8] (fun n i wr => ∃ k s : Nat, i = .int .i64 k ∧ n = .int .i64 s ∧ k ≤ L.length ∧ s ≤ bytes ∧ (∀ f ∈ L.take k, f.1.size + f.2.size ≤ bytes) ∧ Below w.heap.size w wr) (fun _ i _ => L.length - (intOf i).toNat)
    case atStart => exact ⟨0, 0, rfl, rfl, Nat.zero_le _, Nat.zero_le _, by simp, Below.refl _ _⟩
    case round =>
      obtain ⟨k, s, rfl, rfl, hk, hs, hall, hbel⟩ := hrel
      have HA := hide hall
      have HB := hide hbel
      rcases Nat.lt_or_ge k L.length with hlt | hge
      · obtain ⟨b, off, rfl, hb, c1, c2⟩ := fld_cells (unhide HV) rfl k hlt
        have d1 := (hbel.cell (p := ⟨b, off + k * 2, none⟩) hb).trans c1
        have d2 := (hbel.cell (p := ⟨b, off + k * 2 + 1, none⟩) hb).trans c2
        have z1 := ((unhide HF) L[k] (List.getElem_mem _)).1
        have z2 := ((unhide HF) L[k] (List.getElem_mem _)).2
        have HT := hide (List.take_succ_eq_append_getElem hlt)
        clear c1 c2 hall hbel
        have hbw : b < wr.heap.size := Nat.lt_of_lt_of_le hb (unhide HB).size
        go_wp2_with fail
        refine Reg.region_more (by kernel_rfl) (by kernel_rfl) ?_
        repeat (go_big_quiet_step (fail))
        refine wpQuiet_nil ?_
        intro w9 hb9; obtain ⟨hc9, hf9, hz9⟩ := bcell hb9; (try simp at hz9)
        have HB9 := hide ((unhide HB).trans (hb9.mono (unhide HB).size))
        clear hb9 hc9 hf9
        rcases Nat.lt_or_ge bytes (s + L[k].1.size + L[k].2.size) with hq | hq
        · go_wp2_with fail
          go_ret
          exact ⟨_, rfl, (by simp), unhide HB9⟩
        · go_wp2_with fail
          go_roundw
          case rel =>
            refine ⟨k + 1, s + L[k].1.size + L[k].2.size, by go_num, by go_num, by omega, by omega, fun f hf => ?_, unhide HB9⟩
            rw [unhide HT, List.mem_append] at hf
            rcases hf with hf | hf
            · exact unhide HA f hf
            · rw [List.mem_singleton] at hf; subst hf; omega
          case measure => simp [intOf]; omega
      · have hT : L.take k = L := List.take_of_length_le hge
        have HT := Lib.hid hT
        clear hT hall hbel
        go_wp2_with fail
        go_ret
        refine ⟨_, rfl, fun _ => ⟨hm, ?_⟩, unhide HB⟩
        have := unhide HA
        rw [HT.out] at this
        exact this

theorem eqFld (a b c d : ByteArray) (w : World) : (Op.equalIn 10000 55 (.agg #[.string a, .string b]) (.agg #[.string c, .string d])).run Tryz.prog w = .ok (a.toList == c.toList && b.toList == d.toList) w := by
  have u9 := Tryz.underlying9
  have a9 := Tryz.isAgg9
  have z9 := Tryz.sizeOf9
  have hS : Tryz.prog.underlying 55 = some (.struct (Tryz.prog.fieldsOf 55)) := by kernel_rfl
  have hp : Tryz.prog.stoodInHeld 55 = false := by kernel_rfl
  rw [show (10000 : Nat) = 9999 + 1 from rfl, run_equalIn_agg w 9999 55 _ _ hS hp]
  simp only [Program.fieldsOf, Tryz.underlying55]
  go_simp
  by_cases h1 : a.toList = c.toList <;> by_cases h2 : b.toList = d.toList <;> simp [h1, h2]
theorem neqFld (a b c d : ByteArray) (w : World) : (binOp .neq 55 (.agg #[.string a, .string b]) (.agg #[.string c, .string d])).run Tryz.prog w = .ok (.bool (!(a.toList == c.toList && b.toList == d.toList))) w := by
  rw [run_neq_struct, eqFld]; rfl
theorem eqlFld (a b c d : ByteArray) (w : World) : (binOp .eql 55 (.agg #[.string a, .string b]) (.agg #[.string c, .string d])).run Tryz.prog w = .ok (.bool (a.toList == c.toList && b.toList == d.toList)) w := by
  rw [run_eql_struct, eqFld]; rfl
theorem guardFld (op : BinOp) (x y : Operand) (xs ys : Array Value) (w : World) : (eqGuard op 55 x y (.agg xs) (.agg ys)).run Tryz.prog w = .ok () w := run_eqGuard_agg w op 55 x y xs ys (by kernel_rfl)

def sameLF (A B : List Fld) : Bool := decide (A = B)
end Go.Proofs.YtbpopmbabckojaaGreatDoor.Sp
end

/- strings.Cut at one byte. -/
section
namespace Go.Proofs.YtbpopmbabckojaaGreatDoor.Sp
open Go.RowKit

def cutS (c : UInt8) : List UInt8 → List UInt8 × List UInt8 × Bool
  | [] => ([], [], false)
  | b :: l => if b = c then ([], l, true) else (b :: (cutS c l).1, (cutS c l).2.1, (cutS c l).2.2)
theorem cut_one (c : UInt8) : ∀ l : List UInt8, Lib.cut l [c] = cutS c l
  | [] => rfl
  | b :: l => by
    have ih := cut_one c l
    have hg := Lib.index_ge l [c]
    unfold Lib.cut at ih ⊢
    unfold cutS Lib.index
    by_cases hb : b = c
    · subst hb
      simp
    · rw [if_neg hb]
      have hp : List.isPrefixOf [c] (b :: l) = false := by
        simp [List.isPrefixOf]
        exact fun h => hb h.symm
      rw [hp]
      simp only [Bool.false_eq_true, if_false]
      rw [← ih]
      by_cases hx : Lib.index l [c] = -1
      · simp [hx]
      · have h0 : 0 ≤ Lib.index l [c] := by omega
        have hx' : (Lib.index l [c] == -1) = false := by simpa using hx
        have h1 : 0 ≤ Lib.index l [c] + 1 := by omega
        rw [hx']
        simp only [Bool.false_eq_true, if_false]
        rw [if_pos h0, if_pos h1]
        have e1 : (Lib.index l [c] + 1).toNat = (Lib.index l [c]).toNat + 1 := by omega
        rw [e1]
        simp only [List.take_succ_cons, List.length_singleton, List.drop_succ_cons]
theorem cutS_len (c : UInt8) : ∀ l : List UInt8, (cutS c l).1.length ≤ l.length ∧ (cutS c l).2.1.length ≤ l.length
  | [] => ⟨Nat.le_refl _, Nat.le_refl _⟩
  | b :: l => by
    have ih := cutS_len c l
    unfold cutS
    split
    · simp
    · simp only [List.length_cons]; omega

/-- The library's variable MaxLen holds a number. -/
def MaxV (w : World) : Prop := ∃ m : Int, w.cell? ⟨1, 0, none⟩ = some (.int .i64 m)
theorem MaxV.below {w w' : World} (h : MaxV w) (hb : Below w.heap.size w w') : MaxV w' := by
  obtain ⟨m, hm⟩ := h
  exact ⟨m, (hb.cell (p := ⟨1, 0, none⟩) (World.block_lt_of_cell? w _ hm)).trans hm⟩


end Go.Proofs.YtbpopmbabckojaaGreatDoor.Sp
end

/- field.value, Check, Line; the same by the reference. -/
section
namespace Go.Proofs.YtbpopmbabckojaaGreatDoor.Sp
open Go.RowKit Sl

theorem value_any (s : ByteArray) (hs : s.size ≤ 1000000) (w : World) :
    Calls Tryz.prog 92 #[.string s] w fun e w' => e = .returned (.bool (allS chr s.data.toList)) ∧ Below w.heap.size w w' := by
  cases h : allS chr s.data.toList
  · have hc := hide (fun w => quote_no s hs h w)
    clear h
    go_enter Tryz.func92, Tryz.ntmps92
    go_wp2_with (go_at_call 113; refine (unhide hc _).mono ?_; rintro e w1 ⟨rfl, hb1⟩; have HB := hide hb1; clear hb1)
    go_ret
    exact ⟨rfl, unhide HB⟩
  · have hc := hide (fun w => quote_ok s hs h w)
    clear h
    go_enter Tryz.func92, Tryz.ntmps92
    go_wp2_with (go_at_call 113; refine (unhide hc _).mono ?_; rintro e w1 ⟨rfl, hb1⟩; have HB := hide hb1; clear hb1)
    go_ret
    exact ⟨rfl, unhide HB⟩

/-- may it be a field? -/
def chkS (f : Fld) : Bool := (tokenS f.1.data.toList && allS chr f.2.data.toList) && ((ofL (trimW f.2.data.toList)).toList == f.2.toList)
def errI (ok : Bool) : Int := if ok = true then 0 else 4

set_option maxRecDepth 100000 in
set_option maxHeartbeats 2000000 in
theorem check_any (x y : ByteArray) (hx : x.size ≤ 1000000) (hy : y.size ≤ 1000000) (w : World) :
    Calls Tryz.prog 70 #[.agg #[.string x, .string y]] w fun e w' => e = .returned (.int .i64 (errI (chkS (x, y)))) ∧ Below w.heap.size w w' := by
  have h1 := fun w => token_any x (by omega) w
  have h2 := fun w => value_any y hy w
  have h3 := fun w => trim_any y (by omega) w
  have hc : chkS (x, y) = ((tokenS x.data.toList && allS chr y.data.toList) && ((ofL (trimW y.data.toList)).toList == y.toList)) := rfl
  rw [hc]
  obtain ⟨z, hz⟩ : ∃ z, ofL (trimW y.data.toList) = z := ⟨_, rfl⟩
  obtain ⟨a, ha⟩ : ∃ a, tokenS x.data.toList = a := ⟨_, rfl⟩
  obtain ⟨b, hb⟩ : ∃ b, allS chr y.data.toList = b := ⟨_, rfl⟩
  rw [ha] at h1 ⊢
  rw [hb] at h2 ⊢
  rw [hz] at h3 ⊢
  have H1 := hide h1
  have H2 := hide h2
  have H3 := hide h3
  clear h1 h2 h3 hc hz ha hb
  go_enter Tryz.func70, Tryz.ntmps70
  go_upto_region 1 with fail
  have HH := Reg.Has.new w [.string x, .string y] 55
  have HB := hide ((Below.refl w.heap.size w).alloc (Nat.le_refl _) (.cells #[.string x, .string y] 55))
  generalize w.alloc (.cells #[.string x, .string y] 55) = w1 at HH HB ⊢
  have p1 := HH.cell 0 _ rfl; have q1 := HH.cell 1 _ rfl; have u1 := HH.free 0 (by simp); have v1 := HH.free 1 (by simp); have z1 := HH.lt
  clear HH
  cases a <;> cases b
  all_goals
    refine Reg.region_more (by kernel_rfl) (by kernel_rfl) ?_
    repeat (go_big_quiet_step ((first | (go_at_call 89; exact Reg.Calls.more (unhide H1 _)) | (go_at_call 92; exact Reg.Calls.more (unhide H2 _)) | (go_at_call 93; exact Reg.Calls.more (unhide H3 _)))))
    refine wpQuiet_nil ?_
    intro w9 hb9; obtain ⟨hc9, hf9, hz9⟩ := bcell hb9; (try simp at hz9)
    have HB9 := hide ((unhide HB).trans (hb9.mono (unhide HB).size))
    clear hb9 hc9 hf9
  · go_wp2_with fail
    go_ret
    exact ⟨rfl, unhide HB9⟩
  · go_wp2_with fail
    go_ret
    exact ⟨rfl, unhide HB9⟩
  · go_wp2_with fail
    go_ret
    exact ⟨rfl, unhide HB9⟩
  · cases hzy : (z.toList == y.toList)
    · go_wp2_with fail
      go_ret
      exact ⟨by rw [hzy] <;> rfl, unhide HB9⟩
    · go_wp2_with fail
      go_ret
      exact ⟨by rw [hzy] <;> rfl, unhide HB9⟩
end Go.Proofs.YtbpopmbabckojaaGreatDoor.Sp
end

/- field.Line; the example that is asked first. -/
section
namespace Go.Proofs.YtbpopmbabckojaaGreatDoor.Sp
open Go.RowKit Sl

section
variable {ops : Array Oper} {rest : List Oper} {o : Oper} {a : Act} {w : World} {Q : Exit → Act → World → Prop}
theorem infoF : (Tryz.prog.info? 55).map (·.size) = some 2 := by kernel_rfl
theorem wpList_loadF (hgd : o.guard = none) (x : Operand) (ho : o.op = .load 55 x) (b : Nat) (hx : a.eval x = .pointer (some ⟨b, 0, none⟩)) (vs : List Value) (hl : vs.length = 2) (H : Reg.Has w b vs)
    (h : wpList Tryz.prog ops Q rest (a.put o.dst (.agg vs.toArray)) w) : wpList Tryz.prog ops Q (o :: rest) a w :=
  wpList_load_mid hgd 55 x ho b 0 hx vs _ (has_range H) Tryz.underlying55 rfl (by rw [infoF, hl]) h
theorem wpList_storeF (hgd : o.guard = none) (x y : Operand) (ho : o.op = .store 55 x y) (b : Nat) (hx : a.eval x = .pointer (some ⟨b, 0, none⟩)) (cells : Array Value) (hc : cells.size = 2) (hy : a.eval y = .agg cells) (old : List Value) (hl : old.length = 2) (H : Reg.Has w b old) (h1 : cells.all (·.oneCell') = true)
    (h : Reg.Has (w.setCells b 0 cells.toList) b cells.toList → wpList Tryz.prog ops Q rest (a.put o.dst undef) (w.setCells b 0 cells.toList)) : wpList Tryz.prog ops Q (o :: rest) a w := by
  have ht : w.there b 0 cells.size := by have := has_there H; rw [hl] at this; rw [hc]; exact this
  exact wpList_store_mid hgd 55 x y ho b 0 cells hx hy ht (by rw [infoF, hc]) h1 (h (has_setCells (by simp) ht H.lt (fun o w => size_setCells _ _ _ _)))
theorem run_loadF (b : Nat) (cells : Array Value) (hc : cells.size = 2) (H : Reg.Has w b cells.toList) : (loadVar 55 ⟨b, 0, none⟩).run Tryz.prog w = .ok (.agg cells) w :=
  run_loadVar_mid (P := Tryz.prog) w b 0 55 cells.toList _ (has_range H) Tryz.underlying55 rfl (by rw [infoF]; simp [hc])
end

def lineF (s : ByteArray) : Fld := (ofL (cutS 58 s.data.toList).1, ofL (trimW (cutS 58 s.data.toList).2.1))
def lineB (s : ByteArray) : Bool := (cutS 58 s.data.toList).2.2 && chkS (lineF s)
theorem lineF_size (s : ByteArray) : (lineF s).1.size ≤ s.size ∧ (lineF s).2.size ≤ s.size := by
  have h := cutS_len 58 s.data.toList
  have hs : s.data.toList.length = s.size := by simp
  have h2 := trim_len (cutS 58 s.data.toList).2.1
  unfold lineF
  refine ⟨?_, ?_⟩
  · show (ofL _).size ≤ _
    rw [size_list (l := (cutS 58 s.data.toList).1) rfl]; omega
  · show (ofL _).size ≤ _
    rw [size_list (l := trimW (cutS 58 s.data.toList).2.1) rfl]; omega

def fldOut (f : Fld) (ok : Bool) (e : Ending) : Prop := e = .returned (.tuple #[.agg #[.string (if ok = true then f.1 else ⟨#[]⟩), .string (if ok = true then f.2 else ⟨#[]⟩)], .int .i64 (errI ok)])

end Go.Proofs.YtbpopmbabckojaaGreatDoor.Sp
end

/- The reference's line: how bytes begin. -/
section
namespace Go.Proofs.YtbpopmbabckojaaGreatDoor.Sp
open Go.RowKit Sl

theorem byte_n (c : UInt8) (n : Nat) (hn : n < 256) : ((c.toNat : Int) == (n : Int)) = (c == UInt8.ofNat n) := by
  by_cases h : (c.toNat : Int) = n
  · rw [u8_eq h, beq_self_eq_true, beq_iff_eq]
    simp [Nat.mod_eq_of_lt hn]
  · rw [beq_eq_false_iff_ne.2 h, beq_eq_false_iff_ne.2 (u8_ne hn h)]

/-- how many bytes a line has with its end (0: none), the status -/
def lnG (most long : Nat) : Nat → Bool → List UInt8 → Nat × Nat
  | i, _, [] => if most ≤ i then (0, long) else (0, 0)
  | i, p, c :: t => if most ≤ i then (0, long) else if ((c == 10) && !p || p && !(c == 10)) = true then (0, 400) else if (c == 10) = true then (i + 1, 0) else lnG most long (i + 1) (c == 13) t
def lnS (most long : Nat) (b : List UInt8) : Nat × Nat := lnG most long 0 false b
/-- the line, its end aside -/
def lnT (most long : Nat) (b : List UInt8) : ByteArray := ofL (b.take ((lnS most long b).1 - 2))
def lnE (most long : Nat) (b : List UInt8) (e : Ending) : Prop := e = .returned (.tuple #[.string (lnT most long b), .int .i64 (lnS most long b).1, .int .i64 (lnS most long b).2])
theorem lnE_none {most long : Nat} {b : List UInt8} {e : Ending} {st : Nat} (h : lnS most long b = (0, st)) (he : e = .returned (.tuple #[.string ⟨#[]⟩, .int .i64 0, .int .i64 st])) : lnE most long b e := by
  unfold lnE lnT
  rw [h, he]
  rfl

set_option maxRecDepth 100000 in
set_option maxHeartbeats 2000000 in
theorem line5_any (s : ByteArray) (most long : Nat) (hs : s.size ≤ 1000000) (w : World) :
    Calls Tryz.prog 81 #[.string s, .int .i64 most, .int .i64 long] w fun e w' => lnE most long s.data.toList e ∧ w = w' := by
  go_enter Tryz.func81, Tryz.ntmps81
  go_wp2_with fail
  go_loop [9] (fun i => ∃ (k : Nat) (p : Bool), i = .int .i64 k ∧ k ≤ s.size ∧ lnS most long s.data.toList = lnG most long k p (s.data.toList.drop k) ∧ (k = 0 → p = false) ∧ (∀ h : 0 < k ∧ k ≤ s.size, p = (s[k - 1] == 13))) (fun i => s.size - (intOf i).toNat)
  case atStart => exact ⟨0, false, rfl, Nat.zero_le _, rfl, fun _ => rfl, fun h => absurd h.1 (Nat.lt_irrefl 0)⟩
  case round =>
    obtain ⟨k, p, rfl, hk, hl, hp0, hp1⟩ := hrel
    rcases Nat.lt_or_ge k s.size with hlt | hge
    · rw [drop_cons s k hlt, lnG] at hl
      by_cases hm : most ≤ k
      · rw [if_pos hm] at hl
        have HL := Lib.hid hl
        have g : decide ((most : Int) ≤ k) = true := decide_eq_true (by omega)
        have gk : decide ((k : Int) < s.size) = true := decide_eq_true (by omega)
        clear hl hp0 hp1
        go_wp2_with fail
        go_ret3
        exact ⟨lnE_none HL.out rfl, rfl⟩
      · rw [if_neg hm] at hl
        have g : decide ((most : Int) ≤ k) = false := decide_eq_false (by omega)
        have gk : decide ((k : Int) < s.size) = true := decide_eq_true (by omega)
        obtain ⟨c, hc⟩ : ∃ c, s[k] = c := ⟨_, rfl⟩
        rw [hc] at hl
        have hc10 : ((c.toNat : Int) == 10) = (c == 10) := byte_n c 10 (by decide)
        have HMM : ¬ most ≤ k := hm
        rcases Nat.eq_zero_or_pos k with h0 | hpos
        · subst h0
          obtain rfl := hp0 rfl
          clear hp0 hp1
          cases h10 : (c == 10)
          · rw [h10] at hc10 hl
            have hn10 : ((c.toNat : Int) != 10) = true := by rw [bne, hc10]; rfl
            rw [if_neg (by decide), if_neg (by decide)] at hl
            have HL := Lib.hid hl
            have HC := Lib.hid hc
            have HH := Lib.hid h10
            clear hl h10
            go_wp2_with fail
            go_round
            case rel => exact ⟨1, c == 13, rfl, by omega, HL.out, fun h => by omega, fun h => (by show (c == 13) = (s[0] == 13); rw [HC.out])⟩
            case measure => simp [intOf]; omega
          · rw [h10] at hc10 hl
            rw [if_pos (by decide)] at hl
            have HL := Lib.hid hl
            clear hl h10
            go_wp2_with fail
            go_ret3
            exact ⟨lnE_none HL.out rfl, rfl⟩
        · obtain ⟨j, rfl⟩ : ∃ j, k = j + 1 := ⟨k - 1, by omega⟩
          have hp := hp1 ⟨hpos, hk⟩
          clear hp0 hp1
          obtain ⟨q, hq⟩ : ∃ q, s[j] = q := ⟨_, rfl⟩
          have hp' : p = (q == 13) := by rw [hp, ← hq]; rfl
          have hq13 : ((q.toNat : Int) == 13) = (q == 13) := byte_n q 13 (by decide)
          rw [← hp'] at hq13
          have hjl : j < s.size := by omega
          have hj0 : ((j : Int) + 1 == 0) = false := by rw [beq_eq_false_iff_ne]; omega
          have hj1 : decide ((0 : Int) < (j : Int) + 1) = true := decide_eq_true (by omega)
          have HC := Lib.hid hc
          have HP := Lib.hid hp'
          clear hp hp' hpos
          cases h10 : (c == 10)
          · rw [h10] at hc10 hl
            have hn10 : ((c.toNat : Int) != 10) = true := by rw [bne, hc10]; rfl
            cases p
            · have hn13 : ((q.toNat : Int) != 13) = true := by rw [bne, hq13]; rfl
              rw [if_neg (by decide), if_neg (by decide)] at hl
              have HL := Lib.hid hl
              clear hl h10
              go_wp2_with fail
              go_round
              case rel => exact ⟨j + 1 + 1, c == 13, by go_num, by omega, HL.out, fun h => by omega, fun h => (by show (c == 13) = (s[j + 1] == 13); rw [HC.out])⟩
              case measure => simp [intOf]; omega
            · have hn13 : ((q.toNat : Int) != 13) = false := by rw [bne, hq13]; rfl
              rw [if_pos (by decide)] at hl
              have HL := Lib.hid hl
              clear hl h10
              go_wp2_with fail
              go_ret3
              exact ⟨lnE_none HL.out rfl, rfl⟩
          · rw [h10] at hc10 hl
            have hn10 : ((c.toNat : Int) != 10) = false := by rw [bne, hc10]; rfl
            cases p
            · have hn13 : ((q.toNat : Int) != 13) = true := by rw [bne, hq13]; rfl
              rw [if_pos (by decide)] at hl
              have HL := Lib.hid hl
              clear hl h10
              go_wp2_with fail
              go_ret3
              exact ⟨lnE_none HL.out rfl, rfl⟩
            · have hn13 : ((q.toNat : Int) != 13) = false := by rw [bne, hq13]; rfl
              rw [if_neg (by decide), if_pos (by decide)] at hl
              have HL := Lib.hid hl
              clear hl h10
              go_wp2_with fail
              go_ret3
              refine ⟨?_, rfl⟩
              unfold lnE lnT
              rw [HL.out]
              have hx : (s.extract 0 j).data.toList = s.data.toList.take j := by rw [Lib.extract_data]; rfl
              have e : ofL (s.data.toList.take (j + 1 + 1 - 2)) = s.extract 0 j := by
                rw [show j + 1 + 1 - 2 = j by omega, ← hx]
                generalize s.extract 0 j = y
                cases y
                simp [ofL]
              rw [show ((j + 1 + 1, 0) : Nat × Nat).1 - 2 = j + 1 + 1 - 2 from rfl, e]
              rfl
    · obtain rfl : k = s.size := by omega
      rw [List.drop_of_length_le (by simp), lnG] at hl
      have gk : decide ((s.size : Int) < s.size) = false := decide_eq_false (by omega)
      by_cases hm : most ≤ s.size
      · rw [if_pos hm] at hl
        have HL := Lib.hid hl
        have g : decide ((most : Int) ≤ s.size) = true := decide_eq_true (by omega)
        clear hl hp0 hp1
        go_wp2_with fail
        go_ret3
        exact ⟨lnE_none HL.out rfl, rfl⟩
      · rw [if_neg hm] at hl
        have HL := Lib.hid hl
        have g : decide ((most : Int) ≤ s.size) = false := decide_eq_false (by omega)
        clear hl hp0 hp1
        go_wp2_with fail
        go_ret3
        exact ⟨lnE_none HL.out rfl, rfl⟩
end Go.Proofs.YtbpopmbabckojaaGreatDoor.Sp
end

/- Small words of package start: digits, hosts' bytes. -/
section
namespace Go.Proofs.YtbpopmbabckojaaGreatDoor.Sp
open Go.RowKit


def digI (c : Int) : Bool := decide (48 ≤ c ∧ c ≤ 57)
def addrI (c : Int) : Bool := decide ((48 ≤ c ∧ c ≤ 57) ∨ (97 ≤ c ∧ c ≤ 102) ∨ (65 ≤ c ∧ c ≤ 70) ∨ c = 58 ∨ c = 46)
def hostSigns : List UInt8 := [45, 46, 95, 126, 33, 36, 38, 39, 40, 41, 42, 43, 44, 59, 61, 37]
def hostX (c : Int) : Int := Lib.indexByte hostSigns c.toNat.toUInt8
def hostI (c : Int) : Bool := decide ((48 ≤ c ∧ c ≤ 57) ∨ (97 ≤ c ∧ c ≤ 122) ∨ (65 ≤ c ∧ c ≤ 90) ∨ 0 ≤ hostX c)
theorem digI_t {c : Int} (h : digI c = true) : 48 ≤ c ∧ c ≤ 57 := of_decide_eq_true h
theorem digI_f {c : Int} (h : digI c = false) : ¬ (48 ≤ c ∧ c ≤ 57) := of_decide_eq_false h



theorem hostx_any (c : Int) (w : World) : Calls Tryz.prog 147 #[.string ⟨#[45, 46, 95, 126, 33, 36, 38, 39, 40, 41, 42, 43, 44, 59, 61, 37]⟩, .int .u8 c] w fun e w' => e = .returned (.int .i64 (hostX c)) ∧ w = w' := by
  refine (Tryz.strings_IndexByte _ _ _).mono ?_
  rintro e w' ⟨rfl, rfl⟩
  exact ⟨rfl, rfl⟩


end Go.Proofs.YtbpopmbabckojaaGreatDoor.Sp
end

/- start.run; Lower of the program and of the reference; Same. -/
section
namespace Go.Proofs.YtbpopmbabckojaaGreatDoor.Sp
open Go.RowKit

def byteP (p : Int → Bool) (c : UInt8) : Bool := p c.toNat
def runN (p : Int → Bool) (l : List UInt8) : Nat := (l.takeWhile (byteP p)).length

theorem run_yes {p : Int → Bool} {l : List UInt8} {c : UInt8} {t : List UInt8} (h : l = c :: t) (hp : p c.toNat = true) : runN p l = 1 + runN p t := by
  subst h; unfold runN; rw [List.takeWhile_cons_of_pos (by exact hp)]; simp; omega
theorem run_no {p : Int → Bool} {l : List UInt8} {c : UInt8} {t : List UInt8} (h : l = c :: t) (hp : p c.toNat = false) : runN p l = 0 := by
  subst h; unfold runN; rw [List.takeWhile_cons_of_neg (by unfold byteP; rw [hp]; decide)]; rfl
theorem run_end (p : Int → Bool) (s : ByteArray) (k : Nat) (h : s.size ≤ k) : runN p (s.data.toList.drop k) = 0 := by
  rw [List.drop_eq_nil_of_le (by simpa using h)]; rfl

end Go.Proofs.YtbpopmbabckojaaGreatDoor.Sp
end
