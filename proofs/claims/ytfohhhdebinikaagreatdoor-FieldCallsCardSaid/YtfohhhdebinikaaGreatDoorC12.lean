/- kit.Same, kit.LightFields, one. -/
import Derived.Test.YtfohhhdebinikaaGreatDoorC10
import Derived.Laws.StructEq
namespace Go.Proofs.YtfohhhdebinikaaGreatDoor.Sp
open Go.RowKit Sl

set_option maxRecDepth 100000 in
set_option maxHeartbeats 2000000 in
theorem lightF_any (v : Value) (L : List Fld) (most bytes : Nat) (hL : L.length ≤ 9223372036854775807) (hb1 : most ≤ 1000) (hb2 : bytes ≤ 1000) (hf : ∀ f ∈ L, f.1.size ≤ 1000000000000000 ∧ f.2.size ≤ 1000000000000000) (w : World) (hv : Rd w v L.length 2 (fldV L)) :
    Calls Tryz.prog 38 #[v, .int .i64 most, .int .i64 bytes] w fun e w' => ∃ r, e = .returned (.bool r) ∧ (r = true → L.length ≤ most ∧ ∀ f ∈ L, f.1.size + f.2.size ≤ bytes) ∧ Below w.heap.size w w' := by
  obtain ⟨ao, cap, rfl⟩ := hv.form
  have HV := hide hv
  have HF := hide hf
  clear hv hf
  rcases Nat.lt_or_ge most L.length with hm | hm
  · go_enter Tryz.func38, Tryz.ntmps38
    go_wp2_with fail
    go_ret
    exact ⟨_, rfl, (by simp), Below.refl _ _⟩
  · go_enter Tryz.func38, Tryz.ntmps38
    go_wp2_with fail
    go_loopw [7, 8] (fun n i wr => ∃ k s : Nat, i = .int .i64 k ∧ n = .int .i64 s ∧ k ≤ L.length ∧ s ≤ bytes ∧ (∀ f ∈ L.take k, f.1.size + f.2.size ≤ bytes) ∧ Below w.heap.size w wr) (fun _ i _ => L.length - (intOf i).toNat)
    case atStart => exact ⟨0, 0, rfl, rfl, Nat.zero_le _, Nat.zero_le _, by simp, Below.refl _ _⟩
    case round =>
      obtain ⟨k, s, rfl, rfl, hk, hs, hall, hbel⟩ := hrel
      have HA := hide hall
      have HB := hide hbel
      rcases Nat.lt_or_ge k L.length with hlt | hge
      · obtain ⟨b, off, rfl, hb, c1, c2⟩ := fld_cells (unhide HV) rfl k hlt
        have d1 := (hbel.cell (p := ⟨b, off + k * 2, none⟩) hb).trans c1
        have d2 := (hbel.cell (p := ⟨b, off + k * 2 + 1, none⟩) hb).trans c2
        have z1 := ((unhide HF) L[k] (List.getElem_mem _)).1
        have z2 := ((unhide HF) L[k] (List.getElem_mem _)).2
        have HT := hide (List.take_succ_eq_append_getElem hlt)
        clear c1 c2 hall hbel
        have hbw : b < wr.heap.size := Nat.lt_of_lt_of_le hb (unhide HB).size
        go_wp2_with fail
        refine Reg.region_more (by kernel_rfl) (by kernel_rfl) ?_
        repeat (go_big_quiet_step (fail))
        refine wpQuiet_nil ?_
        intro w9 hb9; obtain ⟨hc9, hf9, hz9⟩ := bcell hb9; (try simp at hz9)
        have HB9 := hide ((unhide HB).trans (hb9.mono (unhide HB).size))
        clear hb9 hc9 hf9
        rcases Nat.lt_or_ge bytes (s + L[k].1.size + L[k].2.size) with hq | hq
        · go_wp2_with fail
          go_ret
          exact ⟨_, rfl, (by simp), unhide HB9⟩
        · go_wp2_with fail
          go_roundw
          case rel =>
            refine ⟨k + 1, s + L[k].1.size + L[k].2.size, by go_num, by go_num, by omega, by omega, fun f hf => ?_, unhide HB9⟩
            rw [unhide HT, List.mem_append] at hf
            rcases hf with hf | hf
            · exact unhide HA f hf
            · rw [List.mem_singleton] at hf; subst hf; omega
          case measure => simp [intOf]; omega
      · have hT : L.take k = L := List.take_of_length_le hge
        have HT := Lib.hid hT
        clear hT hall hbel
        go_wp2_with fail
        go_ret
        refine ⟨_, rfl, fun _ => ⟨hm, ?_⟩, unhide HB⟩
        have := unhide HA
        rw [HT.out] at this
        exact this

def sameLS (A B : List ByteArray) : Bool := decide (A = B)
theorem take_ne {α : Type} {A B : List α} {k : Nat} (hA : k < A.length) (hB : k < B.length) (h : A[k] ≠ B[k]) : A ≠ B := by
  intro e; subst e; exact h rfl

set_option maxRecDepth 100000 in
set_option maxHeartbeats 2000000 in
theorem ksameS_any (u v : Value) (A B : List ByteArray) (hA : A.length ≤ 100000000) (hB : B.length ≤ 100000000) (w : World) (hu : Rd w u A.length 1 (strV A)) (hv : Rd w v B.length 1 (strV B)) :
    Calls Tryz.prog 20 #[u, v] w fun e w' => e = .returned (.bool (sameLS A B)) ∧ Below w.heap.size w w' := by
  obtain ⟨ao, cap, rfl⟩ := hu.form
  obtain ⟨bo, caq, rfl⟩ := hv.form
  have HU := hide hu
  have HV := hide hv
  clear hu hv
  by_cases hl : A.length = B.length
  · have HL := Lib.hid hl
    clear hl
    have hlen : (((A.length : Nat) : Int) != ((B.length : Nat) : Int)) = false := by rw [HL.out]; simp
    go_enter Tryz.func20, Tryz.ntmps20
    go_wp2_with fail
    go_loopw [5] (fun i wr => ∃ k : Nat, i = .int .i64 k ∧ k ≤ A.length ∧ A.take k = B.take k ∧ Below w.heap.size w wr) (fun i _ => A.length - (intOf i).toNat)
    case atStart => exact ⟨0, rfl, Nat.zero_le _, by simp, Below.refl _ _⟩
    case round =>
      obtain ⟨k, rfl, hk, hall, hbel⟩ := hrel
      have HA := Lib.hid hall
      have HB := hide hbel
      clear hall
      rcases Nat.lt_or_ge k A.length with hlt | hge
      · have hlt2 : k < B.length := by rw [← HL.out]; exact hlt
        obtain ⟨b, off, rfl, hb, c1⟩ := str_cell (unhide HU) k hlt
        obtain ⟨b2, off2, rfl, hb2, c2⟩ := str_cell (unhide HV) k hlt2
        have d1 := (hbel.cell (p := ⟨b, off + k, none⟩) hb).trans c1
        have d2 := (hbel.cell (p := ⟨b2, off2 + k, none⟩) hb2).trans c2
        have hbw : b < wr.heap.size := Nat.lt_of_lt_of_le hb hbel.size
        have hbw2 : b2 < wr.heap.size := Nat.lt_of_lt_of_le hb2 hbel.size
        clear c1 c2 hbel
        obtain ⟨x, hx⟩ : ∃ x, A[k] = x := ⟨_, rfl⟩
        obtain ⟨y, hy⟩ : ∃ y, B[k] = y := ⟨_, rfl⟩
        rw [hx] at d1
        rw [hy] at d2
        have HX := Lib.hid hx
        have HY := Lib.hid hy
        clear hx hy
        go_wp2_with fail
        refine Reg.region_more (by kernel_rfl) (by kernel_rfl) ?_
        repeat (go_big_quiet_step (fail))
        refine wpQuiet_nil ?_
        intro w9 hb9; obtain ⟨hc9, hf9, hz9⟩ := bcell hb9; (try simp at hz9)
        have HB9 := hide ((unhide HB).trans (hb9.mono (unhide HB).size))
        clear hb9 hc9 hf9
        cases hxy : (x.toList == y.toList)
        · have hT : sameLS A B = false := by
            unfold sameLS
            rw [decide_eq_false_iff_not]
            refine take_ne hlt hlt2 ?_
            rw [HX.out, HY.out]
            intro e
            subst e
            simp at hxy
          have HT := Lib.hid hT
          clear hT
          go_wp2_with fail
          go_ret
          exact ⟨by rw [HT.out] <;> rfl, unhide HB9⟩
        · have hT : A.take (k + 1) = B.take (k + 1) := by
            have e : x = y := by
              have := eq_of_beq hxy
              rw [Lib.toList_data, Lib.toList_data] at this
              rw [← ofL_of x, ← ofL_of y, this]
            rw [List.take_succ_eq_append_getElem hlt, List.take_succ_eq_append_getElem hlt2, HA.out, HX.out, HY.out, e]
          have HT := Lib.hid hT
          clear hT
          go_wp2_with fail
          go_roundw
          case rel => exact ⟨k + 1, by go_num, by omega, HT.out, unhide HB9⟩
          case measure => simp [intOf]; omega
      · have hT : sameLS A B = true := by
          unfold sameLS
          have := HA.out
          rw [List.take_of_length_le hge, List.take_of_length_le (by rw [← HL.out]; exact hge)] at this
          simp [this]
        have HT := Lib.hid hT
        clear hT hbel
        go_wp2_with fail
        go_ret
        exact ⟨by rw [HT.out] <;> rfl, unhide HB⟩
  · have hT : sameLS A B = false := by unfold sameLS; rw [decide_eq_false_iff_not]; intro e; exact hl (by rw [e])
    have HT := Lib.hid hT
    clear hT
    have hlen : (((A.length : Nat) : Int) != ((B.length : Nat) : Int)) = true := by rw [bne_iff_ne]; omega
    go_enter Tryz.func20, Tryz.ntmps20
    go_wp2_with fail
    go_ret
    exact ⟨by rw [HT.out] <;> rfl, Below.refl _ _⟩

theorem eqFld (a b c d : ByteArray) (w : World) : (Op.equalIn 10000 30 (.agg #[.string a, .string b]) (.agg #[.string c, .string d])).run Tryz.prog w = .ok (a.toList == c.toList && b.toList == d.toList) w := by
  have u9 := Tryz.underlying9
  have a9 := Tryz.isAgg9
  have z9 := Tryz.sizeOf9
  have hS : Tryz.prog.underlying 30 = some (.struct (Tryz.prog.fieldsOf 30)) := by kernel_rfl
  have hp : Tryz.prog.stoodInHeld 30 = false := by kernel_rfl
  rw [show (10000 : Nat) = 9999 + 1 from rfl, run_equalIn_agg w 9999 30 _ _ hS hp]
  simp only [Program.fieldsOf, Tryz.underlying30]
  go_simp
  by_cases h1 : a.toList = c.toList <;> by_cases h2 : b.toList = d.toList <;> simp [h1, h2]
theorem neqFld (a b c d : ByteArray) (w : World) : (binOp .neq 30 (.agg #[.string a, .string b]) (.agg #[.string c, .string d])).run Tryz.prog w = .ok (.bool (!(a.toList == c.toList && b.toList == d.toList))) w := by
  rw [run_neq_struct, eqFld]; rfl
theorem eqlFld (a b c d : ByteArray) (w : World) : (binOp .eql 30 (.agg #[.string a, .string b]) (.agg #[.string c, .string d])).run Tryz.prog w = .ok (.bool (a.toList == c.toList && b.toList == d.toList)) w := by
  rw [run_eql_struct, eqFld]; rfl
theorem guardFld (op : BinOp) (x y : Operand) (xs ys : Array Value) (w : World) : (eqGuard op 30 x y (.agg xs) (.agg ys)).run Tryz.prog w = .ok () w := run_eqGuard_agg w op 30 x y xs ys (by kernel_rfl)

def sameLF (A B : List Fld) : Bool := decide (A = B)
set_option maxRecDepth 100000 in
set_option maxHeartbeats 2000000 in
theorem ksameF_any (u v : Value) (A B : List Fld) (hA : A.length ≤ 100000000) (hB : B.length ≤ 100000000) (w : World) (hu : Rd w u A.length 2 (fldV A)) (hv : Rd w v B.length 2 (fldV B)) :
    Calls Tryz.prog 33 #[u, v] w fun e w' => e = .returned (.bool (sameLF A B)) ∧ Below w.heap.size w w' := by
  obtain ⟨ao, cap, rfl⟩ := hu.form
  obtain ⟨bo, caq, rfl⟩ := hv.form
  have HU := hide hu
  have HV := hide hv
  clear hu hv
  by_cases hl : A.length = B.length
  · have HL := Lib.hid hl
    clear hl
    have hlen : (((A.length : Nat) : Int) != ((B.length : Nat) : Int)) = false := by rw [HL.out]; simp
    go_enter Tryz.func33, Tryz.ntmps33
    go_wp2_with fail
    go_loopw [5] (fun i wr => ∃ k : Nat, i = .int .i64 k ∧ k ≤ A.length ∧ A.take k = B.take k ∧ Below w.heap.size w wr) (fun i _ => A.length - (intOf i).toNat)
    case atStart => exact ⟨0, rfl, Nat.zero_le _, by simp, Below.refl _ _⟩
    case round =>
      obtain ⟨k, rfl, hk, hall, hbel⟩ := hrel
      have HA := Lib.hid hall
      have HB := hide hbel
      clear hall
      rcases Nat.lt_or_ge k A.length with hlt | hge
      · have hlt2 : k < B.length := by rw [← HL.out]; exact hlt
        obtain ⟨b, off, rfl, hb, c1, c1'⟩ := fld_cells (unhide HU) rfl k hlt
        obtain ⟨b2, off2, rfl, hb2, c2, c2'⟩ := fld_cells (unhide HV) rfl k hlt2
        have d1 := (hbel.cell (p := ⟨b, off + k * 2, none⟩) hb).trans c1
        have d2 := (hbel.cell (p := ⟨b2, off2 + k * 2, none⟩) hb2).trans c2
        have d3 := (hbel.cell (p := ⟨b, off + k * 2 + 1, none⟩) hb).trans c1'
        have d4 := (hbel.cell (p := ⟨b2, off2 + k * 2 + 1, none⟩) hb2).trans c2'
        have hbw : b < wr.heap.size := Nat.lt_of_lt_of_le hb hbel.size
        have hbw2 : b2 < wr.heap.size := Nat.lt_of_lt_of_le hb2 hbel.size
        clear c1 c2 c1' c2' hbel
        obtain ⟨⟨x, x'⟩, hx⟩ : ∃ x, A[k] = x := ⟨_, rfl⟩
        obtain ⟨⟨y, y'⟩, hy⟩ : ∃ y, B[k] = y := ⟨_, rfl⟩
        rw [hx] at d1 d3
        rw [hy] at d2 d4
        have HX := Lib.hid hx
        have HY := Lib.hid hy
        clear hx hy
        obtain ⟨r, hr⟩ : ∃ r, (!(x.toList == y.toList && x'.toList == y'.toList)) = r := ⟨_, rfl⟩
        have hne := fun w => neqFld x x' y y' w
        rw [hr] at hne
        have HR := Lib.hid hr
        clear hr
        have hgu := fun x y xs ys w => guardFld .neq x y xs ys w
        go_wp2_with fail
        refine Reg.region_more (by kernel_rfl) (by kernel_rfl) ?_
        repeat (go_big_quiet_step (fail))
        refine wpQuiet_nil ?_
        intro w9 hb9; obtain ⟨hc9, hf9, hz9⟩ := bcell hb9; (try simp at hz9)
        have HB9 := hide ((unhide HB).trans (hb9.mono (unhide HB).size))
        clear hb9 hc9 hf9
        cases r
        rotate_left
        · have hxy := HR.out
          have hT : sameLF A B = false := by
            unfold sameLF
            rw [decide_eq_false_iff_not]
            refine take_ne hlt hlt2 ?_
            rw [HX.out, HY.out]
            intro e
            cases e
            simp at hxy
          have HT := Lib.hid hT
          clear hT hxy
          go_wp2_with fail
          go_ret
          exact ⟨by rw [HT.out] <;> rfl, unhide HB9⟩
        · have hT : A.take (k + 1) = B.take (k + 1) := by
            have hxy := HR.out
            rw [Bool.not_eq_false', Bool.and_eq_true] at hxy
            have e : x = y := by
              have := eq_of_beq hxy.1
              rw [Lib.toList_data, Lib.toList_data] at this
              rw [← ofL_of x, ← ofL_of y, this]
            have e' : x' = y' := by
              have := eq_of_beq hxy.2
              rw [Lib.toList_data, Lib.toList_data] at this
              rw [← ofL_of x', ← ofL_of y', this]
            rw [List.take_succ_eq_append_getElem hlt, List.take_succ_eq_append_getElem hlt2, HA.out, HX.out, HY.out, e, e']
          have HT := Lib.hid hT
          clear hT
          go_wp2_with fail
          go_roundw
          case rel => exact ⟨k + 1, by go_num, by omega, HT.out, unhide HB9⟩
          case measure => simp [intOf]; omega
      · have hT : sameLF A B = true := by
          unfold sameLF
          have := HA.out
          rw [List.take_of_length_le hge, List.take_of_length_le (by rw [← HL.out]; exact hge)] at this
          simp [this]
        have HT := Lib.hid hT
        clear hT hbel
        go_wp2_with fail
        go_ret
        exact ⟨by rw [HT.out] <;> rfl, unhide HB⟩
  · have hT : sameLF A B = false := by unfold sameLF; rw [decide_eq_false_iff_not]; intro e; exact hl (by rw [e])
    have HT := Lib.hid hT
    clear hT
    have hlen : (((A.length : Nat) : Int) != ((B.length : Nat) : Int)) = true := by rw [bne_iff_ne]; omega
    go_enter Tryz.func33, Tryz.ntmps33
    go_wp2_with fail
    go_ret
    exact ⟨by rw [HT.out] <;> rfl, Below.refl _ _⟩
end Go.Proofs.YtfohhhdebinikaaGreatDoor.Sp
