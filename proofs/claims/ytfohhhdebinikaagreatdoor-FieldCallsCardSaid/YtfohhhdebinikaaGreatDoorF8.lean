/- field.Bytes. -/
import Derived.Test.YtfohhhdebinikaaGreatDoorF5
import Derived.Lib.AppendIntMem
namespace Go.Proofs.YtfohhhdebinikaaGreatDoor.Sp
open Go.RowKit Sl

def line1 (f : Fld) : ByteArray := f.1 ++ ⟨#[58, 32]⟩ ++ f.2 ++ ⟨#[13, 10]⟩
def linesL (L : List Fld) : List UInt8 := L.flatMap fun f => (line1 f).data.toList
theorem line1_data (f : Fld) : (line1 f).data.toList = f.1.data.toList ++ [58, 32] ++ f.2.data.toList ++ [13, 10] := by
  unfold line1
  rw [app_data, app_data, app_data]
theorem line1_size (f : Fld) : (line1 f).size = f.1.size + f.2.size + 4 := by
  rw [size_list (line1_data f)]
  simp; omega
theorem linesL_len (c : Nat) : ∀ L : List Fld, (∀ f ∈ L, f.1.size + f.2.size + 4 ≤ c) → (linesL L).length ≤ L.length * c
  | [], _ => by simp [linesL]
  | f :: t, h => by
    have ih := linesL_len c t (fun g hg => h g (List.mem_cons_of_mem _ hg))
    have h0 := h f List.mem_cons_self
    have h1 := line1_size f
    unfold linesL at ih ⊢
    rw [List.flatMap_cons, List.length_append, List.length_cons, Nat.add_mul]
    have h2 : (line1 f).data.toList.length = (line1 f).size := by simp
    omega
theorem linesL_app (A B : List Fld) : linesL (A ++ B) = linesL A ++ linesL B := by simp [linesL]
theorem linesL_take (L : List Fld) (k : Nat) (h : k < L.length) : linesL (L.take (k + 1)) = linesL (L.take k) ++ (line1 L[k]).data.toList := by
  rw [List.take_succ_eq_append_getElem h, linesL_app]
  show _ ++ List.flatMap _ [L[k]] = _
  rw [List.flatMap_cons, List.flatMap_nil, List.append_nil]

theorem isB_call {T e : TypeId} {B b : Nat} {xs : List Value} {w w' : World} (h : Lib.IsBuilder T e B b xs w) (hb : Below w.heap.size w w') : Lib.IsBuilder T e B b xs w' := by
  have one : ∀ p, Lib.BuilderAt T e B b p xs w → Lib.BuilderAt T e B b p xs w' := by
    rintro p ⟨hB, v, hbk, hown, hne⟩
    have hlt : b < w.heap.size := Lib.BuilderAt.lt ⟨hB, v, hbk, hown, hne⟩
    refine ⟨hB, v, (hb.block b hlt).trans hbk, ?_, hne⟩
    exact hown.kept (row := none) ⟨hb.os, hb.tape, hb.output, hb.size, fun k hk _ => hb.block k hk⟩ (by
      cases hv : v.ownBlock with
      | none => exact .inl rfl
      | some g => exact .inr (by simp))
  rcases h with h | h
  · exact .inl (one _ h)
  · exact .inr (one _ h)

theorem write_any (B b : Nat) (l : List UInt8) (s : ByteArray) (w : World) (h : Lib.IsBuilder 56 5 B b (Lib.byteCells l) w) (hlen : l.length + s.size ≤ 140737488355328) (hBw : B ≤ w.heap.size) :
    Calls Tryz.prog 39 #[.pointer (some ⟨b, 0, none⟩), .string s] w fun e w' => e = .returned (.tuple #[.int .i64 s.size, .nilIface]) ∧ Lib.IsBuilder 56 5 B b (Lib.byteCells (l ++ s.data.toList)) w' ∧ Below B w w' := by
  have hl : (Lib.byteCells l).length = l.length := by simp [Lib.byteCells]
  refine (Any.Builder_WriteString { Tryz.lays156 with } Tryz.Builder_Extra_156 B b (Lib.byteCells l) s w h (by rw [hl]; exact hlen) hBw).mono ?_
  rintro e w' ⟨rfl, h1, h2⟩
  refine ⟨rfl, .inr ?_, h2⟩
  have : Lib.byteCells (l ++ s.data.toList) = Lib.byteCells l ++ Lib.strCells s := by simp [Lib.byteCells, Lib.strCells]
  rw [this]
  exact h1

def BytesO (L : List Fld) (e : Ending) : Prop := e = .returned (.tuple #[.string (if L.all chkS = true then ofL (linesL L) else ⟨#[]⟩), .int .i64 (errI (L.all chkS))])
theorem allC_take (L : List Fld) (k : Nat) (h : k < L.length) : (L.take (k + 1)).all chkS = ((L.take k).all chkS && chkS L[k]) := by
  rw [List.take_succ_eq_append_getElem h, List.all_append]; simp
theorem allC_no (L : List Fld) (k : Nat) (h : k < L.length) (hn : chkS L[k] = false) : L.all chkS = false := by
  cases hh : L.all chkS
  · rfl
  · rw [List.all_eq_true] at hh
    rw [hh _ (List.getElem_mem h)] at hn
    exact hn

set_option maxRecDepth 100000 in
set_option maxHeartbeats 2000000 in
theorem bytes_any (v : Value) (L : List Fld) (hL : L.length ≤ 1000000) (hf : ∀ f ∈ L, f.1.size ≤ 100000 ∧ f.2.size ≤ 100000) (w : World) (hv : Rd w v L.length 2 (fldV L)) :
    Calls Tryz.prog 11 #[v] w fun e w' => BytesO L e ∧ Below w.heap.size w w' := by
  obtain ⟨ao, cap, rfl⟩ := hv.form
  have HV := hide hv
  have HF := hide hf
  clear hv hf
  go_enter Tryz.func11, Tryz.ntmps11
  go_upto_region 2 with fail
  have HI := hide (Lib.fresh_isBuilder 56 5 w)
  have HB := hide ((Below.refl w.heap.size w).alloc (Nat.le_refl _) (.cells #[.pointer none, .slice none 0 0] 56))
  generalize w.alloc (.cells #[.pointer none, .slice none 0 0] 56) = w0 at HI HB ⊢
  go_wp2_with fail
  go_loopw [10] (fun i wr => ∃ k : Nat, i = .int .i64 k ∧ k ≤ L.length ∧ (L.take k).all chkS = true ∧ Lib.IsBuilder 56 5 w.heap.size w.heap.size (Lib.byteCells (linesL (L.take k))) wr ∧ Below w.heap.size w wr) (fun i _ => L.length - (intOf i).toNat)
  case atStart => exact ⟨0, rfl, Nat.zero_le _, by simp, by rw [List.take_zero]; exact unhide HI, unhide HB⟩
  case round =>
    clear HI HB
    obtain ⟨k, rfl, hk, hall, hi, hb⟩ := hrel
    have HA := Lib.hid hall
    have HI := hide hi
    have HB := hide hb
    clear hall hi
    rcases Nat.lt_or_ge k L.length with hlt | hge
    · obtain ⟨b, off, rfl, hbk, d1, d2⟩ := fld_cells ((unhide HV).below hb) rfl k hlt
      have hz := (unhide HF) L[k] (List.getElem_mem _)
      have hnl := linesL_len 200004 (L.take k) (fun f hf => by have := (unhide HF) f (List.mem_of_mem_take hf); omega)
      rw [List.length_take, Nat.min_eq_left hk] at hnl
      have HS := Lib.hid (linesL_take L k hlt)
      have HT := Lib.hid (allC_take L k hlt)
      have hno := allC_no L k hlt
      have h1s := line1_size L[k]
      have hsz := hb.size
      obtain ⟨⟨x, y⟩, hx⟩ : ∃ x, L[k] = x := ⟨_, rfl⟩
      rw [hx] at d1 d2 hz hno h1s HS HT
      obtain ⟨l, hl⟩ : ∃ l, linesL (L.take k) = l := ⟨_, rfl⟩
      rw [hl] at HI HS hnl
      have hzx : x.size ≤ 1000000 := Nat.le_trans hz.1 (by decide)
      have hzy : y.size ≤ 1000000 := Nat.le_trans hz.2 (by decide)
      have hc := fun w => check_any x y hzx hzy w
      have HZ := hide (show l.length + (line1 (x, y)).size ≤ 140737488355328 by simp only at hz h1s; omega)
      clear hx hl hz h1s hnl hb
      obtain ⟨ok, hok⟩ : ∃ ok, chkS (x, y) = ok := ⟨_, rfl⟩
      rw [hok] at hc hno HT
      have HC := hide hc
      have HNO := hide hno
      clear hc hno hok
      unfold errI at HC
      cases ok
      · simp only [Bool.false_eq_true, if_false] at HC
        have HN := Lib.hid ((unhide HNO) rfl)
        go_wp2_with (go_at_call 12; refine (unhide HC _).mono ?_; rintro e w2 ⟨rfl, hb2⟩; have HB2 := hide (((unhide HB).alloc hsz (.cells #[.string x, .string y] 30)).trans (hb2.mono (by simp; omega))); clear hb2)
        go_ret2
        unfold BytesO
        rw [HN.out]
        exact ⟨rfl, unhide HB2⟩
      · simp only [if_true] at HC
        go_wp2_with (first
          | (go_at_call 12; refine (unhide HC _).mono ?_; rintro e w2 ⟨rfl, hb2⟩; have d3 := cell_call hb2 (a := ⟨wr.heap.size, 0, none⟩) (v := .string x) (by simp); have d4 := cell_call hb2 (a := ⟨wr.heap.size, 1, none⟩) (v := .string y) (by simp); have HI2 := hide (isB_call (isB_call (unhide HI) ((Below.refl wr.heap.size wr).alloc (Nat.le_refl _) (.cells #[.string x, .string y] 30))) hb2); have HB2 := hide (((unhide HB).alloc hsz (.cells #[.string x, .string y] 30)).trans (hb2.mono (by simp; omega))); clear hb2)
          | (go_at_call 39; refine (write_any w.heap.size w.heap.size l (line1 (x, y)) _ (unhide HI2) (unhide HZ) (unhide HB2).size).mono ?_; rintro e w3 ⟨rfl, hi3, hb3⟩; have HI3 := hide hi3; have HB3 := hide ((unhide HB2).trans hb3); clear hi3 hb3))
        go_roundw
        case rel => exact ⟨k + 1, by go_num, by omega, by rw [HT.out, HA.out]; rfl, by rw [HS.out]; exact unhide HI3, unhide HB3⟩
        case measure => simp [intOf]; omega
    · have hT : L.take k = L := List.take_of_length_le hge
      rw [hT] at HA HI
      have HN := HA
      have HI2 := HI
      have hsz := hb.size
      clear hT hb
      go_wp2_with (go_at_call 40; refine (Tryz.Builder_String_any w.heap.size w.heap.size (linesL L) _ (unhide HI2) hsz).mono ?_; rintro e w3 ⟨rfl, hb3⟩; have HB3 := hide ((unhide HB).trans hb3); clear hb3)
      go_ret2
      unfold BytesO
      rw [HN.out]
      exact ⟨rfl, unhide HB3⟩
end Go.Proofs.YtfohhhdebinikaaGreatDoor.Sp
