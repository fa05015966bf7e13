/- Lemmas for the statement's proof, several texts in one: F8, F9. -/
import Derived.Test.YtbpopmbabckojaaGreatDoorZ10
import Derived.Test.YtbpopmbabckojaaGreatDoorZ09
import Derived.Lib.AppendIntMem
set_option linter.unusedVariables false
set_option linter.unusedSimpArgs false
/- field.Bytes. -/
section
namespace Go.Proofs.YtbpopmbabckojaaGreatDoor.Sp
open Go.RowKit Sl

theorem cell_call8 {W w' : World} {a : Addr} {v : Value} (hb : Below W.heap.size W w') (h : W.cell? a = some v) : w'.cell? a = some v :=
  (hb.cell (World.block_lt_of_cell? W a h)).trans h
def line1 (f : Fld) : ByteArray := f.1 ++ ⟨#[58, 32]⟩ ++ f.2 ++ ⟨#[13, 10]⟩
def linesL (L : List Fld) : List UInt8 := L.flatMap fun f => (line1 f).data.toList
theorem line1_data (f : Fld) : (line1 f).data.toList = f.1.data.toList ++ [58, 32] ++ f.2.data.toList ++ [13, 10] := by
  unfold line1
  rw [app_data, app_data, app_data]
theorem line1_size (f : Fld) : (line1 f).size = f.1.size + f.2.size + 4 := by
  rw [size_list (line1_data f)]
  simp; omega
theorem linesL_len (c : Nat) : ∀ L : List Fld, (∀ f ∈ L, f.1.size + f.2.size + 4 ≤ c) → (linesL L).length ≤ L.length * c
  | [], _ => by simp [linesL]
  | f :: t, h => by
    have ih := linesL_len c t (fun g hg => h g (List.mem_cons_of_mem _ hg))
    have h0 := h f List.mem_cons_self
    have h1 := line1_size f
    unfold linesL at ih ⊢
    rw [List.flatMap_cons, List.length_append, List.length_cons, Nat.add_mul]
    have h2 : (line1 f).data.toList.length = (line1 f).size := by simp
    omega
theorem linesL_app (A B : List Fld) : linesL (A ++ B) = linesL A ++ linesL B := by simp [linesL]
theorem linesL_take (L : List Fld) (k : Nat) (h : k < L.length) : linesL (L.take (k + 1)) = linesL (L.take k) ++ (line1 L[k]).data.toList := by
  rw [List.take_succ_eq_append_getElem h, linesL_app]
  show _ ++ List.flatMap _ [L[k]] = _
  rw [List.flatMap_cons, List.flatMap_nil, List.append_nil]

theorem isB_call {T e : TypeId} {B b : Nat} {xs : List Value} {w w' : World} (h : Lib.IsBuilder T e B b xs w) (hb : Below w.heap.size w w') : Lib.IsBuilder T e B b xs w' := by
  have one : ∀ p, Lib.BuilderAt T e B b p xs w → Lib.BuilderAt T e B b p xs w' := by
    rintro p ⟨hB, v, hbk, hown, hne⟩
    have hlt : b < w.heap.size := Lib.BuilderAt.lt ⟨hB, v, hbk, hown, hne⟩
    refine ⟨hB, v, (hb.block b hlt).trans hbk, ?_, hne⟩
    exact hown.kept (row := none) ⟨hb.os, hb.tape, hb.output, hb.size, fun k hk _ => hb.block k hk⟩ (by
      cases hv : v.ownBlock with
      | none => exact .inl rfl
      | some g => exact .inr (by simp))
  rcases h with h | h
  · exact .inl (one _ h)
  · exact .inr (one _ h)

theorem write_any (B b : Nat) (l : List UInt8) (s : ByteArray) (w : World) (h : Lib.IsBuilder 68 5 B b (Lib.byteCells l) w) (hlen : l.length + s.size ≤ 140737488355328) (hBw : B ≤ w.heap.size) :
    Calls Tryz.prog 62 #[.pointer (some ⟨b, 0, none⟩), .string s] w fun e w' => e = .returned (.tuple #[.int .i64 s.size, .nilIface]) ∧ Lib.IsBuilder 68 5 B b (Lib.byteCells (l ++ s.data.toList)) w' ∧ Below B w w' := by
  have hl : (Lib.byteCells l).length = l.length := by simp [Lib.byteCells]
  refine (Any.Builder_WriteString { Tryz.lays156 with } Tryz.Builder_Extra_156 B b (Lib.byteCells l) s w h (by rw [hl]; exact hlen) hBw).mono ?_
  rintro e w' ⟨rfl, h1, h2⟩
  refine ⟨rfl, .inr ?_, h2⟩
  have : Lib.byteCells (l ++ s.data.toList) = Lib.byteCells l ++ Lib.strCells s := by simp [Lib.byteCells, Lib.strCells]
  rw [this]
  exact h1

def BytesO (L : List Fld) (e : Ending) : Prop := e = .returned (.tuple #[.string (if L.all chkS = true then ofL (linesL L) else ⟨#[]⟩), .int .i64 (errI (L.all chkS))])
theorem allC_take (L : List Fld) (k : Nat) (h : k < L.length) : (L.take (k + 1)).all chkS = ((L.take k).all chkS && chkS L[k]) := by
  rw [List.take_succ_eq_append_getElem h, List.all_append]; simp
theorem allC_no (L : List Fld) (k : Nat) (h : k < L.length) (hn : chkS L[k] = false) : L.all chkS = false := by
  cases hh : L.all chkS
  · rfl
  · rw [List.all_eq_true] at hh
    rw [hh _ (List.getElem_mem h)] at hn
    exact hn

set_option maxRecDepth 100000 in
set_option maxHeartbeats 2000000 in
theorem bytes_any (v : Value) (L : List Fld) (hL : L.length ≤ 1000000) (hf : ∀ f ∈ L, f.1.size ≤ 100000 ∧ f.2.size ≤ 100000) (w : World) (hv : Rd w v L.length 2 (fldV L)) :
    Calls Tryz.prog 47 #[v] w fun e w' => BytesO L e ∧ Below w.heap.size w w' := by
  obtain ⟨ao, cap, rfl⟩ := hv.form
  have HV := hide hv
  have HF := hide hf
  clear hv hf
  go_enter Tryz.func47, Tryz.ntmps47
  go_upto_region 2 with fail
  have HI := hide (Lib.fresh_isBuilder 68 5 w)
  have HB := hide ((Below.refl w.heap.size w).alloc (Nat.le_refl _) (.cells #[.pointer none, .slice none 0 0] 68))
  generalize w.alloc (.cells #[.pointer none, .slice none 0 0] 68) = w0 at HI HB ⊢
  go_wp2_with fail
  go_loopw [10] (fun i wr => ∃ k : Nat, i = .int .i64 k ∧ k ≤ L.length ∧ (L.take k).all chkS = true ∧ Lib.IsBuilder 68 5 w.heap.size w.heap.size (Lib.byteCells (linesL (L.take k))) wr ∧ Below w.heap.size w wr) (fun i _ => L.length - (intOf i).toNat)
  case atStart => exact ⟨0, rfl, Nat.zero_le _, by simp, by rw [List.take_zero]; exact unhide HI, unhide HB⟩
  case round =>
    clear HI HB
    obtain ⟨k, rfl, hk, hall, hi, hb⟩ := hrel
    have HA := Lib.hid hall
    have HI := hide hi
    have HB := hide hb
    clear hall hi
    rcases Nat.lt_or_ge k L.length with hlt | hge
    · obtain ⟨b, off, rfl, hbk, d1, d2⟩ := fld_cells ((unhide HV).below hb) rfl k hlt
      have hz := (unhide HF) L[k] (List.getElem_mem _)
      have hnl := linesL_len 200004 (L.take k) (fun f hf => by have := (unhide HF) f (List.mem_of_mem_take hf); omega)
      rw [List.length_take, Nat.min_eq_left hk] at hnl
      have HS := Lib.hid (linesL_take L k hlt)
      have HT := Lib.hid (allC_take L k hlt)
      have hno := allC_no L k hlt
      have h1s := line1_size L[k]
      have hsz := hb.size
      obtain ⟨⟨x, y⟩, hx⟩ : ∃ x, L[k] = x := ⟨_, rfl⟩
      rw [hx] at d1 d2 hz hno h1s HS HT
      obtain ⟨l, hl⟩ : ∃ l, linesL (L.take k) = l := ⟨_, rfl⟩
      rw [hl] at HI HS hnl
      have hzx : x.size ≤ 1000000 := Nat.le_trans hz.1 (by decide)
      have hzy : y.size ≤ 1000000 := Nat.le_trans hz.2 (by decide)
      have hc := fun w => check_any x y hzx hzy w
      have HZ := hide (show l.length + (line1 (x, y)).size ≤ 140737488355328 by simp only at hz h1s; omega)
      clear hx hl hz h1s hnl hb
      obtain ⟨ok, hok⟩ : ∃ ok, chkS (x, y) = ok := ⟨_, rfl⟩
      rw [hok] at hc hno HT
      have HC := hide hc
      have HNO := hide hno
      clear hc hno hok
      unfold errI at HC
      cases ok
      · simp only [Bool.false_eq_true, if_false] at HC
        have HN := Lib.hid ((unhide HNO) rfl)
        go_wp2_with (go_at_call 70; refine (unhide HC _).mono ?_; rintro e w2 ⟨rfl, hb2⟩; have HB2 := hide (((unhide HB).alloc hsz (.cells #[.string x, .string y] 55)).trans (hb2.mono (by simp; omega))); clear hb2)
        go_ret2
        unfold BytesO
        rw [HN.out]
        exact ⟨rfl, unhide HB2⟩
      · simp only [if_true] at HC
        go_wp2_with (first
          | (go_at_call 70; refine (unhide HC _).mono ?_; rintro e w2 ⟨rfl, hb2⟩; have d3 := cell_call8 hb2 (a := ⟨wr.heap.size, 0, none⟩) (v := .string x) (by simp); have d4 := cell_call8 hb2 (a := ⟨wr.heap.size, 1, none⟩) (v := .string y) (by simp); have HI2 := hide (isB_call (isB_call (unhide HI) ((Below.refl wr.heap.size wr).alloc (Nat.le_refl _) (.cells #[.string x, .string y] 55))) hb2); have HB2 := hide (((unhide HB).alloc hsz (.cells #[.string x, .string y] 55)).trans (hb2.mono (by simp; omega))); clear hb2)
          | (go_at_call 62; refine (write_any w.heap.size w.heap.size l (line1 (x, y)) _ (unhide HI2) (unhide HZ) (unhide HB2).size).mono ?_; rintro e w3 ⟨rfl, hi3, hb3⟩; have HI3 := hide hi3; have HB3 := hide ((unhide HB2).trans hb3); clear hi3 hb3))
        go_roundw
        case rel => exact ⟨k + 1, by go_num, by omega, by rw [HT.out, HA.out]; rfl, by rw [HS.out]; exact unhide HI3, unhide HB3⟩
        case measure => simp [intOf]; omega
    · have hT : L.take k = L := List.take_of_length_le hge
      rw [hT] at HA HI
      have HN := HA
      have HI2 := HI
      have hsz := hb.size
      clear hT hb
      go_wp2_with (go_at_call 41; refine (Tryz.Builder_String_any w.heap.size w.heap.size (linesL L) _ (unhide HI2) hsz).mono ?_; rintro e w3 ⟨rfl, hb3⟩; have HB3 := hide ((unhide HB).trans hb3); clear hb3)
      go_ret2
      unfold BytesO
      rw [HN.out]
      exact ⟨rfl, unhide HB3⟩
end Go.Proofs.YtbpopmbabckojaaGreatDoor.Sp
end

/- A line that is written is read as its field. -/
section
namespace Go.Proofs.YtbpopmbabckojaaGreatDoor.Sp
open Go.RowKit Sl

def lineZ (f : Fld) : ByteArray := f.1 ++ ⟨#[58, 32]⟩ ++ f.2
theorem line1_z (f : Fld) : line1 f = lineZ f ++ ⟨#[13, 10]⟩ := rfl
theorem linesL_one (f : Fld) : ofL (linesL [f]) = lineZ f ++ ⟨#[13, 10]⟩ := by
  unfold linesL
  rw [List.flatMap_cons, List.flatMap_nil, List.append_nil, ofL_of, line1_z]
theorem lineZ_size (f : Fld) : (lineZ f).size = f.1.size + f.2.size + 2 := by
  have h : (lineZ f).data.toList = f.1.data.toList ++ [58, 32] ++ f.2.data.toList := by
    unfold lineZ
    rw [app_data, app_data]
  rw [size_list h]
  simp; omega
theorem crlf_size (z : ByteArray) : (z ++ ⟨#[13, 10]⟩).size = z.size + 2 := by
  rw [size_list (app_data z ⟨#[13, 10]⟩)]
  simp
theorem crlf_head (z : ByteArray) : (z ++ ⟨#[13, 10]⟩).extract 0 z.size = z := by
  apply ba_eq
  have hz : z.data.toList.length = z.size := by simp
  rw [Lib.extract_data, app_data, List.drop_zero, Nat.sub_zero, ← hz, List.take_left]
theorem crlf_tail (z : ByteArray) : (z ++ ⟨#[13, 10]⟩).extract z.size (z.size + 2) = ⟨#[13, 10]⟩ := by
  apply ba_eq
  have hz : z.data.toList.length = z.size := by simp
  rw [Lib.extract_data, app_data, ← hz, List.drop_left]
  rw [show z.data.toList.length + 2 - z.data.toList.length = 2 by omega]
  rfl

theorem cut_line : ∀ (n v : List UInt8), allS tch n = true → cutS 58 (n ++ 58 :: v) = (n, v, true)
  | [], v, _ => by simp [cutS]
  | b :: t, v, h => by
    have hb : tch b = true ∧ allS tch t = true := by
      unfold allS at h ⊢
      simpa using h
    have hne : b ≠ 58 := by
      intro e
      rw [e] at hb
      exact absurd hb.1 (by decide +kernel)
    rw [List.cons_append, cutS, if_neg hne, cut_line t v hb.2]
theorem trim_sp (v : List UInt8) : trimW (32 :: v) = trimW v := by
  rw [← trim_comm (32 :: v), ← trim_comm v]
  have h : Lib.trimLeftS (32 :: v) [32, 9] = Lib.trimLeftS v [32, 9] := by
    unfold Lib.trimLeftS
    rw [List.dropWhile_cons_of_pos (by decide)]
  rw [h]
theorem lineF_back (f : Fld) (h : chkS f = true) : lineF (lineZ f) = f ∧ lineB (lineZ f) = true := by
  have h0 := h
  unfold chkS at h0
  rw [Bool.and_eq_true, Bool.and_eq_true] at h0
  obtain ⟨⟨ht, _⟩, hq⟩ := h0
  unfold tokenS at ht
  rw [Bool.and_eq_true] at ht
  have hd : (lineZ f).data.toList = f.1.data.toList ++ 58 :: 32 :: f.2.data.toList := by
    unfold lineZ
    rw [app_data, app_data, List.append_assoc]
    rfl
  have hc : cutS 58 (lineZ f).data.toList = (f.1.data.toList, 32 :: f.2.data.toList, true) := by rw [hd, cut_line _ _ ht.2]
  have hv : ofL (trimW f.2.data.toList) = f.2 := by
    have h9 := eq_of_beq hq
    rw [Lib.toList_data, Lib.toList_data] at h9
    exact (ba_eq h9).trans (ba_eq rfl).symm
  have hF : lineF (lineZ f) = f := by
    unfold lineF
    rw [hc, trim_sp, hv, ofL_of]
  refine ⟨hF, ?_⟩
  unfold lineB
  rw [hF, hc, h]
  rfl

theorem rd_litF (w : World) (A : List Fld) (n : Nat) (hn : A.length = n) : Rd (w.alloc (.cells (fldV A).toArray 55)) (.slice (some ⟨w.heap.size, 0, none⟩) n n) n 2 (fldV A) := by
  subst hn
  refine ⟨_, _, rfl, Nat.le_refl _, (fun h => by cases h), fldV_len A, fun _ => ⟨w.heap.size, 0, rfl, by simp, fun i u hu => ?_⟩⟩
  rw [World.cell?_alloc_at _ _ _ _ rfl]
  simpa using hu

/-- one of the fields, as a list of its own -/
theorem rd_at {w : World} {b off n cap : Nat} {L : List Fld} (h : Rd w (.slice (some ⟨b, off, none⟩) n cap) n 2 (fldV L)) (hn : n = L.length) (k : Nat) (hk : k < L.length) (c : Nat) (hc : 1 ≤ c) :
    Rd w (.slice (some ⟨b, off + k * 2, none⟩) 1 c) 1 2 (fldV [L[k]]) := by
  obtain ⟨b', off', e, hb, h1, h2⟩ := fld_cells h hn k hk
  cases e
  refine ⟨some ⟨b, off + k * 2, none⟩, c, rfl, hc, (fun h => by cases h), rfl, fun _ => ⟨b, off + k * 2, rfl, hb, fun i u hu => ?_⟩⟩
  have hg := fldV_get [L[k]] 0 (by simp)
  rcases i with _ | _ | i
  · have e : (fldV [L[k]])[0]? = some (.string L[k].1) := hg.1
    rw [e] at hu
    cases hu
    exact h1
  · have e : (fldV [L[k]])[1]? = some (.string L[k].2) := hg.2
    rw [e] at hu
    cases hu
    exact h2
  · have hl : (fldV [L[k]]).length = 2 := rfl
    rw [List.getElem?_eq_none (by rw [hl]; omega)] at hu
    cases hu
theorem bytes_one (v : Value) (f : Fld) (ok : Bool) (hok : chkS f = ok) (h1 : f.1.size ≤ 100000) (h2 : f.2.size ≤ 100000) (w : World) (hv : Rd w v 1 2 (fldV [f])) :
    Calls Tryz.prog 47 #[v] w fun e w' => e = .returned (.tuple #[.string (if ok = true then lineZ f ++ ⟨#[13, 10]⟩ else ⟨#[]⟩), .int .i64 (errI ok)]) ∧ Below w.heap.size w w' := by
  refine (bytes_any v [f] (by simp) (by intro g hg; rw [List.mem_singleton] at hg; rw [hg]; exact ⟨h1, h2⟩) w hv).mono ?_
  rintro e w' ⟨h, hb⟩
  refine ⟨?_, hb⟩
  unfold BytesO at h
  have ha : [f].all chkS = ok := by simp [hok]
  rw [ha, linesL_one] at h
  exact h
end Go.Proofs.YtbpopmbabckojaaGreatDoor.Sp
end
