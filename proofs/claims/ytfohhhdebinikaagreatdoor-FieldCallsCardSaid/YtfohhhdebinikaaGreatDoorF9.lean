/- A line that is written is read as its field. -/
import Derived.Test.YtfohhhdebinikaaGreatDoorF8
namespace Go.Proofs.YtfohhhdebinikaaGreatDoor.Sp
open Go.RowKit Sl

def lineZ (f : Fld) : ByteArray := f.1 ++ ⟨#[58, 32]⟩ ++ f.2
theorem line1_z (f : Fld) : line1 f = lineZ f ++ ⟨#[13, 10]⟩ := rfl
theorem linesL_one (f : Fld) : ofL (linesL [f]) = lineZ f ++ ⟨#[13, 10]⟩ := by
  unfold linesL
  rw [List.flatMap_cons, List.flatMap_nil, List.append_nil, ofL_of, line1_z]
theorem lineZ_size (f : Fld) : (lineZ f).size = f.1.size + f.2.size + 2 := by
  have h : (lineZ f).data.toList = f.1.data.toList ++ [58, 32] ++ f.2.data.toList := by
    unfold lineZ
    rw [app_data, app_data]
  rw [size_list h]
  simp; omega
theorem crlf_size (z : ByteArray) : (z ++ ⟨#[13, 10]⟩).size = z.size + 2 := by
  rw [size_list (app_data z ⟨#[13, 10]⟩)]
  simp
theorem crlf_head (z : ByteArray) : (z ++ ⟨#[13, 10]⟩).extract 0 z.size = z := by
  apply ba_eq
  have hz : z.data.toList.length = z.size := by simp
  rw [Lib.extract_data, app_data, List.drop_zero, Nat.sub_zero, ← hz, List.take_left]
theorem crlf_tail (z : ByteArray) : (z ++ ⟨#[13, 10]⟩).extract z.size (z.size + 2) = ⟨#[13, 10]⟩ := by
  apply ba_eq
  have hz : z.data.toList.length = z.size := by simp
  rw [Lib.extract_data, app_data, ← hz, List.drop_left]
  rw [show z.data.toList.length + 2 - z.data.toList.length = 2 by omega]
  rfl

theorem cut_line : ∀ (n v : List UInt8), allS tch n = true → cutS 58 (n ++ 58 :: v) = (n, v, true)
  | [], v, _ => by simp [cutS]
  | b :: t, v, h => by
    have hb : tch b = true ∧ allS tch t = true := by
      unfold allS at h ⊢
      simpa using h
    have hne : b ≠ 58 := by
      intro e
      rw [e] at hb
      exact absurd hb.1 (by decide +kernel)
    rw [List.cons_append, cutS, if_neg hne, cut_line t v hb.2]
theorem trim_sp (v : List UInt8) : trimW (32 :: v) = trimW v := by
  rw [← trim_comm (32 :: v), ← trim_comm v]
  have h : Lib.trimLeftS (32 :: v) [32, 9] = Lib.trimLeftS v [32, 9] := by
    unfold Lib.trimLeftS
    rw [List.dropWhile_cons_of_pos (by decide)]
  rw [h]
theorem lineF_back (f : Fld) (h : chkS f = true) : lineF (lineZ f) = f ∧ lineB (lineZ f) = true := by
  have h0 := h
  unfold chkS at h0
  rw [Bool.and_eq_true, Bool.and_eq_true] at h0
  obtain ⟨⟨ht, _⟩, hq⟩ := h0
  unfold tokenS at ht
  rw [Bool.and_eq_true] at ht
  have hd : (lineZ f).data.toList = f.1.data.toList ++ 58 :: 32 :: f.2.data.toList := by
    unfold lineZ
    rw [app_data, app_data, List.append_assoc]
    rfl
  have hc : cutS 58 (lineZ f).data.toList = (f.1.data.toList, 32 :: f.2.data.toList, true) := by rw [hd, cut_line _ _ ht.2]
  have hv : ofL (trimW f.2.data.toList) = f.2 := by
    have h9 := eq_of_beq hq
    rw [Lib.toList_data, Lib.toList_data] at h9
    exact (ba_eq h9).trans (ba_eq rfl).symm
  have hF : lineF (lineZ f) = f := by
    unfold lineF
    rw [hc, trim_sp, hv, ofL_of]
  refine ⟨hF, ?_⟩
  unfold lineB
  rw [hF, hc, h]
  rfl

theorem rd_litF (w : World) (A : List Fld) (n : Nat) (hn : A.length = n) : Rd (w.alloc (.cells (fldV A).toArray 30)) (.slice (some ⟨w.heap.size, 0, none⟩) n n) n 2 (fldV A) := by
  subst hn
  refine ⟨_, _, rfl, Nat.le_refl _, (fun h => by cases h), fldV_len A, fun _ => ⟨w.heap.size, 0, rfl, by simp, fun i u hu => ?_⟩⟩
  rw [World.cell?_alloc_at _ _ _ _ rfl]
  simpa using hu

/-- one of the fields, as a list of its own -/
theorem rd_at {w : World} {b off n cap : Nat} {L : List Fld} (h : Rd w (.slice (some ⟨b, off, none⟩) n cap) n 2 (fldV L)) (hn : n = L.length) (k : Nat) (hk : k < L.length) (c : Nat) (hc : 1 ≤ c) :
    Rd w (.slice (some ⟨b, off + k * 2, none⟩) 1 c) 1 2 (fldV [L[k]]) := by
  obtain ⟨b', off', e, hb, h1, h2⟩ := fld_cells h hn k hk
  cases e
  refine ⟨some ⟨b, off + k * 2, none⟩, c, rfl, hc, (fun h => by cases h), rfl, fun _ => ⟨b, off + k * 2, rfl, hb, fun i u hu => ?_⟩⟩
  have hg := fldV_get [L[k]] 0 (by simp)
  rcases i with _ | _ | i
  · have e : (fldV [L[k]])[0]? = some (.string L[k].1) := hg.1
    rw [e] at hu
    cases hu
    exact h1
  · have e : (fldV [L[k]])[1]? = some (.string L[k].2) := hg.2
    rw [e] at hu
    cases hu
    exact h2
  · have hl : (fldV [L[k]]).length = 2 := rfl
    rw [List.getElem?_eq_none (by rw [hl]; omega)] at hu
    cases hu
theorem bytes_one (v : Value) (f : Fld) (ok : Bool) (hok : chkS f = ok) (h1 : f.1.size ≤ 100000) (h2 : f.2.size ≤ 100000) (w : World) (hv : Rd w v 1 2 (fldV [f])) :
    Calls Tryz.prog 11 #[v] w fun e w' => e = .returned (.tuple #[.string (if ok = true then lineZ f ++ ⟨#[13, 10]⟩ else ⟨#[]⟩), .int .i64 (errI ok)]) ∧ Below w.heap.size w w' := by
  refine (bytes_any v [f] (by simp) (by intro g hg; rw [List.mem_singleton] at hg; rw [hg]; exact ⟨h1, h2⟩) w hv).mono ?_
  rintro e w' ⟨h, hb⟩
  refine ⟨?_, hb⟩
  unfold BytesO at h
  have ha : [f].all chkS = ok := by simp [hok]
  rw [ha, linesL_one] at h
  exact h
end Go.Proofs.YtfohhhdebinikaaGreatDoor.Sp
