/- Lemmas for the statement's proof, several texts in one: E26, F9, M16, M17, Lf, M18, M21. -/
import Derived.Test.YtbpopmbabckojaaGreatDoorZ07
import Derived.Test.YtbpopmbabckojaaGreatDoorZ10
import Derived.Test.YtbpopmbabckojaaGreatDoorZ11
import Derived.Test.YtbpopmbabckojaaGreatDoorZ01
/- The reference's Same of fields. -/
namespace Go.Proofs.YtbpopmbabckojaaGreatDoor.Sp
open Go.RowKit Sl

def samePF (p : Fld × Fld) : Bool := same p.1.1.data.toList p.2.1.data.toList && p.1.2.toList == p.2.2.toList
/-- the fields are the same, names small or not -/
def sameFs (A B : List Fld) : Bool := decide (A.length = B.length) && (A.zip B).all samePF
theorem zip_step {A B : List Fld} (hl : A.length = B.length) {k : Nat} (h : k < A.length) (h2 : k < B.length) : ((A.zip B).take (k + 1)).all samePF = (((A.zip B).take k).all samePF && samePF (A[k], B[k])) := by
  have hz : k < (A.zip B).length := by rw [List.length_zip]; omega
  rw [List.take_succ_eq_append_getElem hz, List.all_append, List.getElem_zip]
  simp
theorem zip_all {A B : List Fld} (hl : A.length = B.length) : ((A.zip B).take A.length).all samePF = sameFs A B := by
  have hz : (A.zip B).length ≤ A.length := by rw [List.length_zip]; omega
  unfold sameFs
  rw [List.take_of_length_le hz, decide_eq_true hl, Bool.true_and]
theorem zip_no {A B : List Fld} {k : Nat} (h : k < A.length) (h2 : k < B.length) (hn : samePF (A[k], B[k]) = false) : sameFs A B = false := by
  have hz : k < (A.zip B).length := by rw [List.length_zip]; omega
  unfold sameFs
  rw [Bool.and_eq_false_iff]
  refine .inr ?_
  rw [List.all_eq_false]
  refine ⟨(A.zip B)[k], List.getElem_mem hz, ?_⟩
  rw [List.getElem_zip, hn]
  decide

set_option maxRecDepth 100000 in
set_option maxHeartbeats 2000000 in
theorem rsameF_any (u v : Value) (A B : List Fld) (hA : A.length ≤ 100000000) (hB : B.length ≤ 100000000) (hsA : ∀ f ∈ A, f.1.size ≤ 100000) (hsB : ∀ f ∈ B, f.1.size ≤ 100000) (w : World) (hu : Rd w u A.length 2 (fldV A)) (hv : Rd w v B.length 2 (fldV B)) :
    Calls Tryz.prog 44 #[u, v] w fun e w' => e = .returned (.bool (sameFs A B)) ∧ Below w.heap.size w w' := by
  obtain ⟨ao, cap, rfl⟩ := hu.form
  obtain ⟨bo, caq, rfl⟩ := hv.form
  have HU := hide hu
  have HV := hide hv
  have HSA := hide hsA
  have HSB := hide hsB
  clear hu hv hsA hsB
  by_cases hl : A.length = B.length
  · have HL := Lib.hid hl
    clear hl
    have hlen : (((A.length : Nat) : Int) != ((B.length : Nat) : Int)) = false := by rw [HL.out]; simp
    go_enter Tryz.func44, Tryz.ntmps44
    go_wp2_with fail
    go_loopw [5] (fun i wr => ∃ k : Nat, i = .int .i64 k ∧ k ≤ A.length ∧ ((A.zip B).take k).all samePF = true ∧ Below w.heap.size w wr) (fun i _ => A.length - (intOf i).toNat)
    case atStart => exact ⟨0, rfl, Nat.zero_le _, by simp, Below.refl _ _⟩
    case round =>
      obtain ⟨k, rfl, hk, hall, hbel⟩ := hrel
      have HA := Lib.hid hall
      have HB := hide hbel
      clear hall
      rcases Nat.lt_or_ge k A.length with hlt | hge
      · have hlt2 : k < B.length := by rw [← HL.out]; exact hlt
        obtain ⟨b, off, rfl, hb, d1, d3⟩ := fld_cells ((unhide HU).below hbel) rfl k hlt
        obtain ⟨b2, off2, rfl, hb2, d2, d4⟩ := fld_cells ((unhide HV).below hbel) rfl k hlt2
        have hzA := (unhide HSA) A[k] (List.getElem_mem _)
        have hzB := (unhide HSB) B[k] (List.getElem_mem _)
        have hst := zip_step HL.out hlt hlt2
        have hno := fun h => zip_no (A := A) (B := B) hlt hlt2 h
        obtain ⟨⟨x, x'⟩, hx⟩ : ∃ x, A[k] = x := ⟨_, rfl⟩
        obtain ⟨⟨y, y'⟩, hy⟩ : ∃ y, B[k] = y := ⟨_, rfl⟩
        rw [hx] at d1 d3 hzA hst hno
        rw [hy] at d2 d4 hzB hst hno
        rw [HA.out, Bool.true_and] at hst
        have hp : samePF ((x, x'), (y, y')) = (same x.data.toList y.data.toList && (x'.toList == y'.toList)) := rfl
        rw [hp] at hst hno
        have hc := fun w => rsame_any x y (show x.size ≤ 9223372036854775807 by have h9 : x.size ≤ 100000 := hzA; omega) (show y.size ≤ 9223372036854775807 by have h9 : y.size ≤ 100000 := hzB; omega) w
        obtain ⟨sm, hsm⟩ : ∃ sm, same x.data.toList y.data.toList = sm := ⟨_, rfl⟩
        rw [hsm] at hc hst hno
        have HC := hide hc
        have HST := Lib.hid hst
        have HNO := hide hno
        clear hbel hx hy hsm hc hst hno hp hzA hzB
        cases sm
        · have hF := (unhide HNO) rfl
          have HF := Lib.hid hF
          clear hF
          go_wp2_with fail
          refine Reg.region_more (by kernel_rfl) (by kernel_rfl) ?_
          repeat (go_big_quiet_step ((go_at_call 49; exact Reg.Calls.more (unhide HC _))))
          refine wpQuiet_nil ?_
          intro w9 hb9; obtain ⟨hc9, hf9, hz9⟩ := bcell hb9; (try simp at hz9)
          have HB9 := hide ((unhide HB).trans (hb9.mono (unhide HB).size))
          clear hb9 hc9 hf9
          go_wp2_with fail
          go_ret
          exact ⟨by rw [HF.out] <;> rfl, unhide HB9⟩
        · go_wp2_with fail
          refine Reg.region_more (by kernel_rfl) (by kernel_rfl) ?_
          repeat (go_big_quiet_step ((go_at_call 49; exact Reg.Calls.more (unhide HC _))))
          refine wpQuiet_nil ?_
          intro w9 hb9; obtain ⟨hc9, hf9, hz9⟩ := bcell hb9; (try simp at hz9)
          have HB9 := hide ((unhide HB).trans (hb9.mono (unhide HB).size))
          clear hb9 hc9 hf9
          cases hxy : (x'.toList == y'.toList)
          · have hF := (unhide HNO) (by rw [hxy]; rfl)
            have HF := Lib.hid hF
            clear hF
            go_wp2_with fail
            go_ret
            exact ⟨by rw [HF.out] <;> rfl, unhide HB9⟩
          · have hT := HST.out
            rw [hxy] at hT
            have HT := Lib.hid hT
            clear hT
            go_wp2_with fail
            go_roundw
            case rel => exact ⟨k + 1, by go_num, by omega, HT.out, unhide HB9⟩
            case measure => simp [intOf]; omega
      · have hT : sameFs A B = true := by
          have h1 := HA.out
          have h2 := zip_all HL.out
          rw [List.take_of_length_le (by rw [List.length_zip]; omega)] at h1 h2
          rw [← h2, h1]
        have HT := Lib.hid hT
        clear hT hbel
        go_wp2_with fail
        go_ret
        exact ⟨by rw [HT.out] <;> rfl, unhide HB⟩
  · have hT : sameFs A B = false := by unfold sameFs; rw [decide_eq_false hl]; rfl
    have HT := Lib.hid hT
    clear hT
    have hlen : (((A.length : Nat) : Int) != ((B.length : Nat) : Int)) = true := by rw [bne_iff_ne]; omega
    go_enter Tryz.func44, Tryz.ntmps44
    go_wp2_with fail
    go_ret
    exact ⟨by rw [HT.out] <;> rfl, Below.refl _ _⟩
end Go.Proofs.YtbpopmbabckojaaGreatDoor.Sp

/- A line that is written is read as its field. -/
namespace Go.Proofs.YtbpopmbabckojaaGreatDoor.Sp
open Go.RowKit Sl

def lineZ (f : Fld) : ByteArray := f.1 ++ ⟨#[58, 32]⟩ ++ f.2
theorem line1_z (f : Fld) : line1 f = lineZ f ++ ⟨#[13, 10]⟩ := rfl
theorem linesL_one (f : Fld) : ofL (linesL [f]) = lineZ f ++ ⟨#[13, 10]⟩ := by
  unfold linesL
  rw [List.flatMap_cons, List.flatMap_nil, List.append_nil, ofL_of, line1_z]
theorem lineZ_size (f : Fld) : (lineZ f).size = f.1.size + f.2.size + 2 := by
  have h : (lineZ f).data.toList = f.1.data.toList ++ [58, 32] ++ f.2.data.toList := by
    unfold lineZ
    rw [app_data, app_data]
  rw [size_list h]
  simp; omega
theorem crlf_size (z : ByteArray) : (z ++ ⟨#[13, 10]⟩).size = z.size + 2 := by
  rw [size_list (app_data z ⟨#[13, 10]⟩)]
  simp
theorem crlf_head (z : ByteArray) : (z ++ ⟨#[13, 10]⟩).extract 0 z.size = z := by
  apply ba_eq
  have hz : z.data.toList.length = z.size := by simp
  rw [Lib.extract_data, app_data, List.drop_zero, Nat.sub_zero, ← hz, List.take_left]
theorem crlf_tail (z : ByteArray) : (z ++ ⟨#[13, 10]⟩).extract z.size (z.size + 2) = ⟨#[13, 10]⟩ := by
  apply ba_eq
  have hz : z.data.toList.length = z.size := by simp
  rw [Lib.extract_data, app_data, ← hz, List.drop_left]
  rw [show z.data.toList.length + 2 - z.data.toList.length = 2 by omega]
  rfl

theorem cut_line : ∀ (n v : List UInt8), allS tch n = true → cutS 58 (n ++ 58 :: v) = (n, v, true)
  | [], v, _ => by simp [cutS]
  | b :: t, v, h => by
    have hb : tch b = true ∧ allS tch t = true := by
      unfold allS at h ⊢
      simpa using h
    have hne : b ≠ 58 := by
      intro e
      rw [e] at hb
      exact absurd hb.1 (by decide +kernel)
    rw [List.cons_append, cutS, if_neg hne, cut_line t v hb.2]
theorem trim_sp (v : List UInt8) : trimW (32 :: v) = trimW v := by
  rw [← trim_comm (32 :: v), ← trim_comm v]
  have h : Lib.trimLeftS (32 :: v) [32, 9] = Lib.trimLeftS v [32, 9] := by
    unfold Lib.trimLeftS
    rw [List.dropWhile_cons_of_pos (by decide)]
  rw [h]
theorem lineF_back (f : Fld) (h : chkS f = true) : lineF (lineZ f) = f ∧ lineB (lineZ f) = true := by
  have h0 := h
  unfold chkS at h0
  rw [Bool.and_eq_true, Bool.and_eq_true] at h0
  obtain ⟨⟨ht, _⟩, hq⟩ := h0
  unfold tokenS at ht
  rw [Bool.and_eq_true] at ht
  have hd : (lineZ f).data.toList = f.1.data.toList ++ 58 :: 32 :: f.2.data.toList := by
    unfold lineZ
    rw [app_data, app_data, List.append_assoc]
    rfl
  have hc : cutS 58 (lineZ f).data.toList = (f.1.data.toList, 32 :: f.2.data.toList, true) := by rw [hd, cut_line _ _ ht.2]
  have hv : ofL (trimW f.2.data.toList) = f.2 := by
    have h9 := eq_of_beq hq
    rw [Lib.toList_data, Lib.toList_data] at h9
    exact (ba_eq h9).trans (ba_eq rfl).symm
  have hF : lineF (lineZ f) = f := by
    unfold lineF
    rw [hc, trim_sp, hv, ofL_of]
  refine ⟨hF, ?_⟩
  unfold lineB
  rw [hF, hc, h]
  rfl

theorem rd_litF (w : World) (A : List Fld) (n : Nat) (hn : A.length = n) : Rd (w.alloc (.cells (fldV A).toArray 55)) (.slice (some ⟨w.heap.size, 0, none⟩) n n) n 2 (fldV A) := by
  subst hn
  refine ⟨_, _, rfl, Nat.le_refl _, (fun h => by cases h), fldV_len A, fun _ => ⟨w.heap.size, 0, rfl, by simp, fun i u hu => ?_⟩⟩
  rw [World.cell?_alloc_at _ _ _ _ rfl]
  simpa using hu

/-- one of the fields, as a list of its own -/
theorem rd_at {w : World} {b off n cap : Nat} {L : List Fld} (h : Rd w (.slice (some ⟨b, off, none⟩) n cap) n 2 (fldV L)) (hn : n = L.length) (k : Nat) (hk : k < L.length) (c : Nat) (hc : 1 ≤ c) :
    Rd w (.slice (some ⟨b, off + k * 2, none⟩) 1 c) 1 2 (fldV [L[k]]) := by
  obtain ⟨b', off', e, hb, h1, h2⟩ := fld_cells h hn k hk
  cases e
  refine ⟨some ⟨b, off + k * 2, none⟩, c, rfl, hc, (fun h => by cases h), rfl, fun _ => ⟨b, off + k * 2, rfl, hb, fun i u hu => ?_⟩⟩
  have hg := fldV_get [L[k]] 0 (by simp)
  rcases i with _ | _ | i
  · have e : (fldV [L[k]])[0]? = some (.string L[k].1) := hg.1
    rw [e] at hu
    cases hu
    exact h1
  · have e : (fldV [L[k]])[1]? = some (.string L[k].2) := hg.2
    rw [e] at hu
    cases hu
    exact h2
  · have hl : (fldV [L[k]]).length = 2 := rfl
    rw [List.getElem?_eq_none (by rw [hl]; omega)] at hu
    cases hu
theorem bytes_one (v : Value) (f : Fld) (ok : Bool) (hok : chkS f = ok) (h1 : f.1.size ≤ 100000) (h2 : f.2.size ≤ 100000) (w : World) (hv : Rd w v 1 2 (fldV [f])) :
    Calls Tryz.prog 47 #[v] w fun e w' => e = .returned (.tuple #[.string (if ok = true then lineZ f ++ ⟨#[13, 10]⟩ else ⟨#[]⟩), .int .i64 (errI ok)]) ∧ Below w.heap.size w w' := by
  refine (bytes_any v [f] (by simp) (by intro g hg; rw [List.mem_singleton] at hg; rw [hg]; exact ⟨h1, h2⟩) w hv).mono ?_
  rintro e w' ⟨h, hb⟩
  refine ⟨?_, hb⟩
  unfold BytesO at h
  have ha : [f].all chkS = ok := by simp [hok]
  rw [ha, linesL_one] at h
  exact h
end Go.Proofs.YtbpopmbabckojaaGreatDoor.Sp

/- emit.Plain, ref08.Plain; the reference's Same of messages. -/
namespace Go.Proofs.YtbpopmbabckojaaGreatDoor.Sp
open Go.RowKit Sl

def ctF : Fld := (⟨#[67, 111, 110, 116, 101, 110, 116, 45, 84, 121, 112, 101]⟩, ⟨#[116, 101, 120, 116, 47, 112, 108, 97, 105, 110]⟩)
def plainB (st : Int) : ByteArray := itoaB st ++ ⟨#[32]⟩ ++ reasonB st ++ ⟨#[10]⟩
def plainA (st : Int) (fs : Value) : Array Value := #[.string ⟨#[]⟩, .string ⟨#[]⟩, .int .i64 st, .string (reasonB st), .int .i64 1, fs, .string (plainB st), .slice none 0 0]
theorem plainA_msg (st : Int) (fs : Value) : plainA st fs = msgV ⟨#[]⟩ ⟨#[]⟩ st (reasonB st) 1 fs (plainB st) (.slice none 0 0) := rfl
def PlainO (st : Int) (w : World) (e : Ending) (w' : World) : Prop :=
  ∃ b, e = .returned (.agg (plainA st (.slice (some ⟨b, 0, none⟩) 1 1))) ∧ Rd w' (.slice (some ⟨b, 0, none⟩) 1 1) 1 2 (fldV [ctF]) ∧ Below w.heap.size w w'
theorem reasonB_size (st : Int) : (reasonB st).size ≤ 40 := by
  have h : ∀ (c : Prop) [Decidable c] (a b : ByteArray), a.size ≤ 40 → b.size ≤ 40 → (if c then a else b).size ≤ 40 := by intros; split <;> assumption
  unfold reasonB
  repeat (refine h _ _ _ (by decide) ?_)
  decide
theorem cell_setCells_other {b b1 : Nat} (h : b1 ≠ b) (i : Nat) : ∀ (vs : List Value) (o : Nat) (w : World), (w.setCells b o vs).cell? ⟨b1, i, none⟩ = w.cell? ⟨b1, i, none⟩
  | [], _, _ => rfl
  | v :: vs, o, w => by
    show ((w.setCell ⟨b, o, none⟩ v).setCells b (o + 1) vs).cell? _ = _
    rw [cell_setCells_other h i vs (o + 1) _]
    exact World.cell?_setCell_other _ _ _ _ (by simp [h])
theorem rd_setCells {w : World} {b1 n c m sz : Nat} {xs : List Value} {b : Nat} (h : Rd w (.slice (some ⟨b1, 0, none⟩) n c) m sz xs) (hne : b1 ≠ b) (vs : List Value) : Rd (w.setCells b 0 vs) (.slice (some ⟨b1, 0, none⟩) n c) m sz xs := by
  obtain ⟨ao, cap, e, hcp, hz, hl, hc⟩ := h
  refine ⟨ao, cap, e, hcp, hz, hl, fun hx => ?_⟩
  obtain ⟨b2, off, e2, hlt, hcc⟩ := hc hx
  subst e2
  simp only [Value.slice.injEq, Option.some.injEq, Addr.mk.injEq, and_true] at e
  obtain ⟨⟨rfl, rfl⟩, rfl, rfl⟩ := e
  exact ⟨b1, 0, rfl, by rw [size_setCells]; exact hlt, fun i u hu => (cell_setCells_other hne _ vs 0 w).trans (hcc i u hu)⟩
theorem rd_ct (w : World) : Rd (w.alloc (.cells #[.string ⟨#[67, 111, 110, 116, 101, 110, 116, 45, 84, 121, 112, 101]⟩, .string ⟨#[116, 101, 120, 116, 47, 112, 108, 97, 105, 110]⟩] 55)) (.slice (some ⟨w.heap.size, 0, none⟩) 1 1) 1 2 (fldV [ctF]) := rd_litF w [ctF] 1 rfl

set_option maxRecDepth 100000 in
set_option maxHeartbeats 2000000 in
theorem eplain_any (st : Int) (h0 : -9223372036854775808 ≤ st) (h1 : st ≤ 9223372036854775807) (w : World) (hT : Pow10 w) :
    Calls Tryz.prog 21 #[.int .i64 st] w (PlainO st w) := by
  have qr := hide (fun w => reason_any st w)
  have qi := hide (fun w1 (hb : Below w.heap.size w w1) => itoa_any st h0 h1 w1 (hT.below hb))
  have hz1 := reasonB_size st
  have hz2 := itoa_size st h0 h1
  have HX := Lib.hid (show plainB st = itoaB st ++ ⟨#[32]⟩ ++ reasonB st ++ ⟨#[10]⟩ from rfl)
  have HZ := hide (Reg.Has.at w w.heap.size zeroM 24 rfl)
  have HB := hide ((Below.refl w.heap.size w).alloc (Nat.le_refl _) (.cells zeroM.toArray 24))
  obtain ⟨r, hr⟩ : ∃ r, reasonB st = r := ⟨_, rfl⟩
  obtain ⟨d, hd⟩ : ∃ r, itoaB st = r := ⟨_, rfl⟩
  rw [hr] at qr hz1 HX
  rw [hd] at qi hz2 HX
  have y1 : (⟨#[32]⟩ : ByteArray).size = 1 := rfl
  have y2 : (⟨#[10]⟩ : ByteArray).size = 1 := rfl
  have HR := Lib.hid hr
  clear hT hr hd
  go_enter Tryz.func21, Tryz.ntmps21
  go_wp2_with fail
  refine (unhide qr _).mono ?_; rintro e w' ⟨rfl, rfl⟩
  unfold zeroM at HZ HB
  generalize hw1 : w.alloc (.cells #[.string ⟨#[]⟩, .string ⟨#[]⟩, .int .i64 0, .string ⟨#[]⟩, .int .i64 0, .slice none 0 0, .string ⟨#[]⟩, .slice none 0 0] 24) = w1 at *
  clear hw1
  go_wp2_with fail
  have HRd := hide (rd_ct w1)
  have HZ2 := hide ((unhide HZ).alloc (.cells #[.string ⟨#[67, 111, 110, 116, 101, 110, 116, 45, 84, 121, 112, 101]⟩, .string ⟨#[116, 101, 120, 116, 47, 112, 108, 97, 105, 110]⟩] 55))
  have HB2 := hide ((unhide HB).alloc (unhide HB).size (.cells #[.string ⟨#[67, 111, 110, 116, 101, 110, 116, 45, 84, 121, 112, 101]⟩, .string ⟨#[116, 101, 120, 116, 47, 112, 108, 97, 105, 110]⟩] 55))
  have hlt1 : w.heap.size < w1.heap.size := (unhide HZ).lt
  have hlt : w1.heap.size < (w1.alloc (.cells #[.string ⟨#[67, 111, 110, 116, 101, 110, 116, 45, 84, 121, 112, 101]⟩, .string ⟨#[116, 101, 120, 116, 47, 112, 108, 97, 105, 110]⟩] 55)).heap.size := by simp
  generalize hw2 : w1.alloc (.cells #[.string ⟨#[67, 111, 110, 116, 101, 110, 116, 45, 84, 121, 112, 101]⟩, .string ⟨#[116, 101, 120, 116, 47, 112, 108, 97, 105, 110]⟩] 55) = w2 at *
  clear hw2 HZ HB
  generalize hb1 : w1.heap.size = b1 at *
  clear hb1
  refine (unhide qi _ (unhide HB2)).mono ?_; rintro e w3 ⟨rfl, hb3⟩
  have HRd3 := hide ((unhide HRd).below hb3)
  have HZ3 := hide ((unhide HZ2).call hb3)
  have HB3 := hide ((unhide HB2).trans (hb3.mono (unhide HB2).size))
  have hb1 : b1 < w3.heap.size := Nat.lt_of_lt_of_le hlt hb3.size
  clear hb3
  go_wp2_with (refine wpList_storeM rfl _ _ rfl w.heap.size rfl #[.string ⟨#[]⟩, .string ⟨#[]⟩, .int .i64 st, .string r, .int .i64 1, .slice (some ⟨b1, 0, none⟩) 1 1, .string (d ++ ⟨#[32]⟩ ++ r ++ ⟨#[10]⟩), .slice none 0 0] rfl rfl zeroM rfl (unhide HZ3) (by first | rfl | kernel_rfl | decide) ?_; intro HM; have HBM := below_setCells (B := w.heap.size) w.heap.size (Nat.le_refl _) (#[.string ⟨#[]⟩, .string ⟨#[]⟩, .int .i64 st, .string r, .int .i64 1, .slice (some ⟨b1, 0, none⟩) 1 1, .string (d ++ ⟨#[32]⟩ ++ r ++ ⟨#[10]⟩), .slice none 0 0] : Array Value).toList 0 _ (unhide HB3); have HRM := hide (rd_setCells (unhide HRd3) (b := w.heap.size) (by omega) (#[.string ⟨#[]⟩, .string ⟨#[]⟩, .int .i64 st, .string r, .int .i64 1, .slice (some ⟨b1, 0, none⟩) 1 1, .string (d ++ ⟨#[32]⟩ ++ r ++ ⟨#[10]⟩), .slice none 0 0] : Array Value).toList); generalize w3.setCells w.heap.size 0 (#[.string ⟨#[]⟩, .string ⟨#[]⟩, .int .i64 st, .string r, .int .i64 1, .slice (some ⟨b1, 0, none⟩) 1 1, .string (d ++ ⟨#[32]⟩ ++ r ++ ⟨#[10]⟩), .slice none 0 0] : Array Value).toList = w4 at HM HBM HRM ⊢; have HMM := hide HM; have HBB := hide HBM; clear HM HBM HZ3)
  have hl := run_loadM w.heap.size #[.string ⟨#[]⟩, .string ⟨#[]⟩, .int .i64 st, .string r, .int .i64 1, .slice (some ⟨b1, 0, none⟩) 1 1, .string (d ++ ⟨#[32]⟩ ++ r ++ ⟨#[10]⟩), .slice none 0 0] rfl (unhide HMM)
  refine bodyPost_ret (Mem.results_cell1 (ad := ⟨w.heap.size, 0, none⟩) Tryz.results21 rfl hl) rfl ⟨b1, ?_, unhide HRM, unhide HBB⟩
  unfold plainA
  rw [HX.out, HR.out]

set_option maxRecDepth 100000 in
set_option maxHeartbeats 2000000 in
theorem rplain_any (st : Int) (h0 : -9223372036854775808 ≤ st) (h1 : st ≤ 9223372036854775807) (w : World) :
    Calls Tryz.prog 35 #[.int .i64 st] w (PlainO st w) := by
  have qr := hide (fun w => rreason_any st w)
  have qi := hide (fun w => digits_any st h0 h1 w)
  have hz1 := reasonB_size st
  have hz2 := itoa_size st h0 h1
  have HX := Lib.hid (show plainB st = itoaB st ++ ⟨#[32]⟩ ++ reasonB st ++ ⟨#[10]⟩ from rfl)
  have HZ := hide (Reg.Has.at w w.heap.size zeroM 24 rfl)
  have HB := hide ((Below.refl w.heap.size w).alloc (Nat.le_refl _) (.cells zeroM.toArray 24))
  obtain ⟨r, hr⟩ : ∃ r, reasonB st = r := ⟨_, rfl⟩
  obtain ⟨d, hd⟩ : ∃ r, itoaB st = r := ⟨_, rfl⟩
  rw [hr] at qr hz1 HX
  rw [hd] at qi hz2 HX
  have y1 : (⟨#[32]⟩ : ByteArray).size = 1 := rfl
  have y2 : (⟨#[10]⟩ : ByteArray).size = 1 := rfl
  have HR := Lib.hid hr
  clear hr hd
  go_enter Tryz.func35, Tryz.ntmps35
  go_wp2_with fail
  refine (unhide qr _).mono ?_; rintro e w' ⟨rfl, rfl⟩
  unfold zeroM at HZ HB
  generalize hw1 : w.alloc (.cells #[.string ⟨#[]⟩, .string ⟨#[]⟩, .int .i64 0, .string ⟨#[]⟩, .int .i64 0, .slice none 0 0, .string ⟨#[]⟩, .slice none 0 0] 24) = w1 at *
  clear hw1
  go_wp2_with fail
  have HRd := hide (rd_ct w1)
  have HZ2 := hide ((unhide HZ).alloc (.cells #[.string ⟨#[67, 111, 110, 116, 101, 110, 116, 45, 84, 121, 112, 101]⟩, .string ⟨#[116, 101, 120, 116, 47, 112, 108, 97, 105, 110]⟩] 55))
  have HB2 := hide ((unhide HB).alloc (unhide HB).size (.cells #[.string ⟨#[67, 111, 110, 116, 101, 110, 116, 45, 84, 121, 112, 101]⟩, .string ⟨#[116, 101, 120, 116, 47, 112, 108, 97, 105, 110]⟩] 55))
  have hlt1 : w.heap.size < w1.heap.size := (unhide HZ).lt
  have hlt : w1.heap.size < (w1.alloc (.cells #[.string ⟨#[67, 111, 110, 116, 101, 110, 116, 45, 84, 121, 112, 101]⟩, .string ⟨#[116, 101, 120, 116, 47, 112, 108, 97, 105, 110]⟩] 55)).heap.size := by simp
  generalize hw2 : w1.alloc (.cells #[.string ⟨#[67, 111, 110, 116, 101, 110, 116, 45, 84, 121, 112, 101]⟩, .string ⟨#[116, 101, 120, 116, 47, 112, 108, 97, 105, 110]⟩] 55) = w2 at *
  clear hw2 HZ HB
  generalize hb1 : w1.heap.size = b1 at *
  clear hb1
  refine (unhide qi _).mono ?_; rintro e w' ⟨rfl, rfl⟩
  go_wp2_with fail
  refine (unhide qr _).mono ?_; rintro e w3 ⟨rfl, hw3⟩
  have hb3 : Below w2.heap.size w2 w3 := by rw [← hw3]; exact Below.refl _ _
  clear hw3
  have HRd3 := hide ((unhide HRd).below hb3)
  have HZ3 := hide ((unhide HZ2).call hb3)
  have HB3 := hide ((unhide HB2).trans (hb3.mono (unhide HB2).size))
  have hb1 : b1 < w3.heap.size := Nat.lt_of_lt_of_le hlt hb3.size
  clear hb3
  go_wp2_with (refine wpList_storeM rfl _ _ rfl w.heap.size rfl #[.string ⟨#[]⟩, .string ⟨#[]⟩, .int .i64 st, .string r, .int .i64 1, .slice (some ⟨b1, 0, none⟩) 1 1, .string (d ++ ⟨#[32]⟩ ++ r ++ ⟨#[10]⟩), .slice none 0 0] rfl rfl zeroM rfl (unhide HZ3) (by first | rfl | kernel_rfl | decide) ?_; intro HM; have HBM := below_setCells (B := w.heap.size) w.heap.size (Nat.le_refl _) (#[.string ⟨#[]⟩, .string ⟨#[]⟩, .int .i64 st, .string r, .int .i64 1, .slice (some ⟨b1, 0, none⟩) 1 1, .string (d ++ ⟨#[32]⟩ ++ r ++ ⟨#[10]⟩), .slice none 0 0] : Array Value).toList 0 _ (unhide HB3); have HRM := hide (rd_setCells (unhide HRd3) (b := w.heap.size) (by omega) (#[.string ⟨#[]⟩, .string ⟨#[]⟩, .int .i64 st, .string r, .int .i64 1, .slice (some ⟨b1, 0, none⟩) 1 1, .string (d ++ ⟨#[32]⟩ ++ r ++ ⟨#[10]⟩), .slice none 0 0] : Array Value).toList); generalize w3.setCells w.heap.size 0 (#[.string ⟨#[]⟩, .string ⟨#[]⟩, .int .i64 st, .string r, .int .i64 1, .slice (some ⟨b1, 0, none⟩) 1 1, .string (d ++ ⟨#[32]⟩ ++ r ++ ⟨#[10]⟩), .slice none 0 0] : Array Value).toList = w4 at HM HBM HRM ⊢; have HMM := hide HM; have HBB := hide HBM; clear HM HBM HZ3)
  have hl := run_loadM w.heap.size #[.string ⟨#[]⟩, .string ⟨#[]⟩, .int .i64 st, .string r, .int .i64 1, .slice (some ⟨b1, 0, none⟩) 1 1, .string (d ++ ⟨#[32]⟩ ++ r ++ ⟨#[10]⟩), .slice none 0 0] rfl (unhide HMM)
  refine bodyPost_ret (Mem.results_cell1 (ad := ⟨w.heap.size, 0, none⟩) Tryz.results35 rfl hl) rfl ⟨b1, ?_, unhide HRM, unhide HBB⟩
  unfold plainA
  rw [HX.out, HR.out]
end Go.Proofs.YtbpopmbabckojaaGreatDoor.Sp

/- The reference's Same of messages; the first line's size; the law's own examples. -/
namespace Go.Proofs.YtbpopmbabckojaaGreatDoor.Sp
open Go.RowKit Sl

set_option maxRecDepth 100000 in
set_option maxHeartbeats 2000000 in
theorem rsame06_any (me ta re bo : ByteArray) (st mi : Int) (u v u' v' : Value) (A B A' B' : List Fld) (w : World) (hA : A.length ≤ 1000 ∧ ∀ f ∈ A, f.1.size ≤ 100000) (hB : B.length ≤ 1000 ∧ ∀ f ∈ B, f.1.size ≤ 100000) (hA' : A'.length ≤ 1000 ∧ ∀ f ∈ A', f.1.size ≤ 100000) (hB' : B'.length ≤ 1000 ∧ ∀ f ∈ B', f.1.size ≤ 100000)
    (h1 : Rd w u A.length 2 (fldV A)) (h2 : Rd w v B.length 2 (fldV B)) (h3 : Rd w u' A'.length 2 (fldV A')) (h4 : Rd w v' B'.length 2 (fldV B')) :
    Calls Tryz.prog 18 #[.agg (msgV me ta st re mi u bo u'), .agg (msgV me ta st re mi v bo v')] w fun e w' => e = .returned (.bool (sameFs A B && sameFs A' B')) ∧ Below w.heap.size w w' := by
  have q1 := hide (fun w1 (hb : Below w.heap.size w w1) => rsameF_any u v A B (by omega) (by omega) hA.2 hB.2 w1 (h1.below hb) (h2.below hb))
  have q2 := hide (fun w1 (hb : Below w.heap.size w w1) => rsameF_any u' v' A' B' (by omega) (by omega) hA'.2 hB'.2 w1 (h3.below hb) (h4.below hb))
  obtain ⟨a1, c1, rfl⟩ := h1.form
  obtain ⟨a2, c2, rfl⟩ := h2.form
  obtain ⟨a3, c3, rfl⟩ := h3.form
  obtain ⟨a4, c4, rfl⟩ := h4.form
  clear h1 h2 h3 h4 hA hB hA' hB'
  unfold msgV
  have HH := hide (Reg.Has.at w w.heap.size [.string me, .string ta, .int .i64 st, .string re, .int .i64 mi, .slice a1 A.length c1, .string bo, .slice a3 A'.length c3] 24 rfl)
  have HH1 := hide ((unhide HH).alloc (.cells #[.string me, .string ta, .int .i64 st, .string re, .int .i64 mi, .slice a2 B.length c2, .string bo, .slice a4 B'.length c4] 24))
  have HH2 := hide (Reg.Has.at (w.alloc (.cells #[.string me, .string ta, .int .i64 st, .string re, .int .i64 mi, .slice a1 A.length c1, .string bo, .slice a3 A'.length c3] 24)) (w.heap.size + 1) [.string me, .string ta, .int .i64 st, .string re, .int .i64 mi, .slice a2 B.length c2, .string bo, .slice a4 B'.length c4] 24 (by simp))
  have HB := hide (((Below.refl w.heap.size w).alloc (Nat.le_refl _) (.cells #[.string me, .string ta, .int .i64 st, .string re, .int .i64 mi, .slice a1 A.length c1, .string bo, .slice a3 A'.length c3] 24)).alloc (by simp) (.cells #[.string me, .string ta, .int .i64 st, .string re, .int .i64 mi, .slice a2 B.length c2, .string bo, .slice a4 B'.length c4] 24))
  clear HH
  obtain ⟨s1, hs1⟩ : ∃ b, sameFs A B = b := ⟨_, rfl⟩
  obtain ⟨s2, hs2⟩ : ∃ b, sameFs A' B' = b := ⟨_, rfl⟩
  rw [hs1] at q1 ⊢
  rw [hs2] at q2 ⊢
  clear hs1 hs2
  go_enter Tryz.func18, Tryz.ntmps18
  go_upto_region 1 with fail
  generalize hw2 : (w.alloc (.cells #[.string me, .string ta, .int .i64 st, .string re, .int .i64 mi, .slice a1 A.length c1, .string bo, .slice a3 A'.length c3] 24)).alloc (.cells #[.string me, .string ta, .int .i64 st, .string re, .int .i64 mi, .slice a2 B.length c2, .string bo, .slice a4 B'.length c4] 24) = w2 at *
  clear hw2
  have G1 := unhide HH1
  have G2 := unhide HH2
  have pa0 := G1.cell 0 _ rfl; have pa1 := G1.cell 1 _ rfl; have pa2 := G1.cell 2 _ rfl; have pa3 := G1.cell 3 _ rfl; have pa4 := G1.cell 4 _ rfl; have pa5 := G1.cell 5 _ rfl; have pa6 := G1.cell 6 _ rfl; have pa7 := G1.cell 7 _ rfl; have za := G1.lt
  have pb0 := G2.cell 0 _ rfl; have pb1 := G2.cell 1 _ rfl; have pb2 := G2.cell 2 _ rfl; have pb3 := G2.cell 3 _ rfl; have pb4 := G2.cell 4 _ rfl; have pb5 := G2.cell 5 _ rfl; have pb6 := G2.cell 6 _ rfl; have pb7 := G2.cell 7 _ rfl; have zb := G2.lt
  clear G1 G2
  cases s1
  · go_wp2_with fail
    refine (unhide q1 _ (unhide HB)).mono ?_; rintro e w3 ⟨rfl, hb3⟩
    have HB3 := hide ((unhide HB).trans (hb3.mono (unhide HB).size))
    clear hb3
    go_wp2_with fail
    go_ret
    exact ⟨rfl, unhide HB3⟩
  · go_wp2_with fail
    refine (unhide q1 _ (unhide HB)).mono ?_; rintro e w3 ⟨rfl, hb3⟩
    have HB3 := hide ((unhide HB).trans (hb3.mono (unhide HB).size))
    have G1 := (unhide HH1).call hb3
    have G2 := (unhide HH2).call hb3
    clear hb3 pa0 pa1 pa2 pa3 pa4 pa5 pa6 pa7 za pb0 pb1 pb2 pb3 pb4 pb5 pb6 pb7 zb
    have pa0 := G1.cell 0 _ rfl; have pa1 := G1.cell 1 _ rfl; have pa2 := G1.cell 2 _ rfl; have pa3 := G1.cell 3 _ rfl; have pa4 := G1.cell 4 _ rfl; have pa5 := G1.cell 5 _ rfl; have pa6 := G1.cell 6 _ rfl; have pa7 := G1.cell 7 _ rfl; have za := G1.lt
    have pb0 := G2.cell 0 _ rfl; have pb1 := G2.cell 1 _ rfl; have pb2 := G2.cell 2 _ rfl; have pb3 := G2.cell 3 _ rfl; have pb4 := G2.cell 4 _ rfl; have pb5 := G2.cell 5 _ rfl; have pb6 := G2.cell 6 _ rfl; have pb7 := G2.cell 7 _ rfl; have zb := G2.lt
    clear G1 G2
    go_wp2_with fail
    refine (unhide q2 _ (unhide HB3)).mono ?_; rintro e w4 ⟨rfl, hb4⟩
    have HB4 := hide ((unhide HB3).trans (hb4.mono (unhide HB3).size))
    clear hb4
    go_wp2_with fail
    go_ret
    exact ⟨by cases s2 <;> rfl, unhide HB4⟩

theorem ofL_size (l : List UInt8) : (ofL l).size = l.length := by simp [ofL, ByteArray.size]
theorem itoa01 (n : Int) (h0 : 0 ≤ n) (h1 : n ≤ 599) : (Lib.itoa n).length ≤ 20 := by
  have := itoa_size n (by omega) (by omega)
  rwa [show (itoaB n).size = (Lib.itoa n).length from ofL_size _] at this
theorem lineS_len (me ta re : ByteArray) (st mi : Int) (h1 : me.size ≤ 1000000) (h2 : ta.size ≤ 1000000) (h3 : re.size ≤ 1000000) : (ofL (lineS me ta re st mi).1).size ≤ 100000000 := by
  rw [ofL_size]
  have e1 : me.data.toList.length = me.size := by simp
  have e2 : ta.data.toList.length = ta.size := by simp
  have e3 : re.data.toList.length = re.size := by simp
  unfold lineS
  split
  · split
    · unfold slS
      split
      · rename_i h
        have i1 := itoa01 mi h.1 (by have := h.2.1; omega)
        have i2 := itoa01 st (by have := h.2.2.1; omega) h.2.2.2.1
        unfold slT httpV
        simp only [List.length_append, List.length_cons, List.length_nil]
        omega
      · simp
    · simp
  · split
    · unfold rlS
      split
      · rename_i h
        unfold rlOK at h
        have i1 := itoa01 mi (by omega) (by omega)
        unfold rlT httpV
        simp only [List.length_append, List.length_cons, List.length_nil]
        omega
      · simp
    · simp
end Go.Proofs.YtbpopmbabckojaaGreatDoor.Sp

/- A message that is light. -/
namespace Go.Proofs.YtbpopmbabckojaaGreatDoor.Sp
open Go.RowKit Sl

def sumF (L : List Fld) : Nat := (L.map fun f => f.1.size + f.2.size).sum
theorem sumF_take (L : List Fld) (k : Nat) (h : k < L.length) : sumF (L.take (k + 1)) = sumF (L.take k) + (L[k].1.size + L[k].2.size) := by
  unfold sumF
  rw [List.take_succ_eq_append_getElem h, List.map_append, List.sum_append]; simp
theorem sumF_mem {L : List Fld} {f : Fld} (h : f ∈ L) : f.1.size + f.2.size ≤ sumF L := by
  induction L with
  | nil => cases h
  | cons g t ih =>
    unfold sumF at ih ⊢
    rw [List.map_cons, List.sum_cons]
    rcases List.mem_cons.1 h with rfl | h
    · omega
    · have := ih h; omega
set_option maxRecDepth 100000 in
set_option maxHeartbeats 2000000 in
theorem lightF2_any (v : Value) (L : List Fld) (most bytes : Nat) (hL : L.length ≤ 9223372036854775807) (hb1 : most ≤ 1000) (hb2 : bytes ≤ 1000) (hf : ∀ f ∈ L, f.1.size ≤ 1000000000000000 ∧ f.2.size ≤ 1000000000000000) (w : World) (hv : Rd w v L.length 2 (fldV L)) :
    Calls Tryz.prog 58 #[v, .int .i64 most, .int .i64 bytes] w fun e w' => ∃ r, e = .returned (.bool r) ∧ (r = true → L.length ≤ most ∧ sumF L ≤ bytes) ∧ Below w.heap.size w w' := by
  obtain ⟨ao, cap, rfl⟩ := hv.form
  have HV := hide hv
  have HF := hide hf
  clear hv hf
  rcases Nat.lt_or_ge most L.length with hm | hm
  · go_enter Tryz.func58, Tryz.ntmps58
    go_wp2_with fail
    go_ret
    exact ⟨_, rfl, (by simp), Below.refl _ _⟩
  · go_enter Tryz.func58, Tryz.ntmps58
    go_wp2_with fail
    go_loopw [7, 8] (fun n i wr => ∃ k s : Nat, i = .int .i64 k ∧ n = .int .i64 s ∧ k ≤ L.length ∧ s ≤ bytes ∧ sumF (L.take k) = s ∧ Below w.heap.size w wr) (fun _ i _ => L.length - (intOf i).toNat)
    case atStart => exact ⟨0, 0, rfl, rfl, Nat.zero_le _, Nat.zero_le _, rfl, Below.refl _ _⟩
    case round =>
      obtain ⟨k, s, rfl, rfl, hk, hs, hall, hbel⟩ := hrel
      have HA := hide hall
      have HB := hide hbel
      rcases Nat.lt_or_ge k L.length with hlt | hge
      · obtain ⟨b, off, rfl, hb, c1, c2⟩ := fld_cells (unhide HV) rfl k hlt
        have d1 := (hbel.cell (p := ⟨b, off + k * 2, none⟩) hb).trans c1
        have d2 := (hbel.cell (p := ⟨b, off + k * 2 + 1, none⟩) hb).trans c2
        have z1 := ((unhide HF) L[k] (List.getElem_mem _)).1
        have z2 := ((unhide HF) L[k] (List.getElem_mem _)).2
        have HT := hide (sumF_take L k hlt)
        clear c1 c2 hall hbel
        have hbw : b < wr.heap.size := Nat.lt_of_lt_of_le hb (unhide HB).size
        go_wp2_with fail
        refine Reg.region_more (by kernel_rfl) (by kernel_rfl) ?_
        repeat (go_big_quiet_step (fail))
        refine wpQuiet_nil ?_
        intro w9 hb9; obtain ⟨hc9, hf9, hz9⟩ := bcell hb9; (try simp at hz9)
        have HB9 := hide ((unhide HB).trans (hb9.mono (unhide HB).size))
        clear hb9 hc9 hf9
        rcases Nat.lt_or_ge bytes (s + L[k].1.size + L[k].2.size) with hq | hq
        · go_wp2_with fail
          go_ret
          exact ⟨_, rfl, (by simp), unhide HB9⟩
        · go_wp2_with fail
          go_roundw
          case rel =>
            exact ⟨k + 1, s + L[k].1.size + L[k].2.size, by go_num, by go_num, by omega, by omega, by rw [unhide HT, unhide HA]; omega, unhide HB9⟩
          case measure => simp [intOf]; omega
      · have hT : L.take k = L := List.take_of_length_le hge
        have HT := Lib.hid hT
        clear hT hall hbel
        go_wp2_with fail
        go_ret
        refine ⟨_, rfl, fun _ => ⟨hm, ?_⟩, unhide HB⟩
        have := unhide HA
        rw [HT.out] at this
        omega


def LightA (me ta re bo : ByteArray) (F T : List Fld) : Prop := me.size ≤ 40 ∧ ta.size ≤ 200 ∧ re.size ≤ 100 ∧ bo.size ≤ 400 ∧ (F.length ≤ 20 ∧ sumF F ≤ 600) ∧ (T.length ≤ 10 ∧ sumF T ≤ 300)
def LightQ (P : Prop) (w : World) (e : Ending) (w' : World) : Prop := ∃ r, e = .returned (.bool r) ∧ (r = true → P) ∧ Below w.heap.size w w'

set_option maxRecDepth 100000 in
set_option maxHeartbeats 1000000 in
theorem lightA_any (me ta re bo : ByteArray) (st mi : Int) (fs tr : Value) (F T : List Fld) (h1 : me.size ≤ 9223372036854775807) (h2 : ta.size ≤ 9223372036854775807) (h3 : re.size ≤ 9223372036854775807) (h4 : bo.size ≤ 9223372036854775807)
    (hF : F.length ≤ 9223372036854775807) (hT : T.length ≤ 9223372036854775807) (hf : ∀ f ∈ F, f.1.size ≤ 1000000000000000 ∧ f.2.size ≤ 1000000000000000) (ht : ∀ f ∈ T, f.1.size ≤ 1000000000000000 ∧ f.2.size ≤ 1000000000000000) (w : World) (hv : Rd w fs F.length 2 (fldV F)) (hu : Rd w tr T.length 2 (fldV T)) :
    Calls Tryz.prog 36 #[.agg (msgV me ta st re mi fs bo tr)] w (LightQ (LightA me ta re bo F T) w) := by
  obtain ⟨ao, cap, rfl⟩ := hv.form
  obtain ⟨bo', caq, rfl⟩ := hu.form
  have hl1 := hide (fun w' (h : Below w.heap.size w w') => lightF2_any _ F 20 600 hF (by omega) (by omega) hf w' (hv.below h))
  have hl2 := hide (fun w' (h : Below w.heap.size w w') => lightF2_any _ T 10 300 hT (by omega) (by omega) ht w' (hu.below h))
  clear hv hu hf ht
  unfold LightQ
  have HB := hide ((Below.refl w.heap.size w).alloc (Nat.le_refl _) (.cells #[.string me, .string ta, .int .i64 st, .string re, .int .i64 mi, .slice ao F.length cap, .string bo, .slice bo' T.length caq] 24))
  have H := hide (Reg.Has.at w w.heap.size [.string me, .string ta, .int .i64 st, .string re, .int .i64 mi, .slice ao F.length cap, .string bo, .slice bo' T.length caq] 24 rfl)
  by_cases hok : me.size ≤ 40 ∧ ta.size ≤ 200 ∧ re.size ≤ 100 ∧ bo.size ≤ 400
  rotate_left
  · have hb : (decide ((me.size : Int) ≤ 40) = false) ∨ (decide ((me.size : Int) ≤ 40) = true ∧ decide ((ta.size : Int) ≤ 200) = false) ∨ (decide ((me.size : Int) ≤ 40) = true ∧ decide ((ta.size : Int) ≤ 200) = true ∧ decide ((re.size : Int) ≤ 100) = false) ∨ (decide ((me.size : Int) ≤ 40) = true ∧ decide ((ta.size : Int) ≤ 200) = true ∧ decide ((re.size : Int) ≤ 100) = true ∧ decide ((bo.size : Int) ≤ 400) = false) := by
      by_cases k1 : me.size ≤ 40
      · by_cases k2 : ta.size ≤ 200
        · by_cases k3 : re.size ≤ 100
          · exact .inr (.inr (.inr ⟨decide_eq_true (by omega), decide_eq_true (by omega), decide_eq_true (by omega), decide_eq_false (by omega)⟩))
          · exact .inr (.inr (.inl ⟨decide_eq_true (by omega), decide_eq_true (by omega), decide_eq_false (by omega)⟩))
        · exact .inr (.inl ⟨decide_eq_true (by omega), decide_eq_false (by omega)⟩)
      · exact .inl (decide_eq_false (by omega))
    clear hok
    unfold msgV
    rcases hb with g1 | ⟨g1, g2⟩ | ⟨g1, g2, g3⟩ | ⟨g1, g2, g3, g4⟩
    all_goals
      go_enter Tryz.func36, Tryz.ntmps36
      go_wp2_with fail
      go_ret
      exact ⟨_, rfl, (by simp), unhide HB⟩
  have g1 : decide ((me.size : Int) ≤ 40) = true := decide_eq_true (by omega)
  have g2 : decide ((ta.size : Int) ≤ 200) = true := decide_eq_true (by omega)
  have g3 : decide ((re.size : Int) ≤ 100) = true := decide_eq_true (by omega)
  have g4 : decide ((bo.size : Int) ≤ 400) = true := decide_eq_true (by omega)
  have HOK := hide hok
  clear hok
  unfold msgV
  go_enter Tryz.func36, Tryz.ntmps36
  go_wp2_with fail
  refine (unhide hl1 _ (unhide HB)).mono ?_; rintro e w1 ⟨r1, rfl, hr1, hb1⟩
  have HR1 := hide hr1
  have HB1 := hide ((unhide HB).trans (hb1.mono (unhide HB).size))
  have p7 := ((unhide H).call hb1).cell 7 _ rfl
  clear hb1 hr1
  cases r1
  · go_wp2_with fail
    go_ret
    exact ⟨_, rfl, (by simp), unhide HB1⟩
  go_wp2_with fail
  refine (unhide hl2 _ (unhide HB1)).mono ?_; rintro e w2 ⟨r2, rfl, hr2, hb2⟩
  have HR2 := hide hr2
  have HB2 := hide ((unhide HB1).trans (hb2.mono (unhide HB1).size))
  clear hb2 hr2
  go_wp2_with fail
  go_ret
  exact ⟨r2, rfl, fun h => by
    obtain ⟨a, b, c, d⟩ := unhide HOK
    exact ⟨a, b, c, d, unhide HR1 (by first | rfl | trivial), unhide HR2 h⟩, unhide HB2⟩

set_option maxRecDepth 100000 in
set_option maxHeartbeats 1000000 in
theorem light8_any (me ta re bo : ByteArray) (st mi : Int) (fs tr : Value) (F T : List Fld) (h1 : me.size ≤ 9223372036854775807) (h2 : ta.size ≤ 9223372036854775807) (h3 : re.size ≤ 9223372036854775807) (h4 : bo.size ≤ 9223372036854775807)
    (hF : F.length ≤ 9223372036854775807) (hT : T.length ≤ 9223372036854775807) (hf : ∀ f ∈ F, f.1.size ≤ 1000000000000000 ∧ f.2.size ≤ 1000000000000000) (ht : ∀ f ∈ T, f.1.size ≤ 1000000000000000 ∧ f.2.size ≤ 1000000000000000) (w : World) (hv : Rd w fs F.length 2 (fldV F)) (hu : Rd w tr T.length 2 (fldV T)) :
    Calls Tryz.prog 9 #[.agg (msgV me ta st re mi fs bo tr)] w (LightQ (LightA me ta re bo F T) w) := by
  have hc := hide (fun w' (h : Below w.heap.size w w') => lightA_any me ta re bo st mi fs tr F T h1 h2 h3 h4 hF hT hf ht w' (hv.below h) (hu.below h))
  have HB0 := hide (fun o => (Below.refl w.heap.size w).alloc (Nat.le_refl _) o)
  clear hv hu hf ht
  unfold msgV at hc ⊢
  unfold LightQ at hc ⊢
  go_enter Tryz.func9, Tryz.ntmps9
  go_wp2_with (go_at_call 36; refine (unhide hc _ (unhide HB0 _)).mono ?_; rintro e w2 ⟨r, rfl, hr, hb2⟩; have HR := hide hr; have HB2 := hide hb2; clear hr hb2)
  go_ret
  exact ⟨_, rfl, unhide HR, (unhide HB0 _).trans ((unhide HB2).mono (by simp))⟩
end Go.Proofs.YtbpopmbabckojaaGreatDoor.Sp

/- The walk of the law EmitCalls. -/
namespace Go.Proofs.YtbpopmbabckojaaGreatDoor.Sp
open Go.RowKit Sl

theorem few_nil : Few [] := ⟨by simp, by simp⟩
theorem res_closed (re bo m out : ByteArray) (st mi n : Int) (h3 : re.size ≤ 1000000) (h4 : bo.size ≤ 1000000) (h : resS ⟨#[]⟩ ⟨#[]⟩ re bo st mi [] [] m = (out, n)) (w : World) (hT : Pow10 w) :
    Calls Tryz.prog 11 #[.agg #[.string ⟨#[]⟩, .string ⟨#[]⟩, .int .i64 st, .string re, .int .i64 mi, .slice none 0 0, .string bo, .slice none 0 0], .string m] w fun e w' => e = .returned (.tuple #[.string out, .int .i64 n]) ∧ Below w.heap.size w w' := by
  refine (eres_any ⟨#[]⟩ ⟨#[]⟩ re bo m st mi (.slice none 0 0) (.slice none 0 0) [] [] (by decide) (by decide) h3 h4 (lineS_len _ _ _ _ _ (by decide) (by decide) h3) few_nil few_nil w hT (Rd.nil _ _) (Rd.nil _ _)).mono ?_
  rintro e w' ⟨he, hb⟩
  rw [h] at he
  exact ⟨he, hb⟩

theorem live1 : resS ⟨#[]⟩ ⟨#[]⟩ ⟨#[120]⟩ ⟨#[97]⟩ 204 1 [] [] ⟨#[71, 69, 84]⟩ = (⟨#[72, 84, 84, 80, 47, 49, 46, 49, 32, 50, 48, 52, 32, 120, 13, 10, 13, 10]⟩, 0) := by
  unfold resS emC lineS headM putS noneI headB
  simp only [Lib.toList_data]
  decide +kernel
theorem live2 : resS ⟨#[]⟩ ⟨#[]⟩ ⟨#[120]⟩ ⟨#[97]⟩ 200 1 [] [] ⟨#[71, 69, 84]⟩ = (⟨#[72, 84, 84, 80, 47, 49, 46, 49, 32, 50, 48, 48, 32, 120, 13, 10, 67, 111, 110, 116, 101, 110, 116, 45, 76, 101, 110, 103, 116, 104, 58, 32, 49, 13, 10, 13, 10, 97]⟩, 0) := by
  unfold resS emC lineS headM putS noneI headB
  simp only [Lib.toList_data]
  decide +kernel

set_option maxRecDepth 100000 in
set_option maxHeartbeats 1000000 in
theorem lives8_any (w : World) (hT : Pow10 w) : Calls Tryz.prog 8 #[] w fun e w' => e = .returned (.bool true) ∧ Below w.heap.size w w' := by
  have q1 := hide (res_closed _ _ _ _ _ _ _ (by decide) (by decide) live1 w hT)
  have q2 := hide (fun w1 (hb : Below w.heap.size w w1) => res_closed _ _ _ _ _ _ _ (by decide) (by decide) live2 w1 (hT.below hb))
  clear hT
  go_enter Tryz.func8, Tryz.ntmps8
  go_wp2_with fail
  refine (unhide q1).mono ?_; rintro e w1 ⟨rfl, hb1⟩
  have HB1 := hide hb1
  clear hb1
  go_wp2_with fail
  refine (unhide q2 _ (unhide HB1)).mono ?_; rintro e w2 ⟨rfl, hb2⟩
  have HB2 := hide ((unhide HB1).trans (hb2.mono (unhide HB1).size))
  clear hb2
  go_wp2_with fail
  go_ret
  exact ⟨rfl, unhide HB2⟩
end Go.Proofs.YtbpopmbabckojaaGreatDoor.Sp

/- Closed examples of the law EmitNames. -/
namespace Go.Proofs.YtbpopmbabckojaaGreatDoor.Sp
open Go.RowKit Sl

def hostF : Fld := (⟨#[72, 111, 115, 116]⟩, ⟨#[97]⟩)
def clenF : Fld := (⟨#[99, 111, 110, 116, 101, 110, 116, 45, 108, 101, 110, 103, 116, 104]⟩, ⟨#[49]⟩)
def tF : Fld := (⟨#[84]⟩, ⟨#[49]⟩)
theorem few_one (f : Fld) (h1 : f.1.size ≤ 2000) (h2 : f.2.size ≤ 2000) : Few [f] := ⟨by simp, fun g hg => by rw [List.mem_singleton] at hg; subst hg; exact ⟨h1, h2⟩⟩
theorem nx1 : reqS ⟨#[71, 69, 84]⟩ ⟨#[47]⟩ ⟨#[]⟩ ⟨#[]⟩ 0 1 [hostF] [] = (⟨#[71, 69, 84, 32, 47, 32, 72, 84, 84, 80, 47, 49, 46, 49, 13, 10, 72, 111, 115, 116, 58, 32, 97, 13, 10, 13, 10]⟩, 0) := by
  unfold reqS emC lineS headM putS postM chkS
  simp only [Lib.toList_data]
  decide +kernel
theorem nx2 : reqS ⟨#[80, 79, 83, 84]⟩ ⟨#[47]⟩ ⟨#[]⟩ ⟨#[]⟩ 0 1 [hostF] [] = (⟨#[80, 79, 83, 84, 32, 47, 32, 72, 84, 84, 80, 47, 49, 46, 49, 13, 10, 72, 111, 115, 116, 58, 32, 97, 13, 10, 67, 111, 110, 116, 101, 110, 116, 45, 76, 101, 110, 103, 116, 104, 58, 32, 48, 13, 10, 13, 10]⟩, 0) := by
  unfold reqS emC lineS headM putS postM chkS
  simp only [Lib.toList_data]
  decide +kernel
theorem nx3 : reqS ⟨#[]⟩ ⟨#[]⟩ ⟨#[]⟩ ⟨#[]⟩ 200 1 [] [] = (⟨#[]⟩, 4) := by
  unfold reqS emC lineS headM putS postM chkS
  simp only [Lib.toList_data]
  decide +kernel
theorem nx4 : resS ⟨#[71, 69, 84]⟩ ⟨#[47]⟩ ⟨#[]⟩ ⟨#[]⟩ 0 1 [hostF] [] ⟨#[71, 69, 84]⟩ = (⟨#[]⟩, 4) := by
  unfold resS emC lineS headM putS noneI headB chkS
  simp only [Lib.toList_data]
  decide +kernel
theorem nx5 : resS ⟨#[]⟩ ⟨#[]⟩ ⟨#[]⟩ ⟨#[97, 98, 99]⟩ 200 0 [] [] ⟨#[72, 69, 65, 68]⟩ = (⟨#[72, 84, 84, 80, 47, 49, 46, 48, 32, 50, 48, 48, 32, 13, 10, 67, 111, 110, 116, 101, 110, 116, 45, 76, 101, 110, 103, 116, 104, 58, 32, 51, 13, 10, 13, 10]⟩, 0) := by
  unfold resS emC lineS headM putS noneI headB chkS
  simp only [Lib.toList_data]
  decide +kernel
theorem nx8 : chuS ⟨#[]⟩ ⟨#[]⟩ ⟨#[]⟩ ⟨#[97, 98, 99]⟩ 200 1 [] [tF] 2 = (⟨#[72, 84, 84, 80, 47, 49, 46, 49, 32, 50, 48, 48, 32, 13, 10, 84, 114, 97, 110, 115, 102, 101, 114, 45, 69, 110, 99, 111, 100, 105, 110, 103, 58, 32, 99, 104, 117, 110, 107, 101, 100, 13, 10, 13, 10, 50, 13, 10, 97, 98, 13, 10, 49, 13, 10, 99, 13, 10, 48, 13, 10, 84, 58, 32, 49, 13, 10, 13, 10]⟩, 0) := by
  unfold chuS emC lineS headM putS noneI chkS
  simp only [Lib.toList_data]
  decide +kernel
theorem nx9 : chuS ⟨#[]⟩ ⟨#[]⟩ ⟨#[]⟩ ⟨#[]⟩ 204 1 [] [] 2 = (⟨#[]⟩, 4) := by
  unfold chuS emC lineS headM putS noneI chkS
  simp only [Lib.toList_data]
  decide +kernel
theorem nx10 : chuS ⟨#[]⟩ ⟨#[]⟩ ⟨#[]⟩ ⟨#[]⟩ 200 0 [] [] 2 = (⟨#[]⟩, 4) := by
  unfold chuS emC lineS headM putS noneI chkS
  simp only [Lib.toList_data]
  decide +kernel
theorem nx6 : emC ⟨#[71, 69, 84]⟩ ⟨#[47]⟩ ⟨#[]⟩ 0 1 [clenF] [] = 6 := by
  unfold emC lineS chkS
  simp only [Lib.toList_data]
  decide +kernel
theorem nx7 : emC ⟨#[]⟩ ⟨#[]⟩ ⟨#[]⟩ 0 0 [] [] = 4 := by
  unfold emC lineS chkS
  simp only [Lib.toList_data]
  decide +kernel
end Go.Proofs.YtbpopmbabckojaaGreatDoor.Sp
