/- Lemmas for the statement's proof, several texts in one: M5, M6, M7. -/
import Derived.Test.YtbpopmbabckojaaGreatDoorZ23
import Derived.Test.YtbpopmbabckojaaGreatDoorZ15
import Derived.Test.YtbpopmbabckojaaGreatDoorZ19
set_option linter.unusedVariables false
set_option linter.unusedSimpArgs false
/- emit.put: a message's head, a field more, bytes, into a builder. -/
section
namespace Go.Proofs.YtbpopmbabckojaaGreatDoor.Sp
open Go.RowKit Sl

def moreB (name value : ByteArray) : ByteArray := if name.toList.isEmpty = true then ⟨#[]⟩ else name ++ ⟨#[58, 32]⟩ ++ value
/-- what a call lays: bytes in a builder of block bb, all of the rest untouched -/
def Puts (B bb : Nat) (l : List UInt8) (w : World) (e : Ending) (w' : World) : Prop :=
  e = .returned (.tuple #[]) ∧ Lib.IsBuilder 68 5 B bb (Lib.byteCells l) w' ∧ Below B w w'

set_option maxRecDepth 100000 in
set_option maxHeartbeats 400000 in
theorem eput_any (me ta re bo name value body x y : ByteArray) (st mi n1 n2 : Int) (ao bo' : Option Addr) (k1 c1 k2 c2 : Nat) (B bb : Nat) (w : World) (hB : B ≤ w.heap.size)
    (hI : Lib.IsBuilder 68 5 B bb (Lib.byteCells []) w)
    (hx : ∀ w1, Below w.heap.size w w1 → Calls Tryz.prog 46 #[.agg (msgV me ta st re mi (.slice ao k1 c1) bo (.slice bo' k2 c2))] w1 fun e w' => e = .returned (.tuple #[.string x, .int .i64 n1]) ∧ Below w1.heap.size w1 w')
    (hy : ∀ w1, Below w.heap.size w w1 → Calls Tryz.prog 47 #[.slice ao k1 c1] w1 fun e w' => e = .returned (.tuple #[.string y, .int .i64 n2]) ∧ Below w1.heap.size w1 w')
    (zx : x.size ≤ 100000000) (zy : y.size ≤ 100000000) (zn : name.size ≤ 1000000) (zv : value.size ≤ 1000000) (zb : body.size ≤ 1000000) :
    Calls Tryz.prog 39 #[.pointer (some ⟨bb, 0, none⟩), .agg (msgV me ta st re mi (.slice ao k1 c1) bo (.slice bo' k2 c2)), .string name, .string value, .string body] w (Puts B bb (putS x y (moreB name value) body).data.toList w) := by
  have HX := hide hx
  have HY := hide hy
  have HI := hide (isB_call hI ((Below.refl w.heap.size w).alloc (Nat.le_refl _) (.cells #[.string me, .string ta, .int .i64 st, .string re, .int .i64 mi, .slice ao k1 c1, .string bo, .slice bo' k2 c2] 24)))
  clear hx hy hI
  unfold msgV at HX ⊢
  have HB := hide ((Below.refl w.heap.size w).alloc (Nat.le_refl _) (.cells #[.string me, .string ta, .int .i64 st, .string re, .int .i64 mi, .slice ao k1 c1, .string bo, .slice bo' k2 c2] 24))
  have H := hide (Reg.Has.at w w.heap.size [.string me, .string ta, .int .i64 st, .string re, .int .i64 mi, .slice ao k1 c1, .string bo, .slice bo' k2 c2] 24 rfl)
  have hcr : (⟨#[13, 10]⟩ : ByteArray).size = 2 := rfl
  have hco : (⟨#[58, 32]⟩ : ByteArray).size = 2 := rfl
  cases em : name.toList.isEmpty
  · go_enter Tryz.func39, Tryz.ntmps39
    go_wp2_with fail
    refine (unhide HX _ (unhide HB)).mono ?_; rintro e w1 ⟨rfl, hb1⟩
    have H1 := (unhide H).call hb1
    have p5 := H1.cell 5 _ rfl
    have HI1 := hide (isB_call (unhide HI) hb1)
    have HB1 := hide ((unhide HB).trans (hb1.mono (unhide HB).size))
    clear hb1 H1
    go_wp2_with fail
    refine (unhide HY _ (unhide HB1)).mono ?_; rintro e w2 ⟨rfl, hb2⟩
    have HI2 := hide (isB_call (unhide HI1) hb2)
    have HB2 := hide ((unhide HB1).trans (hb2.mono (unhide HB1).size))
    clear hb2 p5
    go_wp2_with fail
    have hs2 : B ≤ w2.heap.size := Nat.le_trans hB (unhide HB2).size
    have hz : ([] : List UInt8).length + (x ++ (⟨#[13, 10]⟩ : ByteArray) ++ y).size ≤ 140737488355328 := by simp; omega
    have hW := write_any B bb [] (x ++ (⟨#[13, 10]⟩ : ByteArray) ++ y) _ (unhide HI2) hz hs2
    refine hW.mono ?_
    clear hW
    rintro e w3 ⟨rfl, hi3, hb3⟩
    have HI3 := hide hi3
    have HB3 := hide (((unhide HB2).mono hB).trans hb3)
    clear hi3 hb3
    go_wp2_with fail
    have hs3 : B ≤ w3.heap.size := Nat.le_trans hB (unhide HB3).size
    have hz3 : (([] : List UInt8) ++ (x ++ (⟨#[13, 10]⟩ : ByteArray) ++ y).data.toList).length + (name ++ (⟨#[58, 32]⟩ : ByteArray) ++ value ++ (⟨#[13, 10]⟩ : ByteArray)).size ≤ 140737488355328 := by simp; omega
    have hW := write_any B bb (([] : List UInt8) ++ (x ++ (⟨#[13, 10]⟩ : ByteArray) ++ y).data.toList) (name ++ (⟨#[58, 32]⟩ : ByteArray) ++ value ++ (⟨#[13, 10]⟩ : ByteArray)) _ (unhide HI3) hz3 hs3
    refine hW.mono ?_
    clear hW
    rintro e w4 ⟨rfl, hi4, hb4⟩
    have HI4 := hide hi4
    have HB4 := hide ((unhide HB3).trans hb4)
    clear hi4 hb4
    go_wp2_with fail
    have hs4 : B ≤ w4.heap.size := Nat.le_trans hB (unhide HB4).size
    have hz4 : (([] : List UInt8) ++ (x ++ (⟨#[13, 10]⟩ : ByteArray) ++ y).data.toList ++ (name ++ (⟨#[58, 32]⟩ : ByteArray) ++ value ++ (⟨#[13, 10]⟩ : ByteArray)).data.toList).length + ((⟨#[13, 10]⟩ : ByteArray) ++ body).size ≤ 140737488355328 := by simp; omega
    have hW := write_any B bb (([] : List UInt8) ++ (x ++ (⟨#[13, 10]⟩ : ByteArray) ++ y).data.toList ++ (name ++ (⟨#[58, 32]⟩ : ByteArray) ++ value ++ (⟨#[13, 10]⟩ : ByteArray)).data.toList) ((⟨#[13, 10]⟩ : ByteArray) ++ body) _ (unhide HI4) hz4 hs4
    refine hW.mono ?_
    clear hW
    rintro e w5 ⟨rfl, hi5, hb5⟩
    have HI5 := hide hi5
    have HB5 := hide ((unhide HB4).trans hb5)
    clear hi5 hb5
    go_wp2_with fail
    first | go_end0 | refine bodyPost_ret (results_none rfl _ _ _) rfl ?_
    refine ⟨rfl, ?_, unhide HB5⟩
    have he : (putS x y (moreB name value) body).data.toList = ([] : List UInt8) ++ (x ++ (⟨#[13, 10]⟩ : ByteArray) ++ y).data.toList ++ (name ++ (⟨#[58, 32]⟩ : ByteArray) ++ value ++ (⟨#[13, 10]⟩ : ByteArray)).data.toList ++ ((⟨#[13, 10]⟩ : ByteArray) ++ body).data.toList := by
      have hne : (name ++ (⟨#[58, 32]⟩ : ByteArray) ++ value).toList.isEmpty = false := by rw [Lib.toList_data, app_data, app_data]; simp
      unfold putS moreB
      simp only [em, Bool.false_eq_true, if_false, hne]
      simp [app_data, crlfB]
    rw [he]
    exact unhide HI5
  · go_enter Tryz.func39, Tryz.ntmps39
    go_wp2_with fail
    refine (unhide HX _ (unhide HB)).mono ?_; rintro e w1 ⟨rfl, hb1⟩
    have H1 := (unhide H).call hb1
    have p5 := H1.cell 5 _ rfl
    have HI1 := hide (isB_call (unhide HI) hb1)
    have HB1 := hide ((unhide HB).trans (hb1.mono (unhide HB).size))
    clear hb1 H1
    go_wp2_with fail
    refine (unhide HY _ (unhide HB1)).mono ?_; rintro e w2 ⟨rfl, hb2⟩
    have HI2 := hide (isB_call (unhide HI1) hb2)
    have HB2 := hide ((unhide HB1).trans (hb2.mono (unhide HB1).size))
    clear hb2 p5
    go_wp2_with fail
    have hs2 : B ≤ w2.heap.size := Nat.le_trans hB (unhide HB2).size
    have hz : ([] : List UInt8).length + (x ++ (⟨#[13, 10]⟩ : ByteArray) ++ y).size ≤ 140737488355328 := by simp; omega
    have hW := write_any B bb [] (x ++ (⟨#[13, 10]⟩ : ByteArray) ++ y) _ (unhide HI2) hz hs2
    refine hW.mono ?_
    clear hW
    rintro e w3 ⟨rfl, hi3, hb3⟩
    have HI3 := hide hi3
    have HB3 := hide (((unhide HB2).mono hB).trans hb3)
    clear hi3 hb3
    go_wp2_with fail
    have hs3 : B ≤ w3.heap.size := Nat.le_trans hB (unhide HB3).size
    have hz3 : (([] : List UInt8) ++ (x ++ (⟨#[13, 10]⟩ : ByteArray) ++ y).data.toList).length + ((⟨#[13, 10]⟩ : ByteArray) ++ body).size ≤ 140737488355328 := by simp; omega
    have hW := write_any B bb (([] : List UInt8) ++ (x ++ (⟨#[13, 10]⟩ : ByteArray) ++ y).data.toList) ((⟨#[13, 10]⟩ : ByteArray) ++ body) _ (unhide HI3) hz3 hs3
    refine hW.mono ?_
    clear hW
    rintro e w4 ⟨rfl, hi4, hb4⟩
    have HI4 := hide hi4
    have HB4 := hide ((unhide HB3).trans hb4)
    clear hi4 hb4
    go_wp2_with fail
    first | go_end0 | refine bodyPost_ret (results_none rfl _ _ _) rfl ?_
    refine ⟨rfl, ?_, unhide HB4⟩
    have he : (putS x y (moreB name value) body).data.toList = ([] : List UInt8) ++ (x ++ (⟨#[13, 10]⟩ : ByteArray) ++ y).data.toList ++ ((⟨#[13, 10]⟩ : ByteArray) ++ body).data.toList := by
      simp [putS, moreB, em, app_data, crlfB]
    rw [he]
    exact unhide HI4
end Go.Proofs.YtbpopmbabckojaaGreatDoor.Sp
end

/- emit.Check, both sides. -/
section
namespace Go.Proofs.YtbpopmbabckojaaGreatDoor.Sp
open Go.RowKit Sl

theorem emC_bad {me ta re : ByteArray} {st mi : Int} {F T : List Fld} (h : ¬ ((lineS me ta re st mi).2 = 0 ∧ F.all chkS = true ∧ T.all chkS = true)) : emC me ta re st mi F T = 4 := by unfold emC; rw [if_neg h]
theorem emC_ok {me ta re : ByteArray} {st mi : Int} {F T : List Fld} (h : (lineS me ta re st mi).2 = 0 ∧ F.all chkS = true ∧ T.all chkS = true) : emC me ta re st mi F T = if (allB F clB).isEmpty = true ∧ (allB F teB).isEmpty = true then 0 else 6 := by unfold emC; rw [if_pos h]
def Few3 (L : List Fld) : Prop := L.length ≤ 100 ∧ ∀ f ∈ L, f.1.size ≤ 2000 ∧ f.2.size ≤ 2000

set_option maxRecDepth 100000 in
set_option maxHeartbeats 4000000 in
theorem echeck_any (me ta re bo : ByteArray) (st mi : Int) (fs tr : Value) (F T : List Fld) (h1 : me.size ≤ 1000000) (h2 : ta.size ≤ 1000000) (h3 : re.size ≤ 1000000) (hF : Few F) (hTr : Few T) (w : World) (hT : Pow10 w)
    (hv : Rd w fs F.length 2 (fldV F)) (hu : Rd w tr T.length 2 (fldV T)) :
    Calls Tryz.prog 24 #[.agg (msgV me ta st re mi fs bo tr)] w fun e w' => e = .returned (.int .i64 (emC me ta re st mi F T)) ∧ Below w.heap.size w w' := by
  obtain ⟨ao, c1, rfl⟩ := hv.form
  obtain ⟨bo', c2, rfl⟩ := hu.form
  have q0 := hide (fun w1 (hb : Below w.heap.size w w1) => eline_any me ta re bo st mi ao bo' F.length c1 T.length c2 h1 h2 h3 w1 (hT.below hb))
  have q1 := hide (fun w1 (hb : Below w.heap.size w w1) => bytes_any _ F (by have := hF.1; omega) (fun f hf => by have := hF.2 f hf; omega) w1 (hv.below hb))
  have q2 := hide (fun w1 (hb : Below w.heap.size w w1) => bytes_any _ T (by have := hTr.1; omega) (fun f hf => by have := hTr.2 f hf; omega) w1 (hu.below hb))
  have q3 := hide (fun w1 (hb : Below w.heap.size w w1) => fget_any _ F clB hF (by decide) w1 (hv.below hb))
  have q4 := hide (fun w1 (hb : Below w.heap.size w w1) => fget_any _ F teB hF (by decide) w1 (hv.below hb))
  clear hv hu hT
  have HB := hide ((Below.refl w.heap.size w).alloc (Nat.le_refl _) (.cells #[.string me, .string ta, .int .i64 st, .string re, .int .i64 mi, .slice ao F.length c1, .string bo, .slice bo' T.length c2] 24))
  have H := hide (Reg.Has.at w w.heap.size [.string me, .string ta, .int .i64 st, .string re, .int .i64 mi, .slice ao F.length c1, .string bo, .slice bo' T.length c2] 24 rfl)
  unfold LineOut at q0
  unfold msgV at q0 ⊢
  rcases lineS_cases me ta re st mi with hl | hl
  rotate_left
  · have hc := Lib.hid (emC_bad (F := F) (T := T) (fun h => by rw [hl] at h; exact absurd h.1 (by decide)))
    rw [hl] at q0
    clear hl
    go_enter Tryz.func24, Tryz.ntmps24
    go_wp2_with fail
    refine (unhide q0 _ (unhide HB)).mono ?_; rintro e w1 ⟨rfl, hb1⟩
    have HB1 := hide ((unhide HB).trans (hb1.mono (unhide HB).size))
    clear hb1
    go_wp2_with fail
    go_ret
    exact ⟨by rw [hc.out]; rfl, unhide HB1⟩
  have HC := hide (fun (hf : F.all chkS = true) (ht : T.all chkS = true) => emC_ok (me := me) (ta := ta) (re := re) (st := st) (mi := mi) (F := F) (T := T) ⟨hl, hf, ht⟩)
  have HD := hide (fun (hf : F.all chkS = false ∨ T.all chkS = false) => emC_bad (me := me) (ta := ta) (re := re) (st := st) (mi := mi) (F := F) (T := T) (fun hh => by rcases hf with hf | hf <;> simp [hf] at hh))
  rw [hl] at q0
  clear hl
  generalize ofL (lineS me ta re st mi).1 = x at q0
  generalize hem : emC me ta re st mi F T = em at HC HD
  go_enter Tryz.func24, Tryz.ntmps24
  go_wp2_with fail
  refine (unhide q0 _ (unhide HB)).mono ?_; rintro e w1 ⟨rfl, hb1⟩
  have HB1 := hide ((unhide HB).trans (hb1.mono (unhide HB).size))
  have H1 := hide ((unhide H).call hb1)
  have p5 := (unhide H1).cell 5 _ rfl
  have p7 := (unhide H1).cell 7 _ rfl
  clear hb1
  go_wp2_with fail
  have H2 := hide (Reg.Has.at w1 w1.heap.size [.slice ao F.length c1, .slice bo' T.length c2] 22 rfl)
  have H3 := hide ((unhide H1).alloc (.cells #[.slice ao F.length c1, .slice bo' T.length c2] 22))
  have HB2 := hide ((unhide HB1).alloc (unhide HB1).size (.cells #[.slice ao F.length c1, .slice bo' T.length c2] 22))
  generalize hw2 : w1.alloc (.cells #[.slice ao F.length c1, .slice bo' T.length c2] 22) = w2 at *
  clear hw2 p5 p7
  generalize hb2 : w1.heap.size = b2 at *
  clear hb2 H1 HB1
  go_loopw [27] (fun i wr => ∃ k : Nat, i = .int .i64 k ∧ k ≤ 2 ∧ (1 ≤ k → F.all chkS = true) ∧ (2 ≤ k → T.all chkS = true) ∧ Reg.Has wr b2 [.slice ao F.length c1, .slice bo' T.length c2] ∧ Reg.Has wr w.heap.size [.string me, .string ta, .int .i64 st, .string re, .int .i64 mi, .slice ao F.length c1, .string bo, .slice bo' T.length c2] ∧ Below w.heap.size w wr) (fun i _ => 2 - (intOf i).toNat)
  case atStart => exact ⟨0, rfl, by omega, by omega, by omega, unhide H2, unhide H3, unhide HB2⟩
  case round =>
    clear H2 H3 HB2 H HB
    obtain ⟨k, rfl, hk, r1, r2, g1, g2, g3⟩ := hrel
    have R1 := hide r1
    have R2 := hide r2
    have G1 := hide g1
    have G2 := hide g2
    have G3 := hide g3
    clear r1 r2 g1 g2
    rcases (by omega : k = 0 ∨ k = 1 ∨ k = 2) with rfl | rfl | hk2
    · have p0 := (unhide G1).cell 0 _ rfl
      unfold BytesO at q1
      obtain ⟨b, hfa⟩ : ∃ b, F.all chkS = b := ⟨_, rfl⟩
      cases b
      · have HE := Lib.hid (unhide HD (.inl hfa))
        rw [hfa] at q1
        simp only [Bool.false_eq_true, if_false, errI] at q1
        go_wp2_with fail
        refine (unhide q1 _ (unhide G3)).mono ?_; rintro e w3 ⟨rfl, hb3⟩
        have HB3 := hide ((unhide G3).trans (hb3.mono (unhide G3).size))
        clear hb3
        go_wp2_with fail
        go_ret
        exact ⟨by rw [HE.out]; rfl, unhide HB3⟩
      · rw [hfa] at q1
        simp only [if_true, errI] at q1
        generalize ofL (linesL F) = y at q1
        have HFA := Lib.hid hfa
        clear hfa
        go_wp2_with fail
        refine (unhide q1 _ (unhide G3)).mono ?_; rintro e w3 ⟨rfl, hb3⟩
        have G1b := hide ((unhide G1).call hb3)
        have G2b := hide ((unhide G2).call hb3)
        have HB3 := hide ((unhide G3).trans (hb3.mono (unhide G3).size))
        clear hb3
        go_wp2_with fail
        go_roundw
        case rel => exact ⟨1, by go_num, by omega, fun _ => (by first | trivial | exact HFA.out), by omega, unhide G1b, unhide G2b, unhide HB3⟩
        case measure => simp [intOf]
    · have p0 := (unhide G1).cell 1 _ rfl
      unfold BytesO at q2
      obtain ⟨b, hfa⟩ : ∃ b, T.all chkS = b := ⟨_, rfl⟩
      cases b
      · have HE := Lib.hid (unhide HD (.inr hfa))
        rw [hfa] at q2
        simp only [Bool.false_eq_true, if_false, errI] at q2
        go_wp2_with fail
        refine (unhide q2 _ (unhide G3)).mono ?_; rintro e w3 ⟨rfl, hb3⟩
        have HB3 := hide ((unhide G3).trans (hb3.mono (unhide G3).size))
        clear hb3
        go_wp2_with fail
        go_ret
        exact ⟨by rw [HE.out]; rfl, unhide HB3⟩
      · rw [hfa] at q2
        simp only [if_true, errI] at q2
        generalize ofL (linesL T) = y at q2
        have HFA := Lib.hid hfa
        clear hfa
        go_wp2_with fail
        refine (unhide q2 _ (unhide G3)).mono ?_; rintro e w3 ⟨rfl, hb3⟩
        have G1b := hide ((unhide G1).call hb3)
        have G2b := hide ((unhide G2).call hb3)
        have HB3 := hide ((unhide G3).trans (hb3.mono (unhide G3).size))
        clear hb3
        go_wp2_with fail
        go_roundw
        case rel => exact ⟨2, by go_num, by omega, fun _ => unhide R1 (by omega), fun _ => (by first | trivial | exact HFA.out), unhide G1b, unhide G2b, unhide HB3⟩
        case measure => simp [intOf]
    · have HE := Lib.hid (unhide HC (unhide R1 (by omega)) (unhide R2 (by omega)))
      have hkb : decide ((k : Int) < 2) = false := decide_eq_false (by omega)
      clear hk2 hk
      clear HC HD R1 R2 q0 q1 q2 G1
      go_wp2_with fail
      have H2 := hide (Reg.Has.at wr wr.heap.size [.string ⟨#[67, 111, 110, 116, 101, 110, 116, 45, 76, 101, 110, 103, 116, 104]⟩, .string ⟨#[84, 114, 97, 110, 115, 102, 101, 114, 45, 69, 110, 99, 111, 100, 105, 110, 103]⟩] 9 rfl)
      have H3 := hide ((unhide G2).alloc (.cells #[.string ⟨#[67, 111, 110, 116, 101, 110, 116, 45, 76, 101, 110, 103, 116, 104]⟩, .string ⟨#[84, 114, 97, 110, 115, 102, 101, 114, 45, 69, 110, 99, 111, 100, 105, 110, 103]⟩] 9))
      have HB2 := hide ((unhide G3).alloc (unhide G3).size (.cells #[.string ⟨#[67, 111, 110, 116, 101, 110, 116, 45, 76, 101, 110, 103, 116, 104]⟩, .string ⟨#[84, 114, 97, 110, 115, 102, 101, 114, 45, 69, 110, 99, 111, 100, 105, 110, 103]⟩] 9))
      generalize hw2 : wr.alloc (.cells #[.string ⟨#[67, 111, 110, 116, 101, 110, 116, 45, 76, 101, 110, 103, 116, 104]⟩, .string ⟨#[84, 114, 97, 110, 115, 102, 101, 114, 45, 69, 110, 99, 111, 100, 105, 110, 103]⟩] 9) = w2 at *
      clear hw2
      generalize hb3 : wr.heap.size = b3 at *
      clear hb3 G2 G3 g3
      go_loopw [42] (fun i wr => ∃ k : Nat, i = .int .i64 k ∧ k ≤ 2 ∧ ((1 ≤ k → (allB F clB).isEmpty = true) ∧ (2 ≤ k → (allB F teB).isEmpty = true)) ∧ Reg.Has wr b3 [.string ⟨#[67, 111, 110, 116, 101, 110, 116, 45, 76, 101, 110, 103, 116, 104]⟩, .string ⟨#[84, 114, 97, 110, 115, 102, 101, 114, 45, 69, 110, 99, 111, 100, 105, 110, 103]⟩] ∧ Reg.Has wr w.heap.size [.string me, .string ta, .int .i64 st, .string re, .int .i64 mi, .slice ao F.length c1, .string bo, .slice bo' T.length c2] ∧ Below w.heap.size w wr) (fun i _ => 2 - (intOf i).toNat)
      case atStart => exact ⟨0, rfl, by omega, ⟨by omega, by omega⟩, unhide H2, unhide H3, unhide HB2⟩
      case round =>
        clear H2 H3 HB2
        obtain ⟨k, rfl, hk, r12, g1, g2, g3⟩ := hrel
        have R12 := hide r12
        have G1 := hide g1
        have G2 := hide g2
        have G3 := hide g3
        clear r12 g1 g2
        rcases (by omega : k = 0 ∨ k = 1 ∨ k = 2) with rfl | rfl | rfl
        · have p0 := (unhide G1).cell 0 _ rfl
          have p5 := (unhide G2).cell 5 _ rfl
          obtain ⟨b, hq⟩ : ∃ b, (allB F clB).isEmpty = b := ⟨_, rfl⟩
          cases b
          · rw [hq] at q3
            have HE2 := Lib.hid (show em = 6 by rw [HE.out, if_neg (by rw [hq]; simp)])
            clear hq
            go_wp2_with fail
            refine (unhide q3 _ (unhide G3)).mono ?_; rintro e w3 ⟨rfl, hb3⟩
            have HB3 := hide ((unhide G3).trans (hb3.mono (unhide G3).size))
            clear hb3
            go_wp2_with fail
            go_ret
            exact ⟨by rw [HE2.out]; rfl, unhide HB3⟩
          · rw [hq] at q3
            have HQ := Lib.hid hq
            clear hq
            go_wp2_with fail
            refine (unhide q3 _ (unhide G3)).mono ?_; rintro e w3 ⟨rfl, hb3⟩
            have G1b := hide ((unhide G1).call hb3)
            have G2b := hide ((unhide G2).call hb3)
            have HB3 := hide ((unhide G3).trans (hb3.mono (unhide G3).size))
            clear hb3
            go_wp2_with fail
            go_roundw
            case rel => exact ⟨1, by go_num, by omega, ⟨fun _ => (by first | trivial | exact HQ.out), by omega⟩, unhide G1b, unhide G2b, unhide HB3⟩
            case measure => simp [intOf]
        · have p0 := (unhide G1).cell 1 _ rfl
          have p5 := (unhide G2).cell 5 _ rfl
          obtain ⟨b, hq⟩ : ∃ b, (allB F teB).isEmpty = b := ⟨_, rfl⟩
          cases b
          · rw [hq] at q4
            have HE2 := Lib.hid (show em = 6 by rw [HE.out, if_neg (by rw [hq]; simp)])
            clear hq
            go_wp2_with fail
            refine (unhide q4 _ (unhide G3)).mono ?_; rintro e w3 ⟨rfl, hb3⟩
            have HB3 := hide ((unhide G3).trans (hb3.mono (unhide G3).size))
            clear hb3
            go_wp2_with fail
            go_ret
            exact ⟨by rw [HE2.out]; rfl, unhide HB3⟩
          · rw [hq] at q4
            have HQ := Lib.hid hq
            clear hq
            go_wp2_with fail
            refine (unhide q4 _ (unhide G3)).mono ?_; rintro e w3 ⟨rfl, hb3⟩
            have G1b := hide ((unhide G1).call hb3)
            have G2b := hide ((unhide G2).call hb3)
            have HB3 := hide ((unhide G3).trans (hb3.mono (unhide G3).size))
            clear hb3
            go_wp2_with fail
            go_roundw
            case rel => exact ⟨2, by go_num, by omega, ⟨fun _ => (unhide R12).1 (by omega), fun _ => (by first | trivial | exact HQ.out)⟩, unhide G1b, unhide G2b, unhide HB3⟩
            case measure => simp [intOf]
        · have HE2 := Lib.hid (show em = 0 by rw [HE.out, if_pos ⟨(unhide R12).1 (by omega), (unhide R12).2 (by omega)⟩])
          go_wp2_with fail
          go_ret
          exact ⟨by rw [HE2.out]; rfl, unhide G3⟩
end Go.Proofs.YtbpopmbabckojaaGreatDoor.Sp
end

/- ref08.Check. -/
section
namespace Go.Proofs.YtbpopmbabckojaaGreatDoor.Sp
open Go.RowKit Sl

set_option maxRecDepth 100000 in
set_option maxHeartbeats 4000000 in
theorem rcheck8_any (me ta re bo : ByteArray) (st mi : Int) (fs tr : Value) (F T : List Fld) (h1 : me.size ≤ 1000000) (h2 : ta.size ≤ 1000000) (h3 : re.size ≤ 1000000) (hF : Few F) (hTr : Few T) (w : World)
    (hv : Rd w fs F.length 2 (fldV F)) (hu : Rd w tr T.length 2 (fldV T)) :
    Calls Tryz.prog 33 #[.agg (msgV me ta st re mi fs bo tr)] w fun e w' => e = .returned (.int .i64 (emC me ta re st mi F T)) ∧ Below w.heap.size w w' := by
  obtain ⟨ao, c1, rfl⟩ := hv.form
  obtain ⟨bo', c2, rfl⟩ := hu.form
  have q0 := hide (fun w1 => r8line_any me ta re bo st mi ao bo' F.length c1 T.length c2 h1 h2 h3 w1)
  have q1 := hide (fun w1 (hb : Below w.heap.size w w1) => rbytes_any _ F (by have := hF.1; omega) (fun f hf => by have := hF.2 f hf; omega) w1 (hv.below hb))
  have q2 := hide (fun w1 (hb : Below w.heap.size w w1) => rbytes_any _ T (by have := hTr.1; omega) (fun f hf => by have := hTr.2 f hf; omega) w1 (hu.below hb))
  have q3 := hide (fun w1 (hb : Below w.heap.size w w1) => rall_any _ F clB hF (by decide) w1 (hv.below hb))
  have q4 := hide (fun w1 (hb : Below w.heap.size w w1) => rall_any _ F teB hF (by decide) w1 (hv.below hb))
  have hn1 := allB_len F clB
  have hn2 := allB_len F teB
  have hF1 := hF.1
  clear hv hu
  have HB := hide ((Below.refl w.heap.size w).alloc (Nat.le_refl _) (.cells #[.string me, .string ta, .int .i64 st, .string re, .int .i64 mi, .slice ao F.length c1, .string bo, .slice bo' T.length c2] 24))
  have H := hide (Reg.Has.at w w.heap.size [.string me, .string ta, .int .i64 st, .string re, .int .i64 mi, .slice ao F.length c1, .string bo, .slice bo' T.length c2] 24 rfl)
  unfold LineOut at q0
  unfold msgV at q0 ⊢
  unfold BytesO errI at q1 q2
  unfold RetS at q3 q4
  obtain ⟨ln, hln⟩ : ∃ n, (lineS me ta re st mi).2 = n := ⟨_, rfl⟩
  obtain ⟨fa, hfa⟩ : ∃ b, F.all chkS = b := ⟨_, rfl⟩
  obtain ⟨tb, htb⟩ : ∃ b, T.all chkS = b := ⟨_, rfl⟩
  obtain ⟨em, hem⟩ : ∃ n, emC me ta re st mi F T = n := ⟨_, rfl⟩
  have hl : ln = 0 ∨ ln = 4 := by rw [← hln]; exact lineS_cases me ta re st mi
  have HC : Hid (ln = 0 → fa = true → tb = true → em = if (allB F clB).isEmpty = true ∧ (allB F teB).isEmpty = true then 0 else 6) := hide (by
    intro a b c; rw [← hem]; exact emC_ok ⟨by rw [hln, a], by rw [hfa, b], by rw [htb, c]⟩)
  have HD : Hid (¬ (ln = 0 ∧ fa = true ∧ tb = true) → em = 4) := hide (by
    intro a; rw [← hem]; exact emC_bad (by rw [hln, hfa, htb]; exact a))
  rw [hln] at q0
  rw [hfa] at q1
  rw [htb] at q2
  rw [hem]
  generalize ofL (lineS me ta re st mi).1 = x at q0
  generalize (if fa = true then ofL (linesL F) else (⟨#[]⟩ : ByteArray)) = y at q1
  generalize (if tb = true then ofL (linesL T) else (⟨#[]⟩ : ByteArray)) = z at q2
  obtain ⟨f1, hf1⟩ : ∃ n, (if fa = true then (0 : Int) else 4) = n := ⟨_, rfl⟩
  obtain ⟨f2, hf2⟩ : ∃ n, (if tb = true then (0 : Int) else 4) = n := ⟨_, rfl⟩
  rw [hf1] at q1
  rw [hf2] at q2
  have HF1 := Lib.hid hf1
  have HF2 := Lib.hid hf2
  clear hf1 hf2
  generalize hA : allB F clB = A at *
  generalize hB' : allB F teB = B at *
  clear hln hfa htb hem hF hTr h1 h2 h3 hA hB'
  have HL : Hid (ln = 0 ∨ ln = 4) := hide hl
  clear hl
  go_enter Tryz.func33, Tryz.ntmps33
  go_wp2_with fail
  refine (unhide q0 _).mono ?_; rintro e w1 ⟨rfl, hb1⟩
  have HB1 := hide ((unhide HB).trans (hb1.mono (unhide HB).size))
  have H1 := hide ((unhide H).call hb1)
  have p5 := (unhide H1).cell 5 _ rfl
  clear hb1
  go_wp2_with fail
  refine (unhide q1 _ (unhide HB1)).mono ?_; rintro e w2 ⟨rfl, hb2⟩
  have HB2 := hide ((unhide HB1).trans (hb2.mono (unhide HB1).size))
  have H2 := hide ((unhide H1).call hb2)
  have p7 := (unhide H2).cell 7 _ rfl
  clear hb2 p5
  go_wp2_with fail
  refine (unhide q2 _ (unhide HB2)).mono ?_; rintro e w3 ⟨rfl, hb3⟩
  have HB3 := hide ((unhide HB2).trans (hb3.mono (unhide HB2).size))
  have H3 := hide ((unhide H2).call hb3)
  have p5 := (unhide H3).cell 5 _ rfl
  have z5 := (unhide H3).lt
  clear hb3 p7 q0 q1 q2 HB HB1 HB2 H H1 H2
  by_cases hok : ln = 0 ∧ fa = true ∧ tb = true
  rotate_left
  · have HE := Lib.hid (unhide HD hok)
    have hb : (ln = 4) ∨ (ln = 0 ∧ f1 = 4) ∨ (ln = 0 ∧ f1 = 0 ∧ f2 = 4) := by
      rw [← HF1.out, ← HF2.out]
      rcases unhide HL with rfl | rfl
      · cases fa
        · exact .inr (.inl ⟨rfl, rfl⟩)
        · cases tb
          · exact .inr (.inr ⟨rfl, rfl, rfl⟩)
          · exact absurd ⟨rfl, rfl, rfl⟩ hok
      · exact .inl rfl
    clear hok HC HD HF1 HF2 HL
    rcases hb with rfl | ⟨rfl, rfl⟩ | ⟨rfl, rfl, rfl⟩
    all_goals
      go_wp2_with fail
      go_ret
      exact ⟨by rw [HE.out] <;> rfl, unhide HB3⟩
  obtain ⟨rfl, rfl, rfl⟩ := hok
  obtain rfl : f1 = 0 := HF1.out.symm.trans (if_pos rfl)
  obtain rfl : f2 = 0 := HF2.out.symm.trans (if_pos rfl)
  have HE := hide (unhide HC rfl rfl rfl)
  clear HC HD HL HF1 HF2
  go_upto_region 6 with fail
  have BW := hide (Below.drew (Below.refl w3.heap.size w3))
  refine Reg.region_mix [0, 1, 4, 5, 2, 3, 6, 7, 8, 9] (by kernel_rfl) (by kernel_rfl) (by kernel_rfl) (by decide) (by intro c a d v w h; cases d <;> exact h) ?_
  simp only [Reg.pickL, List.getElem?_cons_zero, List.getElem?_cons_succ]
  refine Reg.mix_take 4 (by kernel_rfl) ?_
  simp only [List.take_succ_cons, List.take_zero, List.drop_succ_cons, List.drop_zero]
  repeat (go_big_quiet_step (fail))
  refine wpQuiet_nil ?_
  refine Reg.mix_one (by kernel_rfl) ?_
  go_wp2_with ((go_at_call 25; refine (unhide q3 _ ((unhide HB3).trans ((unhide BW).mono (unhide HB3).size))).mono ?_; rintro e w4 ⟨v4, rfl, ho4, hb4⟩; obtain ⟨ao4, cp4, rfl⟩ := (Rd.own ho4).form; have BW := hide ((unhide BW).trans (hb4.mono (unhide BW).size)); clear hb4 ho4))
  refine ⟨rfl, ⟨⟨_, unhide BW⟩, rfl⟩, ?_⟩
  refine Reg.mix_take 1 (by kernel_rfl) ?_
  simp only [List.take_succ_cons, List.take_zero, List.drop_succ_cons, List.drop_zero]
  repeat (go_big_quiet_step (fail))
  refine wpQuiet_nil ?_
  refine Reg.mix_one (by kernel_rfl) ?_
  go_wp2_with ((go_at_call 25; refine (unhide q4 _ ((unhide HB3).trans ((unhide BW).mono (unhide HB3).size))).mono ?_; rintro e w5 ⟨v5, rfl, ho5, hb5⟩; obtain ⟨ao5, cp5, rfl⟩ := (Rd.own ho5).form; have BW := hide ((unhide BW).trans (hb5.mono (unhide BW).size)); clear hb5 ho5))
  refine ⟨rfl, ⟨⟨_, unhide BW⟩, rfl⟩, ?_⟩
  have hw : wrap64 ((A.length : Int) + (B.length : Int)) = (A.length : Int) + (B.length : Int) := by unfold wrap64; omega
  have HBx := hide ((unhide HB3).trans ((unhide BW).mono (unhide HB3).size))
  by_cases hz : A.isEmpty = true ∧ B.isEmpty = true
  · have HE2 := Lib.hid (show em = 0 by rw [unhide HE, if_pos hz])
    have hd : decide ((0 : Int) < (A.length : Int) + (B.length : Int)) = false := by
      rw [List.isEmpty_iff, List.isEmpty_iff] at hz
      rw [hz.1, hz.2]; rfl
    clear hz HE
    refine Reg.mix_take 3 (by kernel_rfl) ?_
    simp only [List.take_succ_cons, List.take_zero, List.drop_succ_cons, List.drop_zero]
    repeat (go_big_quiet_step (fail))
    refine wpQuiet_nil ?_
    refine Reg.mix_nil ?_
    go_wp2_with fail
    go_ret
    exact ⟨by rw [HE2.out] <;> rfl, unhide HBx⟩
  · have HE2 := Lib.hid (show em = 6 by rw [unhide HE, if_neg hz])
    have hd : decide ((0 : Int) < (A.length : Int) + (B.length : Int)) = true := by
      refine decide_eq_true ?_
      rcases A with _ | ⟨a, A⟩
      · rcases B with _ | ⟨b, B⟩
        · exact absurd ⟨rfl, rfl⟩ hz
        · first | (simp; done) | (simp; omega)
      · first | (simp; done) | (simp; omega)
    clear hz HE
    refine Reg.mix_take 3 (by kernel_rfl) ?_
    simp only [List.take_succ_cons, List.take_zero, List.drop_succ_cons, List.drop_zero]
    repeat (go_big_quiet_step (fail))
    refine wpQuiet_nil ?_
    refine Reg.mix_nil ?_
    go_wp2_with fail
    go_ret
    exact ⟨by rw [HE2.out] <;> rfl, unhide HBx⟩
end Go.Proofs.YtbpopmbabckojaaGreatDoor.Sp
end
