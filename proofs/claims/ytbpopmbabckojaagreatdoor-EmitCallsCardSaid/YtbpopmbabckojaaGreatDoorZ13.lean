/- Lemmas for the statement's proof, several texts in one: M16, M17, Lf, M18, M19, L1, C21, Frame. -/
import Derived.Test.YtbpopmbabckojaaGreatDoorZ11
import Derived.Test.YtbpopmbabckojaaGreatDoorZ12
import Derived.Test.YtbpopmbabckojaaGreatDoorZ08
import Derived.Test.YtbpopmbabckojaaGreatDoorZ07
import Derived.Test.YtbpopmbabckojaaGreatDoorZ01
import Derived.Test.YtbpopmbabckojaaGreatDoorZ06
import Derived.Test.YtbpopmbabckojaaGreatDoorZ04
import Derived.Test.YtbpopmbabckojaaGreatDoorZ10
import Derived.LaidSub
import Derived.LaidLaws
import Derived.Lib.TrailingZeros
import Derived.Lib.LaidTab
import Derived.ProofKit
import Derived.OpenShut
import Derived.Deep.SlicePairs
import Derived.SizedLaws
import Derived.Lib.SmallJoins
import Derived.Test.YtbpopmbabckojaaGreatDoorRows
import Derived.WalkKit
import Derived.Below
import Derived.Carry
/- emit.Plain, ref08.Plain; the reference's Same of messages. -/
namespace Go.Proofs.YtbpopmbabckojaaGreatDoor.Sp
open Go.RowKit Sl

def ctF : Fld := (⟨#[67, 111, 110, 116, 101, 110, 116, 45, 84, 121, 112, 101]⟩, ⟨#[116, 101, 120, 116, 47, 112, 108, 97, 105, 110]⟩)
def plainB (st : Int) : ByteArray := itoaB st ++ ⟨#[32]⟩ ++ reasonB st ++ ⟨#[10]⟩
def plainA (st : Int) (fs : Value) : Array Value := #[.string ⟨#[]⟩, .string ⟨#[]⟩, .int .i64 st, .string (reasonB st), .int .i64 1, fs, .string (plainB st), .slice none 0 0]
theorem plainA_msg (st : Int) (fs : Value) : plainA st fs = msgV ⟨#[]⟩ ⟨#[]⟩ st (reasonB st) 1 fs (plainB st) (.slice none 0 0) := rfl
def PlainO (st : Int) (w : World) (e : Ending) (w' : World) : Prop :=
  ∃ b, e = .returned (.agg (plainA st (.slice (some ⟨b, 0, none⟩) 1 1))) ∧ Rd w' (.slice (some ⟨b, 0, none⟩) 1 1) 1 2 (fldV [ctF]) ∧ Below w.heap.size w w'
theorem reasonB_size (st : Int) : (reasonB st).size ≤ 40 := by
  have h : ∀ (c : Prop) [Decidable c] (a b : ByteArray), a.size ≤ 40 → b.size ≤ 40 → (if c then a else b).size ≤ 40 := by intros; split <;> assumption
  unfold reasonB
  repeat (refine h _ _ _ (by decide) ?_)
  decide
theorem cell_setCells_other {b b1 : Nat} (h : b1 ≠ b) (i : Nat) : ∀ (vs : List Value) (o : Nat) (w : World), (w.setCells b o vs).cell? ⟨b1, i, none⟩ = w.cell? ⟨b1, i, none⟩
  | [], _, _ => rfl
  | v :: vs, o, w => by
    show ((w.setCell ⟨b, o, none⟩ v).setCells b (o + 1) vs).cell? _ = _
    rw [cell_setCells_other h i vs (o + 1) _]
    exact World.cell?_setCell_other _ _ _ _ (by simp [h])
theorem rd_setCells {w : World} {b1 n c m sz : Nat} {xs : List Value} {b : Nat} (h : Rd w (.slice (some ⟨b1, 0, none⟩) n c) m sz xs) (hne : b1 ≠ b) (vs : List Value) : Rd (w.setCells b 0 vs) (.slice (some ⟨b1, 0, none⟩) n c) m sz xs := by
  obtain ⟨ao, cap, e, hcp, hz, hl, hc⟩ := h
  refine ⟨ao, cap, e, hcp, hz, hl, fun hx => ?_⟩
  obtain ⟨b2, off, e2, hlt, hcc⟩ := hc hx
  subst e2
  simp only [Value.slice.injEq, Option.some.injEq, Addr.mk.injEq, and_true] at e
  obtain ⟨⟨rfl, rfl⟩, rfl, rfl⟩ := e
  exact ⟨b1, 0, rfl, by rw [size_setCells]; exact hlt, fun i u hu => (cell_setCells_other hne _ vs 0 w).trans (hcc i u hu)⟩
theorem rd_ct (w : World) : Rd (w.alloc (.cells #[.string ⟨#[67, 111, 110, 116, 101, 110, 116, 45, 84, 121, 112, 101]⟩, .string ⟨#[116, 101, 120, 116, 47, 112, 108, 97, 105, 110]⟩] 55)) (.slice (some ⟨w.heap.size, 0, none⟩) 1 1) 1 2 (fldV [ctF]) := rd_litF w [ctF] 1 rfl

set_option maxRecDepth 100000 in
set_option maxHeartbeats 2000000 in
theorem eplain_any (st : Int) (h0 : -9223372036854775808 ≤ st) (h1 : st ≤ 9223372036854775807) (w : World) (hT : Pow10 w) :
    Calls Tryz.prog 21 #[.int .i64 st] w (PlainO st w) := by
  have qr := hide (fun w => reason_any st w)
  have qi := hide (fun w1 (hb : Below w.heap.size w w1) => itoa_any st h0 h1 w1 (hT.below hb))
  have hz1 := reasonB_size st
  have hz2 := itoa_size st h0 h1
  have HX := Lib.hid (show plainB st = itoaB st ++ ⟨#[32]⟩ ++ reasonB st ++ ⟨#[10]⟩ from rfl)
  have HZ := hide (Reg.Has.at w w.heap.size zeroM 24 rfl)
  have HB := hide ((Below.refl w.heap.size w).alloc (Nat.le_refl _) (.cells zeroM.toArray 24))
  obtain ⟨r, hr⟩ : ∃ r, reasonB st = r := ⟨_, rfl⟩
  obtain ⟨d, hd⟩ : ∃ r, itoaB st = r := ⟨_, rfl⟩
  rw [hr] at qr hz1 HX
  rw [hd] at qi hz2 HX
  have y1 : (⟨#[32]⟩ : ByteArray).size = 1 := rfl
  have y2 : (⟨#[10]⟩ : ByteArray).size = 1 := rfl
  have HR := Lib.hid hr
  clear hT hr hd
  go_enter Tryz.func21, Tryz.ntmps21
  go_wp2_with fail
  refine (unhide qr _).mono ?_; rintro e w' ⟨rfl, rfl⟩
  unfold zeroM at HZ HB
  generalize hw1 : w.alloc (.cells #[.string ⟨#[]⟩, .string ⟨#[]⟩, .int .i64 0, .string ⟨#[]⟩, .int .i64 0, .slice none 0 0, .string ⟨#[]⟩, .slice none 0 0] 24) = w1 at *
  clear hw1
  go_wp2_with fail
  have HRd := hide (rd_ct w1)
  have HZ2 := hide ((unhide HZ).alloc (.cells #[.string ⟨#[67, 111, 110, 116, 101, 110, 116, 45, 84, 121, 112, 101]⟩, .string ⟨#[116, 101, 120, 116, 47, 112, 108, 97, 105, 110]⟩] 55))
  have HB2 := hide ((unhide HB).alloc (unhide HB).size (.cells #[.string ⟨#[67, 111, 110, 116, 101, 110, 116, 45, 84, 121, 112, 101]⟩, .string ⟨#[116, 101, 120, 116, 47, 112, 108, 97, 105, 110]⟩] 55))
  have hlt1 : w.heap.size < w1.heap.size := (unhide HZ).lt
  have hlt : w1.heap.size < (w1.alloc (.cells #[.string ⟨#[67, 111, 110, 116, 101, 110, 116, 45, 84, 121, 112, 101]⟩, .string ⟨#[116, 101, 120, 116, 47, 112, 108, 97, 105, 110]⟩] 55)).heap.size := by simp
  generalize hw2 : w1.alloc (.cells #[.string ⟨#[67, 111, 110, 116, 101, 110, 116, 45, 84, 121, 112, 101]⟩, .string ⟨#[116, 101, 120, 116, 47, 112, 108, 97, 105, 110]⟩] 55) = w2 at *
  clear hw2 HZ HB
  generalize hb1 : w1.heap.size = b1 at *
  clear hb1
  refine (unhide qi _ (unhide HB2)).mono ?_; rintro e w3 ⟨rfl, hb3⟩
  have HRd3 := hide ((unhide HRd).below hb3)
  have HZ3 := hide ((unhide HZ2).call hb3)
  have HB3 := hide ((unhide HB2).trans (hb3.mono (unhide HB2).size))
  have hb1 : b1 < w3.heap.size := Nat.lt_of_lt_of_le hlt hb3.size
  clear hb3
  go_wp2_with (refine wpList_storeM rfl _ _ rfl w.heap.size rfl #[.string ⟨#[]⟩, .string ⟨#[]⟩, .int .i64 st, .string r, .int .i64 1, .slice (some ⟨b1, 0, none⟩) 1 1, .string (d ++ ⟨#[32]⟩ ++ r ++ ⟨#[10]⟩), .slice none 0 0] rfl rfl zeroM rfl (unhide HZ3) (by first | rfl | kernel_rfl | decide) ?_; intro HM; have HBM := below_setCells (B := w.heap.size) w.heap.size (Nat.le_refl _) (#[.string ⟨#[]⟩, .string ⟨#[]⟩, .int .i64 st, .string r, .int .i64 1, .slice (some ⟨b1, 0, none⟩) 1 1, .string (d ++ ⟨#[32]⟩ ++ r ++ ⟨#[10]⟩), .slice none 0 0] : Array Value).toList 0 _ (unhide HB3); have HRM := hide (rd_setCells (unhide HRd3) (b := w.heap.size) (by omega) (#[.string ⟨#[]⟩, .string ⟨#[]⟩, .int .i64 st, .string r, .int .i64 1, .slice (some ⟨b1, 0, none⟩) 1 1, .string (d ++ ⟨#[32]⟩ ++ r ++ ⟨#[10]⟩), .slice none 0 0] : Array Value).toList); generalize w3.setCells w.heap.size 0 (#[.string ⟨#[]⟩, .string ⟨#[]⟩, .int .i64 st, .string r, .int .i64 1, .slice (some ⟨b1, 0, none⟩) 1 1, .string (d ++ ⟨#[32]⟩ ++ r ++ ⟨#[10]⟩), .slice none 0 0] : Array Value).toList = w4 at HM HBM HRM ⊢; have HMM := hide HM; have HBB := hide HBM; clear HM HBM HZ3)
  have hl := run_loadM w.heap.size #[.string ⟨#[]⟩, .string ⟨#[]⟩, .int .i64 st, .string r, .int .i64 1, .slice (some ⟨b1, 0, none⟩) 1 1, .string (d ++ ⟨#[32]⟩ ++ r ++ ⟨#[10]⟩), .slice none 0 0] rfl (unhide HMM)
  refine bodyPost_ret (Mem.results_cell1 (ad := ⟨w.heap.size, 0, none⟩) Tryz.results21 rfl hl) rfl ⟨b1, ?_, unhide HRM, unhide HBB⟩
  unfold plainA
  rw [HX.out, HR.out]

set_option maxRecDepth 100000 in
set_option maxHeartbeats 2000000 in
theorem rplain_any (st : Int) (h0 : -9223372036854775808 ≤ st) (h1 : st ≤ 9223372036854775807) (w : World) :
    Calls Tryz.prog 35 #[.int .i64 st] w (PlainO st w) := by
  have qr := hide (fun w => rreason_any st w)
  have qi := hide (fun w => digits_any st h0 h1 w)
  have hz1 := reasonB_size st
  have hz2 := itoa_size st h0 h1
  have HX := Lib.hid (show plainB st = itoaB st ++ ⟨#[32]⟩ ++ reasonB st ++ ⟨#[10]⟩ from rfl)
  have HZ := hide (Reg.Has.at w w.heap.size zeroM 24 rfl)
  have HB := hide ((Below.refl w.heap.size w).alloc (Nat.le_refl _) (.cells zeroM.toArray 24))
  obtain ⟨r, hr⟩ : ∃ r, reasonB st = r := ⟨_, rfl⟩
  obtain ⟨d, hd⟩ : ∃ r, itoaB st = r := ⟨_, rfl⟩
  rw [hr] at qr hz1 HX
  rw [hd] at qi hz2 HX
  have y1 : (⟨#[32]⟩ : ByteArray).size = 1 := rfl
  have y2 : (⟨#[10]⟩ : ByteArray).size = 1 := rfl
  have HR := Lib.hid hr
  clear hr hd
  go_enter Tryz.func35, Tryz.ntmps35
  go_wp2_with fail
  refine (unhide qr _).mono ?_; rintro e w' ⟨rfl, rfl⟩
  unfold zeroM at HZ HB
  generalize hw1 : w.alloc (.cells #[.string ⟨#[]⟩, .string ⟨#[]⟩, .int .i64 0, .string ⟨#[]⟩, .int .i64 0, .slice none 0 0, .string ⟨#[]⟩, .slice none 0 0] 24) = w1 at *
  clear hw1
  go_wp2_with fail
  have HRd := hide (rd_ct w1)
  have HZ2 := hide ((unhide HZ).alloc (.cells #[.string ⟨#[67, 111, 110, 116, 101, 110, 116, 45, 84, 121, 112, 101]⟩, .string ⟨#[116, 101, 120, 116, 47, 112, 108, 97, 105, 110]⟩] 55))
  have HB2 := hide ((unhide HB).alloc (unhide HB).size (.cells #[.string ⟨#[67, 111, 110, 116, 101, 110, 116, 45, 84, 121, 112, 101]⟩, .string ⟨#[116, 101, 120, 116, 47, 112, 108, 97, 105, 110]⟩] 55))
  have hlt1 : w.heap.size < w1.heap.size := (unhide HZ).lt
  have hlt : w1.heap.size < (w1.alloc (.cells #[.string ⟨#[67, 111, 110, 116, 101, 110, 116, 45, 84, 121, 112, 101]⟩, .string ⟨#[116, 101, 120, 116, 47, 112, 108, 97, 105, 110]⟩] 55)).heap.size := by simp
  generalize hw2 : w1.alloc (.cells #[.string ⟨#[67, 111, 110, 116, 101, 110, 116, 45, 84, 121, 112, 101]⟩, .string ⟨#[116, 101, 120, 116, 47, 112, 108, 97, 105, 110]⟩] 55) = w2 at *
  clear hw2 HZ HB
  generalize hb1 : w1.heap.size = b1 at *
  clear hb1
  refine (unhide qi _).mono ?_; rintro e w' ⟨rfl, rfl⟩
  go_wp2_with fail
  refine (unhide qr _).mono ?_; rintro e w3 ⟨rfl, hw3⟩
  have hb3 : Below w2.heap.size w2 w3 := by rw [← hw3]; exact Below.refl _ _
  clear hw3
  have HRd3 := hide ((unhide HRd).below hb3)
  have HZ3 := hide ((unhide HZ2).call hb3)
  have HB3 := hide ((unhide HB2).trans (hb3.mono (unhide HB2).size))
  have hb1 : b1 < w3.heap.size := Nat.lt_of_lt_of_le hlt hb3.size
  clear hb3
  go_wp2_with (refine wpList_storeM rfl _ _ rfl w.heap.size rfl #[.string ⟨#[]⟩, .string ⟨#[]⟩, .int .i64 st, .string r, .int .i64 1, .slice (some ⟨b1, 0, none⟩) 1 1, .string (d ++ ⟨#[32]⟩ ++ r ++ ⟨#[10]⟩), .slice none 0 0] rfl rfl zeroM rfl (unhide HZ3) (by first | rfl | kernel_rfl | decide) ?_; intro HM; have HBM := below_setCells (B := w.heap.size) w.heap.size (Nat.le_refl _) (#[.string ⟨#[]⟩, .string ⟨#[]⟩, .int .i64 st, .string r, .int .i64 1, .slice (some ⟨b1, 0, none⟩) 1 1, .string (d ++ ⟨#[32]⟩ ++ r ++ ⟨#[10]⟩), .slice none 0 0] : Array Value).toList 0 _ (unhide HB3); have HRM := hide (rd_setCells (unhide HRd3) (b := w.heap.size) (by omega) (#[.string ⟨#[]⟩, .string ⟨#[]⟩, .int .i64 st, .string r, .int .i64 1, .slice (some ⟨b1, 0, none⟩) 1 1, .string (d ++ ⟨#[32]⟩ ++ r ++ ⟨#[10]⟩), .slice none 0 0] : Array Value).toList); generalize w3.setCells w.heap.size 0 (#[.string ⟨#[]⟩, .string ⟨#[]⟩, .int .i64 st, .string r, .int .i64 1, .slice (some ⟨b1, 0, none⟩) 1 1, .string (d ++ ⟨#[32]⟩ ++ r ++ ⟨#[10]⟩), .slice none 0 0] : Array Value).toList = w4 at HM HBM HRM ⊢; have HMM := hide HM; have HBB := hide HBM; clear HM HBM HZ3)
  have hl := run_loadM w.heap.size #[.string ⟨#[]⟩, .string ⟨#[]⟩, .int .i64 st, .string r, .int .i64 1, .slice (some ⟨b1, 0, none⟩) 1 1, .string (d ++ ⟨#[32]⟩ ++ r ++ ⟨#[10]⟩), .slice none 0 0] rfl (unhide HMM)
  refine bodyPost_ret (Mem.results_cell1 (ad := ⟨w.heap.size, 0, none⟩) Tryz.results35 rfl hl) rfl ⟨b1, ?_, unhide HRM, unhide HBB⟩
  unfold plainA
  rw [HX.out, HR.out]
end Go.Proofs.YtbpopmbabckojaaGreatDoor.Sp

/- The reference's Same of messages; the first line's size; the law's own examples. -/
namespace Go.Proofs.YtbpopmbabckojaaGreatDoor.Sp
open Go.RowKit Sl

set_option maxRecDepth 100000 in
set_option maxHeartbeats 2000000 in
theorem rsame06_any (me ta re bo : ByteArray) (st mi : Int) (u v u' v' : Value) (A B A' B' : List Fld) (w : World) (hA : A.length ≤ 1000 ∧ ∀ f ∈ A, f.1.size ≤ 100000) (hB : B.length ≤ 1000 ∧ ∀ f ∈ B, f.1.size ≤ 100000) (hA' : A'.length ≤ 1000 ∧ ∀ f ∈ A', f.1.size ≤ 100000) (hB' : B'.length ≤ 1000 ∧ ∀ f ∈ B', f.1.size ≤ 100000)
    (h1 : Rd w u A.length 2 (fldV A)) (h2 : Rd w v B.length 2 (fldV B)) (h3 : Rd w u' A'.length 2 (fldV A')) (h4 : Rd w v' B'.length 2 (fldV B')) :
    Calls Tryz.prog 18 #[.agg (msgV me ta st re mi u bo u'), .agg (msgV me ta st re mi v bo v')] w fun e w' => e = .returned (.bool (sameFs A B && sameFs A' B')) ∧ Below w.heap.size w w' := by
  have q1 := hide (fun w1 (hb : Below w.heap.size w w1) => rsameF_any u v A B (by omega) (by omega) hA.2 hB.2 w1 (h1.below hb) (h2.below hb))
  have q2 := hide (fun w1 (hb : Below w.heap.size w w1) => rsameF_any u' v' A' B' (by omega) (by omega) hA'.2 hB'.2 w1 (h3.below hb) (h4.below hb))
  obtain ⟨a1, c1, rfl⟩ := h1.form
  obtain ⟨a2, c2, rfl⟩ := h2.form
  obtain ⟨a3, c3, rfl⟩ := h3.form
  obtain ⟨a4, c4, rfl⟩ := h4.form
  clear h1 h2 h3 h4 hA hB hA' hB'
  unfold msgV
  have HH := hide (Reg.Has.at w w.heap.size [.string me, .string ta, .int .i64 st, .string re, .int .i64 mi, .slice a1 A.length c1, .string bo, .slice a3 A'.length c3] 24 rfl)
  have HH1 := hide ((unhide HH).alloc (.cells #[.string me, .string ta, .int .i64 st, .string re, .int .i64 mi, .slice a2 B.length c2, .string bo, .slice a4 B'.length c4] 24))
  have HH2 := hide (Reg.Has.at (w.alloc (.cells #[.string me, .string ta, .int .i64 st, .string re, .int .i64 mi, .slice a1 A.length c1, .string bo, .slice a3 A'.length c3] 24)) (w.heap.size + 1) [.string me, .string ta, .int .i64 st, .string re, .int .i64 mi, .slice a2 B.length c2, .string bo, .slice a4 B'.length c4] 24 (by simp))
  have HB := hide (((Below.refl w.heap.size w).alloc (Nat.le_refl _) (.cells #[.string me, .string ta, .int .i64 st, .string re, .int .i64 mi, .slice a1 A.length c1, .string bo, .slice a3 A'.length c3] 24)).alloc (by simp) (.cells #[.string me, .string ta, .int .i64 st, .string re, .int .i64 mi, .slice a2 B.length c2, .string bo, .slice a4 B'.length c4] 24))
  clear HH
  obtain ⟨s1, hs1⟩ : ∃ b, sameFs A B = b := ⟨_, rfl⟩
  obtain ⟨s2, hs2⟩ : ∃ b, sameFs A' B' = b := ⟨_, rfl⟩
  rw [hs1] at q1 ⊢
  rw [hs2] at q2 ⊢
  clear hs1 hs2
  go_enter Tryz.func18, Tryz.ntmps18
  go_upto_region 1 with fail
  generalize hw2 : (w.alloc (.cells #[.string me, .string ta, .int .i64 st, .string re, .int .i64 mi, .slice a1 A.length c1, .string bo, .slice a3 A'.length c3] 24)).alloc (.cells #[.string me, .string ta, .int .i64 st, .string re, .int .i64 mi, .slice a2 B.length c2, .string bo, .slice a4 B'.length c4] 24) = w2 at *
  clear hw2
  have G1 := unhide HH1
  have G2 := unhide HH2
  have pa0 := G1.cell 0 _ rfl; have pa1 := G1.cell 1 _ rfl; have pa2 := G1.cell 2 _ rfl; have pa3 := G1.cell 3 _ rfl; have pa4 := G1.cell 4 _ rfl; have pa5 := G1.cell 5 _ rfl; have pa6 := G1.cell 6 _ rfl; have pa7 := G1.cell 7 _ rfl; have za := G1.lt
  have pb0 := G2.cell 0 _ rfl; have pb1 := G2.cell 1 _ rfl; have pb2 := G2.cell 2 _ rfl; have pb3 := G2.cell 3 _ rfl; have pb4 := G2.cell 4 _ rfl; have pb5 := G2.cell 5 _ rfl; have pb6 := G2.cell 6 _ rfl; have pb7 := G2.cell 7 _ rfl; have zb := G2.lt
  clear G1 G2
  cases s1
  · go_wp2_with fail
    refine (unhide q1 _ (unhide HB)).mono ?_; rintro e w3 ⟨rfl, hb3⟩
    have HB3 := hide ((unhide HB).trans (hb3.mono (unhide HB).size))
    clear hb3
    go_wp2_with fail
    go_ret
    exact ⟨rfl, unhide HB3⟩
  · go_wp2_with fail
    refine (unhide q1 _ (unhide HB)).mono ?_; rintro e w3 ⟨rfl, hb3⟩
    have HB3 := hide ((unhide HB).trans (hb3.mono (unhide HB).size))
    have G1 := (unhide HH1).call hb3
    have G2 := (unhide HH2).call hb3
    clear hb3 pa0 pa1 pa2 pa3 pa4 pa5 pa6 pa7 za pb0 pb1 pb2 pb3 pb4 pb5 pb6 pb7 zb
    have pa0 := G1.cell 0 _ rfl; have pa1 := G1.cell 1 _ rfl; have pa2 := G1.cell 2 _ rfl; have pa3 := G1.cell 3 _ rfl; have pa4 := G1.cell 4 _ rfl; have pa5 := G1.cell 5 _ rfl; have pa6 := G1.cell 6 _ rfl; have pa7 := G1.cell 7 _ rfl; have za := G1.lt
    have pb0 := G2.cell 0 _ rfl; have pb1 := G2.cell 1 _ rfl; have pb2 := G2.cell 2 _ rfl; have pb3 := G2.cell 3 _ rfl; have pb4 := G2.cell 4 _ rfl; have pb5 := G2.cell 5 _ rfl; have pb6 := G2.cell 6 _ rfl; have pb7 := G2.cell 7 _ rfl; have zb := G2.lt
    clear G1 G2
    go_wp2_with fail
    refine (unhide q2 _ (unhide HB3)).mono ?_; rintro e w4 ⟨rfl, hb4⟩
    have HB4 := hide ((unhide HB3).trans (hb4.mono (unhide HB3).size))
    clear hb4
    go_wp2_with fail
    go_ret
    exact ⟨by cases s2 <;> rfl, unhide HB4⟩

theorem ofL_size (l : List UInt8) : (ofL l).size = l.length := by simp [ofL, ByteArray.size]
theorem itoa01 (n : Int) (h0 : 0 ≤ n) (h1 : n ≤ 599) : (Lib.itoa n).length ≤ 20 := by
  have := itoa_size n (by omega) (by omega)
  rwa [show (itoaB n).size = (Lib.itoa n).length from ofL_size _] at this
theorem lineS_len (me ta re : ByteArray) (st mi : Int) (h1 : me.size ≤ 1000000) (h2 : ta.size ≤ 1000000) (h3 : re.size ≤ 1000000) : (ofL (lineS me ta re st mi).1).size ≤ 100000000 := by
  rw [ofL_size]
  have e1 : me.data.toList.length = me.size := by simp
  have e2 : ta.data.toList.length = ta.size := by simp
  have e3 : re.data.toList.length = re.size := by simp
  unfold lineS
  split
  · split
    · unfold slS
      split
      · rename_i h
        have i1 := itoa01 mi h.1 (by have := h.2.1; omega)
        have i2 := itoa01 st (by have := h.2.2.1; omega) h.2.2.2.1
        unfold slT httpV
        simp only [List.length_append, List.length_cons, List.length_nil]
        omega
      · simp
    · simp
  · split
    · unfold rlS
      split
      · rename_i h
        unfold rlOK at h
        have i1 := itoa01 mi (by omega) (by omega)
        unfold rlT httpV
        simp only [List.length_append, List.length_cons, List.length_nil]
        omega
      · simp
    · simp
end Go.Proofs.YtbpopmbabckojaaGreatDoor.Sp

/- A message that is light. -/
namespace Go.Proofs.YtbpopmbabckojaaGreatDoor.Sp
open Go.RowKit Sl

def sumF (L : List Fld) : Nat := (L.map fun f => f.1.size + f.2.size).sum
theorem sumF_take (L : List Fld) (k : Nat) (h : k < L.length) : sumF (L.take (k + 1)) = sumF (L.take k) + (L[k].1.size + L[k].2.size) := by
  unfold sumF
  rw [List.take_succ_eq_append_getElem h, List.map_append, List.sum_append]; simp
theorem sumF_mem {L : List Fld} {f : Fld} (h : f ∈ L) : f.1.size + f.2.size ≤ sumF L := by
  induction L with
  | nil => cases h
  | cons g t ih =>
    unfold sumF at ih ⊢
    rw [List.map_cons, List.sum_cons]
    rcases List.mem_cons.1 h with rfl | h
    · omega
    · have := ih h; omega
set_option maxRecDepth 100000 in
set_option maxHeartbeats 2000000 in
theorem lightF2_any (v : Value) (L : List Fld) (most bytes : Nat) (hL : L.length ≤ 9223372036854775807) (hb1 : most ≤ 1000) (hb2 : bytes ≤ 1000) (hf : ∀ f ∈ L, f.1.size ≤ 1000000000000000 ∧ f.2.size ≤ 1000000000000000) (w : World) (hv : Rd w v L.length 2 (fldV L)) :
    Calls Tryz.prog 58 #[v, .int .i64 most, .int .i64 bytes] w fun e w' => ∃ r, e = .returned (.bool r) ∧ (r = true → L.length ≤ most ∧ sumF L ≤ bytes) ∧ Below w.heap.size w w' := by
  obtain ⟨ao, cap, rfl⟩ := hv.form
  have HV := hide hv
  have HF := hide hf
  clear hv hf
  rcases Nat.lt_or_ge most L.length with hm | hm
  · go_enter Tryz.func58, Tryz.ntmps58
    go_wp2_with fail
    go_ret
    exact ⟨_, rfl, (by simp), Below.refl _ _⟩
  · go_enter Tryz.func58, Tryz.ntmps58
    go_wp2_with fail
    go_loopw [7, 8] (fun n i wr => ∃ k s : Nat, i = .int .i64 k ∧ n = .int .i64 s ∧ k ≤ L.length ∧ s ≤ bytes ∧ sumF (L.take k) = s ∧ Below w.heap.size w wr) (fun _ i _ => L.length - (intOf i).toNat)
    case atStart => exact ⟨0, 0, rfl, rfl, Nat.zero_le _, Nat.zero_le _, rfl, Below.refl _ _⟩
    case round =>
      obtain ⟨k, s, rfl, rfl, hk, hs, hall, hbel⟩ := hrel
      have HA := hide hall
      have HB := hide hbel
      rcases Nat.lt_or_ge k L.length with hlt | hge
      · obtain ⟨b, off, rfl, hb, c1, c2⟩ := fld_cells (unhide HV) rfl k hlt
        have d1 := (hbel.cell (p := ⟨b, off + k * 2, none⟩) hb).trans c1
        have d2 := (hbel.cell (p := ⟨b, off + k * 2 + 1, none⟩) hb).trans c2
        have z1 := ((unhide HF) L[k] (List.getElem_mem _)).1
        have z2 := ((unhide HF) L[k] (List.getElem_mem _)).2
        have HT := hide (sumF_take L k hlt)
        clear c1 c2 hall hbel
        have hbw : b < wr.heap.size := Nat.lt_of_lt_of_le hb (unhide HB).size
        go_wp2_with fail
        refine Reg.region_more (by kernel_rfl) (by kernel_rfl) ?_
        repeat (go_big_quiet_step (fail))
        refine wpQuiet_nil ?_
        intro w9 hb9; obtain ⟨hc9, hf9, hz9⟩ := bcell hb9; (try simp at hz9)
        have HB9 := hide ((unhide HB).trans (hb9.mono (unhide HB).size))
        clear hb9 hc9 hf9
        rcases Nat.lt_or_ge bytes (s + L[k].1.size + L[k].2.size) with hq | hq
        · go_wp2_with fail
          go_ret
          exact ⟨_, rfl, (by simp), unhide HB9⟩
        · go_wp2_with fail
          go_roundw
          case rel =>
            exact ⟨k + 1, s + L[k].1.size + L[k].2.size, by go_num, by go_num, by omega, by omega, by rw [unhide HT, unhide HA]; omega, unhide HB9⟩
          case measure => simp [intOf]; omega
      · have hT : L.take k = L := List.take_of_length_le hge
        have HT := Lib.hid hT
        clear hT hall hbel
        go_wp2_with fail
        go_ret
        refine ⟨_, rfl, fun _ => ⟨hm, ?_⟩, unhide HB⟩
        have := unhide HA
        rw [HT.out] at this
        omega


def LightA (me ta re bo : ByteArray) (F T : List Fld) : Prop := me.size ≤ 40 ∧ ta.size ≤ 200 ∧ re.size ≤ 100 ∧ bo.size ≤ 400 ∧ (F.length ≤ 20 ∧ sumF F ≤ 600) ∧ (T.length ≤ 10 ∧ sumF T ≤ 300)
def LightQ (P : Prop) (w : World) (e : Ending) (w' : World) : Prop := ∃ r, e = .returned (.bool r) ∧ (r = true → P) ∧ Below w.heap.size w w'

set_option maxRecDepth 100000 in
set_option maxHeartbeats 1000000 in
theorem lightA_any (me ta re bo : ByteArray) (st mi : Int) (fs tr : Value) (F T : List Fld) (h1 : me.size ≤ 9223372036854775807) (h2 : ta.size ≤ 9223372036854775807) (h3 : re.size ≤ 9223372036854775807) (h4 : bo.size ≤ 9223372036854775807)
    (hF : F.length ≤ 9223372036854775807) (hT : T.length ≤ 9223372036854775807) (hf : ∀ f ∈ F, f.1.size ≤ 1000000000000000 ∧ f.2.size ≤ 1000000000000000) (ht : ∀ f ∈ T, f.1.size ≤ 1000000000000000 ∧ f.2.size ≤ 1000000000000000) (w : World) (hv : Rd w fs F.length 2 (fldV F)) (hu : Rd w tr T.length 2 (fldV T)) :
    Calls Tryz.prog 36 #[.agg (msgV me ta st re mi fs bo tr)] w (LightQ (LightA me ta re bo F T) w) := by
  obtain ⟨ao, cap, rfl⟩ := hv.form
  obtain ⟨bo', caq, rfl⟩ := hu.form
  have hl1 := hide (fun w' (h : Below w.heap.size w w') => lightF2_any _ F 20 600 hF (by omega) (by omega) hf w' (hv.below h))
  have hl2 := hide (fun w' (h : Below w.heap.size w w') => lightF2_any _ T 10 300 hT (by omega) (by omega) ht w' (hu.below h))
  clear hv hu hf ht
  unfold LightQ
  have HB := hide ((Below.refl w.heap.size w).alloc (Nat.le_refl _) (.cells #[.string me, .string ta, .int .i64 st, .string re, .int .i64 mi, .slice ao F.length cap, .string bo, .slice bo' T.length caq] 24))
  have H := hide (Reg.Has.at w w.heap.size [.string me, .string ta, .int .i64 st, .string re, .int .i64 mi, .slice ao F.length cap, .string bo, .slice bo' T.length caq] 24 rfl)
  by_cases hok : me.size ≤ 40 ∧ ta.size ≤ 200 ∧ re.size ≤ 100 ∧ bo.size ≤ 400
  rotate_left
  · have hb : (decide ((me.size : Int) ≤ 40) = false) ∨ (decide ((me.size : Int) ≤ 40) = true ∧ decide ((ta.size : Int) ≤ 200) = false) ∨ (decide ((me.size : Int) ≤ 40) = true ∧ decide ((ta.size : Int) ≤ 200) = true ∧ decide ((re.size : Int) ≤ 100) = false) ∨ (decide ((me.size : Int) ≤ 40) = true ∧ decide ((ta.size : Int) ≤ 200) = true ∧ decide ((re.size : Int) ≤ 100) = true ∧ decide ((bo.size : Int) ≤ 400) = false) := by
      by_cases k1 : me.size ≤ 40
      · by_cases k2 : ta.size ≤ 200
        · by_cases k3 : re.size ≤ 100
          · exact .inr (.inr (.inr ⟨decide_eq_true (by omega), decide_eq_true (by omega), decide_eq_true (by omega), decide_eq_false (by omega)⟩))
          · exact .inr (.inr (.inl ⟨decide_eq_true (by omega), decide_eq_true (by omega), decide_eq_false (by omega)⟩))
        · exact .inr (.inl ⟨decide_eq_true (by omega), decide_eq_false (by omega)⟩)
      · exact .inl (decide_eq_false (by omega))
    clear hok
    unfold msgV
    rcases hb with g1 | ⟨g1, g2⟩ | ⟨g1, g2, g3⟩ | ⟨g1, g2, g3, g4⟩
    all_goals
      go_enter Tryz.func36, Tryz.ntmps36
      go_wp2_with fail
      go_ret
      exact ⟨_, rfl, (by simp), unhide HB⟩
  have g1 : decide ((me.size : Int) ≤ 40) = true := decide_eq_true (by omega)
  have g2 : decide ((ta.size : Int) ≤ 200) = true := decide_eq_true (by omega)
  have g3 : decide ((re.size : Int) ≤ 100) = true := decide_eq_true (by omega)
  have g4 : decide ((bo.size : Int) ≤ 400) = true := decide_eq_true (by omega)
  have HOK := hide hok
  clear hok
  unfold msgV
  go_enter Tryz.func36, Tryz.ntmps36
  go_wp2_with fail
  refine (unhide hl1 _ (unhide HB)).mono ?_; rintro e w1 ⟨r1, rfl, hr1, hb1⟩
  have HR1 := hide hr1
  have HB1 := hide ((unhide HB).trans (hb1.mono (unhide HB).size))
  have p7 := ((unhide H).call hb1).cell 7 _ rfl
  clear hb1 hr1
  cases r1
  · go_wp2_with fail
    go_ret
    exact ⟨_, rfl, (by simp), unhide HB1⟩
  go_wp2_with fail
  refine (unhide hl2 _ (unhide HB1)).mono ?_; rintro e w2 ⟨r2, rfl, hr2, hb2⟩
  have HR2 := hide hr2
  have HB2 := hide ((unhide HB1).trans (hb2.mono (unhide HB1).size))
  clear hb2 hr2
  go_wp2_with fail
  go_ret
  exact ⟨r2, rfl, fun h => by
    obtain ⟨a, b, c, d⟩ := unhide HOK
    exact ⟨a, b, c, d, unhide HR1 (by first | rfl | trivial), unhide HR2 h⟩, unhide HB2⟩

set_option maxRecDepth 100000 in
set_option maxHeartbeats 1000000 in
theorem light8_any (me ta re bo : ByteArray) (st mi : Int) (fs tr : Value) (F T : List Fld) (h1 : me.size ≤ 9223372036854775807) (h2 : ta.size ≤ 9223372036854775807) (h3 : re.size ≤ 9223372036854775807) (h4 : bo.size ≤ 9223372036854775807)
    (hF : F.length ≤ 9223372036854775807) (hT : T.length ≤ 9223372036854775807) (hf : ∀ f ∈ F, f.1.size ≤ 1000000000000000 ∧ f.2.size ≤ 1000000000000000) (ht : ∀ f ∈ T, f.1.size ≤ 1000000000000000 ∧ f.2.size ≤ 1000000000000000) (w : World) (hv : Rd w fs F.length 2 (fldV F)) (hu : Rd w tr T.length 2 (fldV T)) :
    Calls Tryz.prog 9 #[.agg (msgV me ta st re mi fs bo tr)] w (LightQ (LightA me ta re bo F T) w) := by
  have hc := hide (fun w' (h : Below w.heap.size w w') => lightA_any me ta re bo st mi fs tr F T h1 h2 h3 h4 hF hT hf ht w' (hv.below h) (hu.below h))
  have HB0 := hide (fun o => (Below.refl w.heap.size w).alloc (Nat.le_refl _) o)
  clear hv hu hf ht
  unfold msgV at hc ⊢
  unfold LightQ at hc ⊢
  go_enter Tryz.func9, Tryz.ntmps9
  go_wp2_with (go_at_call 36; refine (unhide hc _ (unhide HB0 _)).mono ?_; rintro e w2 ⟨r, rfl, hr, hb2⟩; have HR := hide hr; have HB2 := hide hb2; clear hr hb2)
  go_ret
  exact ⟨_, rfl, unhide HR, (unhide HB0 _).trans ((unhide HB2).mono (by simp))⟩
end Go.Proofs.YtbpopmbabckojaaGreatDoor.Sp

/- The walk of the law EmitCalls. -/
namespace Go.Proofs.YtbpopmbabckojaaGreatDoor.Sp
open Go.RowKit Sl

theorem few_nil : Few [] := ⟨by simp, by simp⟩
theorem res_closed (re bo m out : ByteArray) (st mi n : Int) (h3 : re.size ≤ 1000000) (h4 : bo.size ≤ 1000000) (h : resS ⟨#[]⟩ ⟨#[]⟩ re bo st mi [] [] m = (out, n)) (w : World) (hT : Pow10 w) :
    Calls Tryz.prog 11 #[.agg #[.string ⟨#[]⟩, .string ⟨#[]⟩, .int .i64 st, .string re, .int .i64 mi, .slice none 0 0, .string bo, .slice none 0 0], .string m] w fun e w' => e = .returned (.tuple #[.string out, .int .i64 n]) ∧ Below w.heap.size w w' := by
  refine (eres_any ⟨#[]⟩ ⟨#[]⟩ re bo m st mi (.slice none 0 0) (.slice none 0 0) [] [] (by decide) (by decide) h3 h4 (lineS_len _ _ _ _ _ (by decide) (by decide) h3) few_nil few_nil w hT (Rd.nil _ _) (Rd.nil _ _)).mono ?_
  rintro e w' ⟨he, hb⟩
  rw [h] at he
  exact ⟨he, hb⟩

theorem live1 : resS ⟨#[]⟩ ⟨#[]⟩ ⟨#[120]⟩ ⟨#[97]⟩ 204 1 [] [] ⟨#[71, 69, 84]⟩ = (⟨#[72, 84, 84, 80, 47, 49, 46, 49, 32, 50, 48, 52, 32, 120, 13, 10, 13, 10]⟩, 0) := by
  unfold resS emC lineS headM putS noneI headB
  simp only [Lib.toList_data]
  decide +kernel
theorem live2 : resS ⟨#[]⟩ ⟨#[]⟩ ⟨#[120]⟩ ⟨#[97]⟩ 200 1 [] [] ⟨#[71, 69, 84]⟩ = (⟨#[72, 84, 84, 80, 47, 49, 46, 49, 32, 50, 48, 48, 32, 120, 13, 10, 67, 111, 110, 116, 101, 110, 116, 45, 76, 101, 110, 103, 116, 104, 58, 32, 49, 13, 10, 13, 10, 97]⟩, 0) := by
  unfold resS emC lineS headM putS noneI headB
  simp only [Lib.toList_data]
  decide +kernel

set_option maxRecDepth 100000 in
set_option maxHeartbeats 1000000 in
theorem lives8_any (w : World) (hT : Pow10 w) : Calls Tryz.prog 8 #[] w fun e w' => e = .returned (.bool true) ∧ Below w.heap.size w w' := by
  have q1 := hide (res_closed _ _ _ _ _ _ _ (by decide) (by decide) live1 w hT)
  have q2 := hide (fun w1 (hb : Below w.heap.size w w1) => res_closed _ _ _ _ _ _ _ (by decide) (by decide) live2 w1 (hT.below hb))
  clear hT
  go_enter Tryz.func8, Tryz.ntmps8
  go_wp2_with fail
  refine (unhide q1).mono ?_; rintro e w1 ⟨rfl, hb1⟩
  have HB1 := hide hb1
  clear hb1
  go_wp2_with fail
  refine (unhide q2 _ (unhide HB1)).mono ?_; rintro e w2 ⟨rfl, hb2⟩
  have HB2 := hide ((unhide HB1).trans (hb2.mono (unhide HB1).size))
  clear hb2
  go_wp2_with fail
  go_ret
  exact ⟨rfl, unhide HB2⟩
end Go.Proofs.YtbpopmbabckojaaGreatDoor.Sp

/- The walk of the law EmitCalls. -/
namespace Go.Proofs.YtbpopmbabckojaaGreatDoor.Sp
open Go.RowKit Sl

theorem light_fewE {F : List Fld} (h1 : F.length ≤ 20) (h2 : sumF F ≤ 600) : Few F := ⟨by omega, fun f hf => by have := sumF_mem hf; omega⟩
theorem sameFs_self' (L : List Fld) : sameFs L L = true := by
  unfold sameFs
  rw [decide_eq_true rfl, Bool.true_and, List.all_eq_true]
  intro p hp
  have : p.1 = p.2 := by
    obtain ⟨i, hi, rfl⟩ := List.getElem_of_mem hp
    simp
  unfold samePF same
  rw [this]
  simp

set_option maxRecDepth 100000 in
set_option maxHeartbeats 8000000 in
theorem ecalls_any (me ta re bo m : ByteArray) (st mi size sta : Int) (fs tr : Value) (F T : List Fld) (z1 : me.size ≤ 9223372036854775807) (z2 : ta.size ≤ 9223372036854775807) (z3 : re.size ≤ 9223372036854775807) (z4 : bo.size ≤ 9223372036854775807)
    (zF : F.length ≤ 9223372036854775807) (zT : T.length ≤ 9223372036854775807) (zf : ∀ f ∈ F, f.1.size ≤ 1000000000000000 ∧ f.2.size ≤ 1000000000000000) (zt : ∀ f ∈ T, f.1.size ≤ 1000000000000000 ∧ f.2.size ≤ 1000000000000000)
    (zm : m.size ≤ 9223372036854775807) (hs0 : -9223372036854775808 ≤ size) (hs1 : size ≤ 9223372036854775807) (ht0 : -9223372036854775808 ≤ sta) (ht1 : sta ≤ 9223372036854775807) (w : World) (hT : Pow10 w) (hR : Bru w) (hv : Rd w fs F.length 2 (fldV F)) (hu : Rd w tr T.length 2 (fldV T)) :
    Calls Tryz.prog 7 #[.agg (msgV me ta st re mi fs bo tr), .string m, .int .i64 size, .int .i64 sta] w fun e w' => e = .returned (.bool true) ∧ Below w.heap.size w w' := by
  obtain ⟨ao, c1, rfl⟩ := hv.form
  obtain ⟨bo', c2, rfl⟩ := hu.form
  have c0 := hide (fun w1 (hb : Below w.heap.size w w1) => lives8_any w1 (hT.below hb))
  have cl := hide (fun w1 (hb : Below w.heap.size w w1) => light8_any me ta re bo st mi _ _ F T z1 z2 z3 z4 zF zT zf zt w1 (hv.below hb) (hu.below hb))
  have hq := hide (fun (hl : LightA me ta re bo F T) => And.intro (Nat.le_trans hl.1 (by decide : 40 ≤ 1000000)) <| And.intro (Nat.le_trans hl.2.1 (by decide : 200 ≤ 1000000)) <| And.intro (Nat.le_trans hl.2.2.1 (by decide : 100 ≤ 1000000)) <| And.intro (Nat.le_trans hl.2.2.2.1 (by decide : 400 ≤ 1000)) <| And.intro (light_fewE hl.2.2.2.2.1.1 hl.2.2.2.2.1.2) (light_fewE (Nat.le_trans hl.2.2.2.2.2.1 (by decide : 10 ≤ 20)) (Nat.le_trans hl.2.2.2.2.2.2 (by decide : 300 ≤ 600))))
  have HV := hide hv
  have HU := hide hu
  have HT := hide hT
  have HR := hide hR
  clear hv hu hT hR zf zt z1 z2 z3 z4 zF zT
  have HB := hide ((Below.refl w.heap.size w).alloc (Nat.le_refl _) (.cells #[.string me, .string ta, .int .i64 st, .string re, .int .i64 mi, .slice ao F.length c1, .string bo, .slice bo' T.length c2] 24))
  have H := hide (Reg.Has.at w w.heap.size [.string me, .string ta, .int .i64 st, .string re, .int .i64 mi, .slice ao F.length c1, .string bo, .slice bo' T.length c2] 24 rfl)
  unfold LightQ at cl
  unfold msgV at cl ⊢
  go_enter Tryz.func7, Tryz.ntmps7
  go_wp2_with fail
  refine (unhide c0 _ (unhide HB)).mono ?_; rintro e w1 ⟨rfl, hb1⟩
  have HB := hide ((unhide HB).trans (hb1.mono (unhide HB).size))
  have H1 := hide ((unhide H).call hb1)
  clear hb1 c0 H
  have G1 := unhide H1
  have pa0 := G1.cell 0 _ rfl; have pa1 := G1.cell 1 _ rfl; have pa2 := G1.cell 2 _ rfl; have pa3 := G1.cell 3 _ rfl; have pa4 := G1.cell 4 _ rfl; have pa5 := G1.cell 5 _ rfl; have pa6 := G1.cell 6 _ rfl; have pa7 := G1.cell 7 _ rfl; have za := G1.lt
  clear G1
  go_wp2_with fail
  refine (unhide cl _ (unhide HB)).mono ?_; rintro e w2 ⟨r, rfl, hr, hb2⟩
  have HRR := hide hr
  have HB := hide ((unhide HB).trans (hb2.mono (unhide HB).size))
  have H2 := hide ((unhide H1).call hb2)
  clear hb2 cl H1 hr pa0 pa1 pa2 pa3 pa4 pa5 pa6 pa7 za
  cases r
  · go_wp2_with fail
    go_ret
    exact ⟨rfl, unhide HB⟩
  by_cases hm : m.size ≤ 60
  rotate_left
  · have hd : decide ((60 : Int) < (m.size : Int)) = true := decide_eq_true (by omega)
    go_wp2_with fail
    go_ret
    exact ⟨rfl, unhide HB⟩
  have hd : decide ((60 : Int) < (m.size : Int)) = false := decide_eq_false (by omega)
  obtain ⟨h1, h2, h3, h4, hF, hTr⟩ := unhide hq (unhide HRR rfl)
  clear hq HRR hm
  have zl := lineS_len me ta re st mi h1 h2 h3
  have q1 := hide (fun w1 (hb : Below w.heap.size w w1) => ereq_any me ta re bo st mi _ _ F T h1 h2 h3 (by omega) zl hF hTr w1 ((unhide HT).below hb) ((unhide HV).below hb) ((unhide HU).below hb))
  have q2 := hide (fun w1 (hb : Below w.heap.size w w1) => rreq_any me ta re bo st mi _ _ F T h1 h2 h3 (by omega) zl hF hTr w1 ((unhide HV).below hb) ((unhide HU).below hb))
  have q3 := hide (fun w1 (hb : Below w.heap.size w w1) => eres_any me ta re bo m st mi _ _ F T h1 h2 h3 (by omega) zl hF hTr w1 ((unhide HT).below hb) ((unhide HV).below hb) ((unhide HU).below hb))
  have q4 := hide (fun w1 (hb : Below w.heap.size w w1) => rres_any me ta re bo m st mi _ _ F T h1 h2 h3 (by omega) zl hF hTr w1 ((unhide HV).below hb) ((unhide HU).below hb))
  have q5 := hide (fun w1 (hb : Below w.heap.size w w1) => echu_any me ta re bo st mi size _ _ F T h1 h2 h3 (by omega) hs0 hs1 zl hF hTr w1 ((unhide HT).below hb) ((unhide HR).below hb) ((unhide HV).below hb) ((unhide HU).below hb))
  have q6 := hide (fun w1 (hb : Below w.heap.size w w1) => rchu_any me ta re bo st mi size _ _ F T h1 h2 h3 (by omega) hs0 hs1 zl hF hTr w1 ((unhide HV).below hb) ((unhide HU).below hb))
  have q7 := hide (fun w1 (hb : Below w.heap.size w w1) => echeck_any me ta re bo st mi _ _ F T h1 h2 h3 hF hTr w1 ((unhide HT).below hb) ((unhide HV).below hb) ((unhide HU).below hb))
  have q8 := hide (fun w1 (hb : Below w.heap.size w w1) => rcheck8_any me ta re bo st mi _ _ F T h1 h2 h3 hF hTr w1 ((unhide HV).below hb) ((unhide HU).below hb))
  have q9 := hide (fun w => reason_any sta w)
  have q10 := hide (fun w => rreason_any sta w)
  have q11 := hide (fun w1 (hb : Below w.heap.size w w1) => eplain_any sta ht0 ht1 w1 ((unhide HT).below hb))
  have q12 := hide (fun w1 => rplain_any sta ht0 ht1 w1)
  clear HT HR HV HU h1 h2 h3 h4 hF hTr zl hs0 hs1 ht0 ht1
  unfold OutS at q1 q2 q3 q4 q5 q6
  unfold PlainO at q11 q12
  unfold msgV at q1 q2 q3 q4 q5 q6 q7 q8
  generalize reqS me ta re bo st mi F T = X1 at q1 q2
  generalize resS me ta re bo st mi F T m = X2 at q3 q4
  generalize chuS me ta re bo st mi F T size = X3 at q5 q6
  generalize emC me ta re st mi F T = em at q7 q8
  obtain ⟨x1, y1⟩ := X1
  obtain ⟨x2, y2⟩ := X2
  obtain ⟨x3, y3⟩ := X3
  simp only at q1 q2 q3 q4 q5 q6
  have G := unhide H2
  have pa0 := G.cell 0 _ rfl; have pa1 := G.cell 1 _ rfl; have pa2 := G.cell 2 _ rfl; have pa3 := G.cell 3 _ rfl; have pa4 := G.cell 4 _ rfl; have pa5 := G.cell 5 _ rfl; have pa6 := G.cell 6 _ rfl; have pa7 := G.cell 7 _ rfl; have za := G.lt
  clear G
  go_wp2_with fail
  refine (unhide q1 _ (unhide HB)).mono ?_; rintro e w3 ⟨rfl, hb3⟩
  have HB := hide ((unhide HB).trans (hb3.mono (unhide HB).size))
  have H3 := hide ((unhide H2).call hb3)
  clear hb3 q1 H2 pa0 pa1 pa2 pa3 pa4 pa5 pa6 pa7 za
  have G := unhide H3
  have pa0 := G.cell 0 _ rfl; have pa1 := G.cell 1 _ rfl; have pa2 := G.cell 2 _ rfl; have pa3 := G.cell 3 _ rfl; have pa4 := G.cell 4 _ rfl; have pa5 := G.cell 5 _ rfl; have pa6 := G.cell 6 _ rfl; have pa7 := G.cell 7 _ rfl; have za := G.lt
  clear G
  go_wp2_with fail
  refine (unhide q2 _ (unhide HB)).mono ?_; rintro e w4 ⟨rfl, hb4⟩
  have HB := hide ((unhide HB).trans (hb4.mono (unhide HB).size))
  have H4 := hide ((unhide H3).call hb4)
  clear hb4 q2 H3 pa0 pa1 pa2 pa3 pa4 pa5 pa6 pa7 za
  have G := unhide H4
  have pa0 := G.cell 0 _ rfl; have pa1 := G.cell 1 _ rfl; have pa2 := G.cell 2 _ rfl; have pa3 := G.cell 3 _ rfl; have pa4 := G.cell 4 _ rfl; have pa5 := G.cell 5 _ rfl; have pa6 := G.cell 6 _ rfl; have pa7 := G.cell 7 _ rfl; have za := G.lt
  clear G
  go_wp2_with fail
  refine (unhide q3 _ (unhide HB)).mono ?_; rintro e w5 ⟨rfl, hb5⟩
  have HB := hide ((unhide HB).trans (hb5.mono (unhide HB).size))
  have H5 := hide ((unhide H4).call hb5)
  clear hb5 q3 H4 pa0 pa1 pa2 pa3 pa4 pa5 pa6 pa7 za
  have G := unhide H5
  have pa0 := G.cell 0 _ rfl; have pa1 := G.cell 1 _ rfl; have pa2 := G.cell 2 _ rfl; have pa3 := G.cell 3 _ rfl; have pa4 := G.cell 4 _ rfl; have pa5 := G.cell 5 _ rfl; have pa6 := G.cell 6 _ rfl; have pa7 := G.cell 7 _ rfl; have za := G.lt
  clear G
  go_wp2_with fail
  refine (unhide q4 _ (unhide HB)).mono ?_; rintro e w6 ⟨rfl, hb6⟩
  have HB := hide ((unhide HB).trans (hb6.mono (unhide HB).size))
  have H6 := hide ((unhide H5).call hb6)
  clear hb6 q4 H5 pa0 pa1 pa2 pa3 pa4 pa5 pa6 pa7 za
  have G := unhide H6
  have pa0 := G.cell 0 _ rfl; have pa1 := G.cell 1 _ rfl; have pa2 := G.cell 2 _ rfl; have pa3 := G.cell 3 _ rfl; have pa4 := G.cell 4 _ rfl; have pa5 := G.cell 5 _ rfl; have pa6 := G.cell 6 _ rfl; have pa7 := G.cell 7 _ rfl; have za := G.lt
  clear G
  go_wp2_with fail
  refine (unhide q5 _ (unhide HB)).mono ?_; rintro e w7 ⟨rfl, hb7⟩
  have HB := hide ((unhide HB).trans (hb7.mono (unhide HB).size))
  have H7 := hide ((unhide H6).call hb7)
  clear hb7 q5 H6 pa0 pa1 pa2 pa3 pa4 pa5 pa6 pa7 za
  have G := unhide H7
  have pa0 := G.cell 0 _ rfl; have pa1 := G.cell 1 _ rfl; have pa2 := G.cell 2 _ rfl; have pa3 := G.cell 3 _ rfl; have pa4 := G.cell 4 _ rfl; have pa5 := G.cell 5 _ rfl; have pa6 := G.cell 6 _ rfl; have pa7 := G.cell 7 _ rfl; have za := G.lt
  clear G
  go_wp2_with fail
  refine (unhide q6 _ (unhide HB)).mono ?_; rintro e w8 ⟨rfl, hb8⟩
  have HB := hide ((unhide HB).trans (hb8.mono (unhide HB).size))
  have H8 := hide ((unhide H7).call hb8)
  clear hb8 q6 H7 pa0 pa1 pa2 pa3 pa4 pa5 pa6 pa7 za
  have G := unhide H8
  have pa0 := G.cell 0 _ rfl; have pa1 := G.cell 1 _ rfl; have pa2 := G.cell 2 _ rfl; have pa3 := G.cell 3 _ rfl; have pa4 := G.cell 4 _ rfl; have pa5 := G.cell 5 _ rfl; have pa6 := G.cell 6 _ rfl; have pa7 := G.cell 7 _ rfl; have za := G.lt
  clear G
  go_upto_region 11 with fail
  have BW := hide (Below.drew (Below.refl w8.heap.size w8))
  refine Reg.region_mix [0, 1, 2, 3, 4, 5, 6, 7, 8, 9, 10, 11, 12, 13, 14, 15, 16, 17, 18, 19, 20, 21, 22, 23, 24, 25, 26, 27, 28, 29, 31, 30, 32, 33, 34, 35, 36, 38, 37, 39, 40, 41, 42, 43, 45, 44, 46, 47, 48, 49] (by kernel_rfl) (by kernel_rfl) (by kernel_rfl) (by decide) (by intro c a d v w h; cases d <;> exact h) ?_
  simp only [Reg.pickL, List.getElem?_cons_zero, List.getElem?_cons_succ]
  refine Reg.mix_take 31 (by kernel_rfl) ?_
  simp only [List.take_succ_cons, List.take_zero, List.drop_succ_cons, List.drop_zero]
  repeat (go_big_quiet_step (fail))
  refine wpQuiet_nil ?_
  refine Reg.mix_one (by kernel_rfl) ?_
  go_wp2_with ((go_at_call 24; refine (unhide q7 _ ((unhide HB).trans ((unhide BW).mono (unhide HB).size))).mono ?_; rintro e w9 ⟨rfl, hb⟩; have BW := hide ((unhide BW).trans (hb.mono (unhide BW).size)); clear hb))
  refine ⟨rfl, ⟨⟨_, unhide BW⟩, rfl⟩, ?_⟩
  refine Reg.mix_one (by kernel_rfl) ?_
  go_wp2_with ((go_at_call 33; refine (unhide q8 _ ((unhide HB).trans ((unhide BW).mono (unhide HB).size))).mono ?_; rintro e w10 ⟨rfl, hb⟩; have BW := hide ((unhide BW).trans (hb.mono (unhide BW).size)); clear hb))
  refine ⟨rfl, ⟨⟨_, unhide BW⟩, rfl⟩, ?_⟩
  refine Reg.mix_take 5 (by kernel_rfl) ?_
  simp only [List.take_succ_cons, List.take_zero, List.drop_succ_cons, List.drop_zero]
  repeat (go_big_quiet_step (fail))
  refine wpQuiet_nil ?_
  refine Reg.mix_one (by kernel_rfl) ?_
  go_wp2_with ((go_at_call 23; refine (unhide q9 _).mono ?_; rintro e w11 ⟨rfl, rfl⟩))
  refine ⟨rfl, ⟨⟨_, unhide BW⟩, rfl⟩, ?_⟩
  refine Reg.mix_one (by kernel_rfl) ?_
  go_wp2_with ((go_at_call 34; refine (unhide q10 _).mono ?_; rintro e w12 ⟨rfl, rfl⟩))
  refine ⟨rfl, ⟨⟨_, unhide BW⟩, rfl⟩, ?_⟩
  refine Reg.mix_take 5 (by kernel_rfl) ?_
  simp only [List.take_succ_cons, List.take_zero, List.drop_succ_cons, List.drop_zero]
  repeat (go_big_quiet_step (fail))
  refine wpQuiet_nil ?_
  refine Reg.mix_one (by kernel_rfl) ?_
  go_wp2_with ((go_at_call 21; refine (unhide q11 _ ((unhide HB).trans ((unhide BW).mono (unhide HB).size))).mono ?_; rintro e w13 ⟨b1, rfl, hr1, hb⟩; have RA := hide hr1; have BW := hide ((unhide BW).trans (hb.mono (unhide BW).size)); clear hb hr1))
  refine ⟨rfl, ⟨⟨_, unhide BW⟩, rfl⟩, ?_⟩
  refine Reg.mix_one (by kernel_rfl) ?_
  go_wp2_with ((go_at_call 35; refine (unhide q12 _).mono ?_; rintro e w14 ⟨b2, rfl, hr2, hb⟩; have RA2 := hide ((unhide RA).below hb); have RB := hide hr2; have BW := hide ((unhide BW).trans (hb.mono (unhide BW).size)); clear hb hr2))
  refine ⟨rfl, ⟨⟨_, unhide BW⟩, rfl⟩, ?_⟩
  have hctl : ([ctF] : List Fld).length ≤ 1000 ∧ ∀ f ∈ ([ctF] : List Fld), f.1.size ≤ 100000 := ⟨by simp, by intro f hf; rw [List.mem_singleton] at hf; subst hf; decide⟩
  have hnil : ([] : List Fld).length ≤ 1000 ∧ ∀ f ∈ ([] : List Fld), f.1.size ≤ 100000 := ⟨by simp, by simp⟩
  have qs := hide (rsame06_any ⟨#[]⟩ ⟨#[]⟩ (reasonB sta) (plainB sta) sta 1 (.slice (some ⟨b1, 0, none⟩) 1 1) (.slice (some ⟨b2, 0, none⟩) 1 1) (.slice none 0 0) (.slice none 0 0) [ctF] [ctF] [] [] w14 hctl hctl hnil hnil (unhide RA2) (unhide RB) (Rd.nil _ _) (Rd.nil _ _))
  rw [sameFs_self', sameFs_self'] at qs
  unfold msgV at qs
  unfold plainA
  clear hctl hnil RA RA2 RB
  refine Reg.mix_one (by kernel_rfl) ?_
  go_wp2_with ((go_at_call 18; refine (unhide qs).mono ?_; rintro e w15 ⟨rfl, hb⟩; have BW := hide ((unhide BW).trans (hb.mono (unhide BW).size)); clear hb))
  refine ⟨rfl, ⟨⟨_, unhide BW⟩, rfl⟩, ?_⟩
  refine Reg.mix_take 2 (by kernel_rfl) ?_
  simp only [List.take_succ_cons, List.take_zero, List.drop_succ_cons, List.drop_zero]
  repeat (go_big_quiet_step (fail))
  refine wpQuiet_nil ?_
  refine Reg.mix_nil ?_
  go_wp2_with fail
  go_ret
  exact ⟨rfl, ((unhide HB).trans ((unhide BW).mono (unhide HB).size))⟩
end Go.Proofs.YtbpopmbabckojaaGreatDoor.Sp

/- What a row's listed variables give: the table of powers of ten; the table of trailing zeros. -/
namespace Go.Proofs.YtbpopmbabckojaaGreatDoor.Sp
open Go.ChangeShapes Go.WideShapes Go.ChangeAt Go.RowKit

def pow10Row : List (String × DataW Unit) := [("internal/strconv.uint64pow10", Lib.tabData .u64 Lib.pow10Tab)]
theorem pow10_of {W : World} {l : List (String × DataW Unit)} (hl : (l.filter fun x => x.1 == "internal/strconv.uint64pow10") = pow10Row) (h : laidMet Tryz.prog l W) : Pow10 W := by
  have h2 := laidMet.filter (fun x => x.1 == "internal/strconv.uint64pow10") h
  rw [hl] at h2
  exact Lib.tabIs_of_head (g := 0) (by kernel_rfl) (by kernel_rfl) Tryz.underlying139 Tryz.underlying120 (by kernel_rfl) (by kernel_rfl) h2
def bruTab : List Int := Lib.deBruijn64tab.map Int.ofNat
def bruRow : List (String × DataW Unit) := [("math/bits.deBruijn64tab", Lib.tabData .u8 bruTab)]
theorem bru_of {W : World} {l : List (String × DataW Unit)} (hl : (l.filter fun x => x.1 == "math/bits.deBruijn64tab") = bruRow) (h : laidMet Tryz.prog l W) : Bru W := by
  have h2 := laidMet.filter (fun x => x.1 == "math/bits.deBruijn64tab") h
  rw [hl] at h2
  have h3 : Lib.TabIs Tryz.prog W "math/bits.deBruijn64tab" .u8 bruTab := Lib.tabIs_of_head (g := 3) (by kernel_rfl) (by kernel_rfl) Tryz.underlying189 Tryz.underlying5 (by kernel_rfl) (by kernel_rfl) h2
  exact h3.cell (g := 3) (by kernel_rfl) 15 (by decide)
end Go.Proofs.YtbpopmbabckojaaGreatDoor.Sp

/- A message that came in is opened. -/
namespace Go.Proofs.YtbpopmbabckojaaGreatDoor.Sp
open Go.ChangeShapes Go.WideShapes Go.ChangeAt Go.RowKit Go.Deep Sl Go.Joins

theorem wAll {H : Type} {P : Program} {e : TypeId} {d : DataW H} {n : Nat} : ∀ {l : List (DataW H)}, d ∈ l → n ∈ d.weights P e → n ∈ DataW.weightsAll P e l
  | x :: r, h, hn => by
    simp only [DataW.weightsAll, List.mem_append]
    rcases List.mem_cons.1 h with rfl | h
    · exact .inl hn
    · exact .inr (wAll h hn)

theorem fields_of {H : Type} {enc : TypeId × Value → H} {W : World} {v : Value} {fuel : Nat} {x : DataW H × List MemPlace}
    (h : DataW.trod enc Tryz.prog W 0 (fun _ => true) true fuel 22 [v] = some x) (hw : ∀ n ∈ x.1.weights Tryz.prog 22, n ≤ reachBytes) :
    ∃ L : List Fld, L.length ≤ 9223372036854775807 ∧ (∀ f ∈ L, f.1.size ≤ 1000000000000000 ∧ f.2.size ≤ 1000000000000000) ∧ Rd W v L.length 2 (fldV L) := by
  rcases open_slice_pairs Tryz.underlying22 Tryz.underlying55 (by kernel_rfl) rfl rfl (by kernel_rfl) (by kernel_rfl) h with ⟨hcs, _⟩ | ⟨a, len, cap, m, n, V0, V1, D0, D1, P0, P1, hcs, _, hlc, hm, hmm, rfl, hi⟩
  · simp at hcs
    subst hcs
    exact ⟨[], by simp, by simp, Rd.nil W 2⟩
  · simp at hcs
    subst hcs
    simp only [if_true] at hmm
    subst hmm
    have each : ∀ i, i < len → ∃ f : Fld, (W.cell? (a.add (i * 2)) = some (.string f.1) ∧ W.cell? (a.add (i * 2 + 1)) = some (.string f.2)) ∧ f.1.size ≤ 1000000000000000 ∧ f.2.size ≤ 1000000000000000 := fun i hi' => by
      obtain ⟨h0, h1, t0, t1⟩ := hi i (by omega)
      obtain ⟨s0, e0, q0, _⟩ := DataW.trod_string Tryz.underlying9 t0
      obtain ⟨s1, e1, q1, _⟩ := DataW.trod_string Tryz.underlying9 t1
      simp only [List.cons.injEq, and_true, Prod.mk.injEq] at e0 e1 q0 q1
      have hmem : DataW.agg [D0 i, D1 i] ∈ (List.range len).map fun i => DataW.agg [D0 i, D1 i] := List.mem_map.2 ⟨i, List.mem_range.2 hi', rfl⟩
      have hsub : ∀ q, q ∈ (DataW.agg [D0 i, D1 i]).weights Tryz.prog 55 → q ≤ reachBytes := fun q hq => hw q (by
        simp only [DataW.weights, Tryz.underlying22, List.mem_cons, List.mem_append]
        exact .inr (.inl (wAll hmem hq)))
      have hz : ∀ k, k ≤ reachBytes → k ≤ 1000000000000000 := fun k hk => by unfold reachBytes at hk; omega
      refine ⟨(s0, s1), ⟨by rw [h0, e0], by rw [h1, e1]⟩, ?_, ?_⟩
      · have := hz _ (hsub s0.data.toList.length (by simp [DataW.weights, Tryz.underlying55, DataW.weightsEach, q0.1]))
        simpa using this
      · have := hz _ (hsub s1.data.toList.length (by simp [DataW.weights, Tryz.underlying55, DataW.weightsEach, q1.1]))
        simpa using this
    obtain ⟨f, hf'⟩ := choose_lt each
    refine ⟨(List.range len).map f, by simp; unfold maxLen at hm; omega, fun x hx => ?_, ?_⟩
    · obtain ⟨i, hi', rfl⟩ := List.mem_map.1 hx
      exact (hf' i (List.mem_range.1 hi')).2
    · refine ⟨some a, m, by simp, by simpa using hlc, (fun h => by cases h), fldV_len _, fun hne => ?_⟩
      have hpos : 0 < len := by
        rcases Nat.eq_zero_or_pos len with h0 | h0
        · subst h0; simp [fldV] at hne
        · exact h0
      have h0 := (hf' 0 hpos).1.1
      obtain ⟨b, off, spot⟩ := a
      have hspot : spot = none := by simpa [Addr.add] using World.cell?_spot h0
      subst hspot
      refine ⟨b, off, rfl, by have := World.block_lt_of_cell? W _ h0; simpa [Addr.add] using this, fun i u hu => ?_⟩
      have hlen : ((List.range len).map f).length = len := by simp
      have hil : i < len * 2 := by
        have := (List.getElem?_eq_some_iff.1 hu).1
        rw [fldV_len, hlen] at this
        exact this
      have hg := fldV_get ((List.range len).map f) (i / 2) (by rw [hlen]; omega)
      have hc := (hf' (i / 2) (by omega)).1
      simp only [List.getElem_map, List.getElem_range] at hg
      rcases Nat.mod_two_eq_zero_or_one i with hp | hp
      · have e : i / 2 * 2 = i := by omega
        rw [e] at hg hc
        rw [hg.1] at hu
        cases hu
        have := hc.1
        rwa [Addr.add_mid] at this
      · have e : i / 2 * 2 + 1 = i := by omega
        rw [e] at hg hc
        rw [hg.2] at hu
        cases hu
        have := hc.2
        rwa [Addr.add_mid] at this

theorem array8 {α : Type} {cs : Array α} (h : cs.size = 8) : ∃ a b c d e f g i, cs = #[a, b, c, d, e, f, g, i] := by
  obtain ⟨l⟩ := cs
  match l, h with
  | [a, b, c, d, e, f, g, i], _ => exact ⟨a, b, c, d, e, f, g, i, rfl⟩
set_option maxRecDepth 100000 in
theorem msg_of {H : Type} {enc : TypeId × Value → H} {W : World} {b0 : Nat} {v : Value} {d : DataW H} {p : List MemPlace} (hv : Value.okWide Tryz.prog W .any b0 24 v)
    (h : DataW.Trod enc Tryz.prog W 0 (fun _ => true) true 24 v d p) (hw : ∀ n ∈ d.weights Tryz.prog 24, n ≤ reachBytes) :
    ∃ (me ta re bo : ByteArray) (st mi : Int) (fs tr : Value) (F T : List Fld), v = .agg (msgV me ta st re mi fs bo tr) ∧ me.size ≤ 9223372036854775807 ∧ ta.size ≤ 9223372036854775807 ∧ re.size ≤ 9223372036854775807 ∧ bo.size ≤ 9223372036854775807 ∧
      F.length ≤ 9223372036854775807 ∧ T.length ≤ 9223372036854775807 ∧ (∀ f ∈ F, f.1.size ≤ 1000000000000000 ∧ f.2.size ≤ 1000000000000000) ∧ (∀ f ∈ T, f.1.size ≤ 1000000000000000 ∧ f.2.size ≤ 1000000000000000) ∧ Rd W fs F.length 2 (fldV F) ∧ Rd W tr T.length 2 (fldV T) := by
  obtain ⟨cs, rfl, hsz⟩ := okWide_struct Tryz.underlying24 hv
  obtain ⟨c0, c1, c2, c3, c4, c5, c6, c7, rfl⟩ := array8 (hsz.trans (by kernel_rfl))
  obtain ⟨fuel, hf⟩ := h
  obtain ⟨xs, n, _, hx, _, hlen, hfs⟩ := DataW.trod_struct Tryz.underlying24 hf
  match xs, hlen with
  | [y0, y1, y2, y3, y4, y5, y6, y7], _ =>
    have k9 : Tryz.prog.cellsOf 9 = 1 := by kernel_rfl
    have k3 : Tryz.prog.cellsOf 3 = 1 := by kernel_rfl
    have k22 : Tryz.prog.cellsOf 22 = 1 := by kernel_rfl
    have g0 := hfs 0 _ rfl
    have g1 := hfs 1 _ rfl
    have g2 := hfs 2 _ rfl
    have g3 := hfs 3 _ rfl
    have g4 := hfs 4 _ rfl
    have g5 := hfs 5 _ rfl
    have g6 := hfs 6 _ rfl
    have g7 := hfs 7 _ rfl
    simp [Value.cells, k9, k3, k22] at g0 g1 g2 g3 g4 g5 g6 g7
    obtain ⟨me, e0, _, z0⟩ := DataW.trod_string Tryz.underlying9 g0
    obtain ⟨ta, e1, _, z1⟩ := DataW.trod_string Tryz.underlying9 g1
    obtain ⟨st, e2, _, _⟩ := DataW.trod_int Tryz.underlying3 g2
    obtain ⟨re, e3, _, z3⟩ := DataW.trod_string Tryz.underlying9 g3
    obtain ⟨mi, e4, _, _⟩ := DataW.trod_int Tryz.underlying3 g4
    obtain ⟨bo, e6, _, z6⟩ := DataW.trod_string Tryz.underlying9 g6
    simp only [Prod.mk.injEq] at hx
    have hwe : ∀ (j : Nat) (t : TypeId) (y : DataW H), ([9, 9, 3, 9, 3, 22, 9, 22] : List TypeId)[j]? = some t → ([y0.1, y1.1, y2.1, y3.1, y4.1, y5.1, y6.1, y7.1] : List (DataW H))[j]? = some y → ∀ q ∈ y.weights Tryz.prog t, q ≤ reachBytes := by
      intro j t y ht hy q hq
      refine hw q ?_
      rw [hx.1]
      simp only [DataW.weights, Tryz.underlying24]
      exact DataW.weights_mem_each (ts := [9, 9, 3, 9, 3, 22, 9, 22]) ht hy q hq
    obtain ⟨F, hF1, hF2, hF3⟩ := fields_of g5 (hwe 5 _ _ rfl rfl)
    obtain ⟨T, hT1, hT2, hT3⟩ := fields_of g7 (hwe 7 _ _ rfl rfl)
    unfold maxLen at z0 z1 z3 z6
    simp only [List.cons.injEq, and_true] at e0 e1 e2 e3 e4 e6
    exact ⟨me, ta, re, bo, st, mi, c5, c7, F, T, by rw [e0, e1, e2, e3, e4, e6]; rfl, by omega, by omega, by omega, by omega, hF1, hT1, hF2, hT2, hF3, hT3⟩
set_option maxRecDepth 100000 in
theorem fieldsP_of {H : Type} {enc : TypeId × Value → H} {W : World} {v : Value} {d : DataW H} {p : List MemPlace} {b0 : Nat} (hv : Value.okWide Tryz.prog W .any b0 22 v) (h : DataW.Trod enc Tryz.prog W 0 (fun _ => true) true 22 v d p) (hw : ∀ n ∈ d.weights Tryz.prog 22, n ≤ reachBytes) :
    ∃ L : List Fld, L.length ≤ 9223372036854775807 ∧ (∀ f ∈ L, f.1.size ≤ 1000000000000000 ∧ f.2.size ≤ 1000000000000000) ∧ Rd W v L.length 2 (fldV L) := by
  obtain ⟨ao, ln, cp, rfl⟩ := okWide_slice Tryz.underlying22 hv
  obtain ⟨fuel, hf⟩ := h
  have hf2 : DataW.trod enc Tryz.prog W 0 (fun _ => true) true fuel 22 [.slice ao ln cp] = some (d, p) := hf
  exact fields_of (x := (d, p)) hf2 hw
end Go.Proofs.YtbpopmbabckojaaGreatDoor.Sp

/- The frame of a law's row: what a law leaves behind (it returns true, has made memory, and changed nothing that was there) is what the row asks. -/
namespace Go.Proofs.YtbpopmbabckojaaGreatDoor.Frame
open Go.ChangeShapes Go.WideShapes Go.ChangeAt Go.RowKit
variable {H : Type} {enc : TypeId × Value → H} {P : Program}

/-- What was read of the arguments reads so still. -/
theorem args_stay (hl : laidOutB P = true) {W W' : World} (hb : Below W.heap.size W W') : ∀ (ts : List TypeId) (vs : List Value) (ds : List (DataW H)) (ps : List MemPlace),
    (∀ t ∈ ts, P.readableRec t = true ∧ t < P.types.size) → DataW.TrodAll enc P W 0 (fun _ => true) true ts vs ds ps → (∀ x ∈ ps, x.block < W.heap.size) →
    DataW.TrodAll enc P W' 0 (fun b => decide (b < W.heap.size)) true ts vs ds ps
  | [], vs, ds, ps, _, h, _ => by
    obtain ⟨rfl, rfl, rfl⟩ := trodAll_nil h
    exact trodAll_mk0
  | t :: ts, vs, ds, ps, hts, h, hlt => by
    obtain ⟨v, vs', d, ds', p, q, rfl, rfl, rfl, h0, hr⟩ := trodAll_cons h
    refine trodAll_cons_mk ?_ (args_stay hl hb ts vs' ds' q (fun t ht => hts t (List.mem_cons_of_mem _ ht)) hr (fun x hx => hlt x (List.mem_append.2 (.inr hx))))
    have ht := hts t (List.mem_cons.2 (.inl rfl))
    exact Below.trod hl ht.1 ht.2 h0 hb (fun x hx => hlt x (List.mem_append.2 (.inl hx)))

/-- THE FRAME. -/
theorem law_post {f : Func} {s : ChangeSpec} {W W' : World} {args : Array Value} {ds gs : List (DataW H)} {before : List MemPlace} {tb : TypeId}
    (hW : DataW.Whole enc P f.params.toList s.vars false W args.toList ds gs before) (hvars : s.vars = []) (hl : laidOutB P = true) (hts : ∀ t ∈ f.params.toList, P.readableRec t = true ∧ t < P.types.size)
    (hrt : f.resultTypes = #[tb]) (htb : P.underlying tb = some .bool) (hres : (s.fn H ds).results = [.lit (.bool true)]) (hargs : (s.fn H ds).args = ds) (hvs : (s.fn H ds).vars = []) (hb : Below W.heap.size W W') :
    s.post enc P f false true false false W args (.bool true) W' := by
  have hlt := hW.lt
  have hW' := hW
  obtain ⟨p, q, hA, hV, rfl, hfz, hnd⟩ := hW
  rw [hvars] at hV
  obtain ⟨rfl, rfl⟩ := trodVars_none hV
  refine ⟨ds, [], p ++ [], [], p, [], hW', ?_, ?_, ?_, hb.frame _, fun h => by cases h⟩
  · rw [List.append_nil, hres, hrt]
    exact trodAll_cons_mk (shut_bool htb _) trodAll_mk0
  · rw [List.append_nil, hargs]
    exact args_stay hl hb _ _ _ _ hts hA (fun x hx => hlt x (List.mem_append.2 (.inl hx)))
  · rw [hvars, List.append_nil, hvs]
    exact rfl
end Go.Proofs.YtbpopmbabckojaaGreatDoor.Frame
