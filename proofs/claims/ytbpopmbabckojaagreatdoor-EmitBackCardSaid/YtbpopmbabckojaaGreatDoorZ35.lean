/- Lemmas for the statement's proof, several texts in one: M16, M17. -/
import Derived.Test.YtbpopmbabckojaaGreatDoorZ34
import Derived.Test.YtbpopmbabckojaaGreatDoorZ17
import Derived.Test.YtbpopmbabckojaaGreatDoorZ15
import Derived.Test.YtbpopmbabckojaaGreatDoorZ33
set_option linter.unusedVariables false
set_option linter.unusedSimpArgs false
/- emit.Plain, ref08.Plain; the reference's Same of messages. -/
section
namespace Go.Proofs.YtbpopmbabckojaaGreatDoor.Sp
open Go.RowKit Sl

def ctF : Fld := (⟨#[67, 111, 110, 116, 101, 110, 116, 45, 84, 121, 112, 101]⟩, ⟨#[116, 101, 120, 116, 47, 112, 108, 97, 105, 110]⟩)
def plainB (st : Int) : ByteArray := itoaB st ++ ⟨#[32]⟩ ++ reasonB st ++ ⟨#[10]⟩
def plainA (st : Int) (fs : Value) : Array Value := #[.string ⟨#[]⟩, .string ⟨#[]⟩, .int .i64 st, .string (reasonB st), .int .i64 1, fs, .string (plainB st), .slice none 0 0]
theorem plainA_msg (st : Int) (fs : Value) : plainA st fs = msgV ⟨#[]⟩ ⟨#[]⟩ st (reasonB st) 1 fs (plainB st) (.slice none 0 0) := rfl
def PlainO (st : Int) (w : World) (e : Ending) (w' : World) : Prop :=
  ∃ b, e = .returned (.agg (plainA st (.slice (some ⟨b, 0, none⟩) 1 1))) ∧ Rd w' (.slice (some ⟨b, 0, none⟩) 1 1) 1 2 (fldV [ctF]) ∧ Below w.heap.size w w'
theorem reasonB_size (st : Int) : (reasonB st).size ≤ 40 := by
  have h : ∀ (c : Prop) [Decidable c] (a b : ByteArray), a.size ≤ 40 → b.size ≤ 40 → (if c then a else b).size ≤ 40 := by intros; split <;> assumption
  unfold reasonB
  repeat (refine h _ _ _ (by decide) ?_)
  decide
theorem cell_setCells_other {b b1 : Nat} (h : b1 ≠ b) (i : Nat) : ∀ (vs : List Value) (o : Nat) (w : World), (w.setCells b o vs).cell? ⟨b1, i, none⟩ = w.cell? ⟨b1, i, none⟩
  | [], _, _ => rfl
  | v :: vs, o, w => by
    show ((w.setCell ⟨b, o, none⟩ v).setCells b (o + 1) vs).cell? _ = _
    rw [cell_setCells_other h i vs (o + 1) _]
    exact World.cell?_setCell_other _ _ _ _ (by simp [h])
theorem rd_setCells {w : World} {b1 n c m sz : Nat} {xs : List Value} {b : Nat} (h : Rd w (.slice (some ⟨b1, 0, none⟩) n c) m sz xs) (hne : b1 ≠ b) (vs : List Value) : Rd (w.setCells b 0 vs) (.slice (some ⟨b1, 0, none⟩) n c) m sz xs := by
  obtain ⟨ao, cap, e, hcp, hz, hl, hc⟩ := h
  refine ⟨ao, cap, e, hcp, hz, hl, fun hx => ?_⟩
  obtain ⟨b2, off, e2, hlt, hcc⟩ := hc hx
  subst e2
  simp only [Value.slice.injEq, Option.some.injEq, Addr.mk.injEq, and_true] at e
  obtain ⟨⟨rfl, rfl⟩, rfl, rfl⟩ := e
  exact ⟨b1, 0, rfl, by rw [size_setCells]; exact hlt, fun i u hu => (cell_setCells_other hne _ vs 0 w).trans (hcc i u hu)⟩
theorem rd_ct (w : World) : Rd (w.alloc (.cells #[.string ⟨#[67, 111, 110, 116, 101, 110, 116, 45, 84, 121, 112, 101]⟩, .string ⟨#[116, 101, 120, 116, 47, 112, 108, 97, 105, 110]⟩] 55)) (.slice (some ⟨w.heap.size, 0, none⟩) 1 1) 1 2 (fldV [ctF]) := rd_litF w [ctF] 1 rfl

set_option maxRecDepth 100000 in
set_option maxHeartbeats 2000000 in
theorem eplain_any (st : Int) (h0 : -9223372036854775808 ≤ st) (h1 : st ≤ 9223372036854775807) (w : World) (hT : Pow10 w) :
    Calls Tryz.prog 21 #[.int .i64 st] w (PlainO st w) := by
  have qr := hide (fun w => reason_any st w)
  have qi := hide (fun w1 (hb : Below w.heap.size w w1) => itoa_any st h0 h1 w1 (hT.below hb))
  have hz1 := reasonB_size st
  have hz2 := itoa_size st h0 h1
  have HX := Lib.hid (show plainB st = itoaB st ++ ⟨#[32]⟩ ++ reasonB st ++ ⟨#[10]⟩ from rfl)
  have HZ := hide (Reg.Has.at w w.heap.size zeroM 24 rfl)
  have HB := hide ((Below.refl w.heap.size w).alloc (Nat.le_refl _) (.cells zeroM.toArray 24))
  obtain ⟨r, hr⟩ : ∃ r, reasonB st = r := ⟨_, rfl⟩
  obtain ⟨d, hd⟩ : ∃ r, itoaB st = r := ⟨_, rfl⟩
  rw [hr] at qr hz1 HX
  rw [hd] at qi hz2 HX
  have y1 : (⟨#[32]⟩ : ByteArray).size = 1 := rfl
  have y2 : (⟨#[10]⟩ : ByteArray).size = 1 := rfl
  have HR := Lib.hid hr
  clear hT hr hd
  go_enter Tryz.func21, Tryz.ntmps21
  go_wp2_with fail
  refine (unhide qr _).mono ?_; rintro e w' ⟨rfl, rfl⟩
  unfold zeroM at HZ HB
  generalize hw1 : w.alloc (.cells #[.string ⟨#[]⟩, .string ⟨#[]⟩, .int .i64 0, .string ⟨#[]⟩, .int .i64 0, .slice none 0 0, .string ⟨#[]⟩, .slice none 0 0] 24) = w1 at *
  clear hw1
  go_wp2_with fail
  have HRd := hide (rd_ct w1)
  have HZ2 := hide ((unhide HZ).alloc (.cells #[.string ⟨#[67, 111, 110, 116, 101, 110, 116, 45, 84, 121, 112, 101]⟩, .string ⟨#[116, 101, 120, 116, 47, 112, 108, 97, 105, 110]⟩] 55))
  have HB2 := hide ((unhide HB).alloc (unhide HB).size (.cells #[.string ⟨#[67, 111, 110, 116, 101, 110, 116, 45, 84, 121, 112, 101]⟩, .string ⟨#[116, 101, 120, 116, 47, 112, 108, 97, 105, 110]⟩] 55))
  have hlt1 : w.heap.size < w1.heap.size := (unhide HZ).lt
  have hlt : w1.heap.size < (w1.alloc (.cells #[.string ⟨#[67, 111, 110, 116, 101, 110, 116, 45, 84, 121, 112, 101]⟩, .string ⟨#[116, 101, 120, 116, 47, 112, 108, 97, 105, 110]⟩] 55)).heap.size := by simp
  generalize hw2 : w1.alloc (.cells #[.string ⟨#[67, 111, 110, 116, 101, 110, 116, 45, 84, 121, 112, 101]⟩, .string ⟨#[116, 101, 120, 116, 47, 112, 108, 97, 105, 110]⟩] 55) = w2 at *
  clear hw2 HZ HB
  generalize hb1 : w1.heap.size = b1 at *
  clear hb1
  refine (unhide qi _ (unhide HB2)).mono ?_; rintro e w3 ⟨rfl, hb3⟩
  have HRd3 := hide ((unhide HRd).below hb3)
  have HZ3 := hide ((unhide HZ2).call hb3)
  have HB3 := hide ((unhide HB2).trans (hb3.mono (unhide HB2).size))
  have hb1 : b1 < w3.heap.size := Nat.lt_of_lt_of_le hlt hb3.size
  clear hb3
  go_wp2_with (refine wpList_storeM rfl _ _ rfl w.heap.size rfl #[.string ⟨#[]⟩, .string ⟨#[]⟩, .int .i64 st, .string r, .int .i64 1, .slice (some ⟨b1, 0, none⟩) 1 1, .string (d ++ ⟨#[32]⟩ ++ r ++ ⟨#[10]⟩), .slice none 0 0] rfl rfl zeroM rfl (unhide HZ3) (by first | rfl | kernel_rfl | decide) ?_; intro HM; have HBM := below_setCells (B := w.heap.size) w.heap.size (Nat.le_refl _) (#[.string ⟨#[]⟩, .string ⟨#[]⟩, .int .i64 st, .string r, .int .i64 1, .slice (some ⟨b1, 0, none⟩) 1 1, .string (d ++ ⟨#[32]⟩ ++ r ++ ⟨#[10]⟩), .slice none 0 0] : Array Value).toList 0 _ (unhide HB3); have HRM := hide (rd_setCells (unhide HRd3) (b := w.heap.size) (by omega) (#[.string ⟨#[]⟩, .string ⟨#[]⟩, .int .i64 st, .string r, .int .i64 1, .slice (some ⟨b1, 0, none⟩) 1 1, .string (d ++ ⟨#[32]⟩ ++ r ++ ⟨#[10]⟩), .slice none 0 0] : Array Value).toList); generalize w3.setCells w.heap.size 0 (#[.string ⟨#[]⟩, .string ⟨#[]⟩, .int .i64 st, .string r, .int .i64 1, .slice (some ⟨b1, 0, none⟩) 1 1, .string (d ++ ⟨#[32]⟩ ++ r ++ ⟨#[10]⟩), .slice none 0 0] : Array Value).toList = w4 at HM HBM HRM ⊢; have HMM := hide HM; have HBB := hide HBM; clear HM HBM HZ3)
  have hl := run_loadM w.heap.size #[.string ⟨#[]⟩, .string ⟨#[]⟩, .int .i64 st, .string r, .int .i64 1, .slice (some ⟨b1, 0, none⟩) 1 1, .string (d ++ ⟨#[32]⟩ ++ r ++ ⟨#[10]⟩), .slice none 0 0] rfl (unhide HMM)
  refine bodyPost_ret (Mem.results_cell1 (ad := ⟨w.heap.size, 0, none⟩) Tryz.results21 rfl hl) rfl ⟨b1, ?_, unhide HRM, unhide HBB⟩
  unfold plainA
  rw [HX.out, HR.out]

set_option maxRecDepth 100000 in
set_option maxHeartbeats 2000000 in
theorem rplain_any (st : Int) (h0 : -9223372036854775808 ≤ st) (h1 : st ≤ 9223372036854775807) (w : World) :
    Calls Tryz.prog 35 #[.int .i64 st] w (PlainO st w) := by
  have qr := hide (fun w => rreason_any st w)
  have qi := hide (fun w => digits_any st h0 h1 w)
  have hz1 := reasonB_size st
  have hz2 := itoa_size st h0 h1
  have HX := Lib.hid (show plainB st = itoaB st ++ ⟨#[32]⟩ ++ reasonB st ++ ⟨#[10]⟩ from rfl)
  have HZ := hide (Reg.Has.at w w.heap.size zeroM 24 rfl)
  have HB := hide ((Below.refl w.heap.size w).alloc (Nat.le_refl _) (.cells zeroM.toArray 24))
  obtain ⟨r, hr⟩ : ∃ r, reasonB st = r := ⟨_, rfl⟩
  obtain ⟨d, hd⟩ : ∃ r, itoaB st = r := ⟨_, rfl⟩
  rw [hr] at qr hz1 HX
  rw [hd] at qi hz2 HX
  have y1 : (⟨#[32]⟩ : ByteArray).size = 1 := rfl
  have y2 : (⟨#[10]⟩ : ByteArray).size = 1 := rfl
  have HR := Lib.hid hr
  clear hr hd
  go_enter Tryz.func35, Tryz.ntmps35
  go_wp2_with fail
  refine (unhide qr _).mono ?_; rintro e w' ⟨rfl, rfl⟩
  unfold zeroM at HZ HB
  generalize hw1 : w.alloc (.cells #[.string ⟨#[]⟩, .string ⟨#[]⟩, .int .i64 0, .string ⟨#[]⟩, .int .i64 0, .slice none 0 0, .string ⟨#[]⟩, .slice none 0 0] 24) = w1 at *
  clear hw1
  go_wp2_with fail
  have HRd := hide (rd_ct w1)
  have HZ2 := hide ((unhide HZ).alloc (.cells #[.string ⟨#[67, 111, 110, 116, 101, 110, 116, 45, 84, 121, 112, 101]⟩, .string ⟨#[116, 101, 120, 116, 47, 112, 108, 97, 105, 110]⟩] 55))
  have HB2 := hide ((unhide HB).alloc (unhide HB).size (.cells #[.string ⟨#[67, 111, 110, 116, 101, 110, 116, 45, 84, 121, 112, 101]⟩, .string ⟨#[116, 101, 120, 116, 47, 112, 108, 97, 105, 110]⟩] 55))
  have hlt1 : w.heap.size < w1.heap.size := (unhide HZ).lt
  have hlt : w1.heap.size < (w1.alloc (.cells #[.string ⟨#[67, 111, 110, 116, 101, 110, 116, 45, 84, 121, 112, 101]⟩, .string ⟨#[116, 101, 120, 116, 47, 112, 108, 97, 105, 110]⟩] 55)).heap.size := by simp
  generalize hw2 : w1.alloc (.cells #[.string ⟨#[67, 111, 110, 116, 101, 110, 116, 45, 84, 121, 112, 101]⟩, .string ⟨#[116, 101, 120, 116, 47, 112, 108, 97, 105, 110]⟩] 55) = w2 at *
  clear hw2 HZ HB
  generalize hb1 : w1.heap.size = b1 at *
  clear hb1
  refine (unhide qi _).mono ?_; rintro e w' ⟨rfl, rfl⟩
  go_wp2_with fail
  refine (unhide qr _).mono ?_; rintro e w3 ⟨rfl, hw3⟩
  have hb3 : Below w2.heap.size w2 w3 := by rw [← hw3]; exact Below.refl _ _
  clear hw3
  have HRd3 := hide ((unhide HRd).below hb3)
  have HZ3 := hide ((unhide HZ2).call hb3)
  have HB3 := hide ((unhide HB2).trans (hb3.mono (unhide HB2).size))
  have hb1 : b1 < w3.heap.size := Nat.lt_of_lt_of_le hlt hb3.size
  clear hb3
  go_wp2_with (refine wpList_storeM rfl _ _ rfl w.heap.size rfl #[.string ⟨#[]⟩, .string ⟨#[]⟩, .int .i64 st, .string r, .int .i64 1, .slice (some ⟨b1, 0, none⟩) 1 1, .string (d ++ ⟨#[32]⟩ ++ r ++ ⟨#[10]⟩), .slice none 0 0] rfl rfl zeroM rfl (unhide HZ3) (by first | rfl | kernel_rfl | decide) ?_; intro HM; have HBM := below_setCells (B := w.heap.size) w.heap.size (Nat.le_refl _) (#[.string ⟨#[]⟩, .string ⟨#[]⟩, .int .i64 st, .string r, .int .i64 1, .slice (some ⟨b1, 0, none⟩) 1 1, .string (d ++ ⟨#[32]⟩ ++ r ++ ⟨#[10]⟩), .slice none 0 0] : Array Value).toList 0 _ (unhide HB3); have HRM := hide (rd_setCells (unhide HRd3) (b := w.heap.size) (by omega) (#[.string ⟨#[]⟩, .string ⟨#[]⟩, .int .i64 st, .string r, .int .i64 1, .slice (some ⟨b1, 0, none⟩) 1 1, .string (d ++ ⟨#[32]⟩ ++ r ++ ⟨#[10]⟩), .slice none 0 0] : Array Value).toList); generalize w3.setCells w.heap.size 0 (#[.string ⟨#[]⟩, .string ⟨#[]⟩, .int .i64 st, .string r, .int .i64 1, .slice (some ⟨b1, 0, none⟩) 1 1, .string (d ++ ⟨#[32]⟩ ++ r ++ ⟨#[10]⟩), .slice none 0 0] : Array Value).toList = w4 at HM HBM HRM ⊢; have HMM := hide HM; have HBB := hide HBM; clear HM HBM HZ3)
  have hl := run_loadM w.heap.size #[.string ⟨#[]⟩, .string ⟨#[]⟩, .int .i64 st, .string r, .int .i64 1, .slice (some ⟨b1, 0, none⟩) 1 1, .string (d ++ ⟨#[32]⟩ ++ r ++ ⟨#[10]⟩), .slice none 0 0] rfl (unhide HMM)
  refine bodyPost_ret (Mem.results_cell1 (ad := ⟨w.heap.size, 0, none⟩) Tryz.results35 rfl hl) rfl ⟨b1, ?_, unhide HRM, unhide HBB⟩
  unfold plainA
  rw [HX.out, HR.out]
end Go.Proofs.YtbpopmbabckojaaGreatDoor.Sp
end

/- The reference's Same of messages; the first line's size; the law's own examples. -/
section
namespace Go.Proofs.YtbpopmbabckojaaGreatDoor.Sp
open Go.RowKit Sl

set_option maxRecDepth 100000 in
set_option maxHeartbeats 2000000 in
theorem rsame06_any (me ta re bo : ByteArray) (st mi : Int) (u v u' v' : Value) (A B A' B' : List Fld) (w : World) (hA : A.length ≤ 1000 ∧ ∀ f ∈ A, f.1.size ≤ 100000) (hB : B.length ≤ 1000 ∧ ∀ f ∈ B, f.1.size ≤ 100000) (hA' : A'.length ≤ 1000 ∧ ∀ f ∈ A', f.1.size ≤ 100000) (hB' : B'.length ≤ 1000 ∧ ∀ f ∈ B', f.1.size ≤ 100000)
    (h1 : Rd w u A.length 2 (fldV A)) (h2 : Rd w v B.length 2 (fldV B)) (h3 : Rd w u' A'.length 2 (fldV A')) (h4 : Rd w v' B'.length 2 (fldV B')) :
    Calls Tryz.prog 18 #[.agg (msgV me ta st re mi u bo u'), .agg (msgV me ta st re mi v bo v')] w fun e w' => e = .returned (.bool (sameFs A B && sameFs A' B')) ∧ Below w.heap.size w w' := by
  have q1 := hide (fun w1 (hb : Below w.heap.size w w1) => rsameF_any u v A B (by omega) (by omega) hA.2 hB.2 w1 (h1.below hb) (h2.below hb))
  have q2 := hide (fun w1 (hb : Below w.heap.size w w1) => rsameF_any u' v' A' B' (by omega) (by omega) hA'.2 hB'.2 w1 (h3.below hb) (h4.below hb))
  obtain ⟨a1, c1, rfl⟩ := h1.form
  obtain ⟨a2, c2, rfl⟩ := h2.form
  obtain ⟨a3, c3, rfl⟩ := h3.form
  obtain ⟨a4, c4, rfl⟩ := h4.form
  clear h1 h2 h3 h4 hA hB hA' hB'
  unfold msgV
  have HH := hide (Reg.Has.at w w.heap.size [.string me, .string ta, .int .i64 st, .string re, .int .i64 mi, .slice a1 A.length c1, .string bo, .slice a3 A'.length c3] 24 rfl)
  have HH1 := hide ((unhide HH).alloc (.cells #[.string me, .string ta, .int .i64 st, .string re, .int .i64 mi, .slice a2 B.length c2, .string bo, .slice a4 B'.length c4] 24))
  have HH2 := hide (Reg.Has.at (w.alloc (.cells #[.string me, .string ta, .int .i64 st, .string re, .int .i64 mi, .slice a1 A.length c1, .string bo, .slice a3 A'.length c3] 24)) (w.heap.size + 1) [.string me, .string ta, .int .i64 st, .string re, .int .i64 mi, .slice a2 B.length c2, .string bo, .slice a4 B'.length c4] 24 (by simp))
  have HB := hide (((Below.refl w.heap.size w).alloc (Nat.le_refl _) (.cells #[.string me, .string ta, .int .i64 st, .string re, .int .i64 mi, .slice a1 A.length c1, .string bo, .slice a3 A'.length c3] 24)).alloc (by simp) (.cells #[.string me, .string ta, .int .i64 st, .string re, .int .i64 mi, .slice a2 B.length c2, .string bo, .slice a4 B'.length c4] 24))
  clear HH
  obtain ⟨s1, hs1⟩ : ∃ b, sameFs A B = b := ⟨_, rfl⟩
  obtain ⟨s2, hs2⟩ : ∃ b, sameFs A' B' = b := ⟨_, rfl⟩
  rw [hs1] at q1 ⊢
  rw [hs2] at q2 ⊢
  clear hs1 hs2
  go_enter Tryz.func18, Tryz.ntmps18
  go_upto_region 1 with fail
  generalize hw2 : (w.alloc (.cells #[.string me, .string ta, .int .i64 st, .string re, .int .i64 mi, .slice a1 A.length c1, .string bo, .slice a3 A'.length c3] 24)).alloc (.cells #[.string me, .string ta, .int .i64 st, .string re, .int .i64 mi, .slice a2 B.length c2, .string bo, .slice a4 B'.length c4] 24) = w2 at *
  clear hw2
  have G1 := unhide HH1
  have G2 := unhide HH2
  have pa0 := G1.cell 0 _ rfl; have pa1 := G1.cell 1 _ rfl; have pa2 := G1.cell 2 _ rfl; have pa3 := G1.cell 3 _ rfl; have pa4 := G1.cell 4 _ rfl; have pa5 := G1.cell 5 _ rfl; have pa6 := G1.cell 6 _ rfl; have pa7 := G1.cell 7 _ rfl; have za := G1.lt
  have pb0 := G2.cell 0 _ rfl; have pb1 := G2.cell 1 _ rfl; have pb2 := G2.cell 2 _ rfl; have pb3 := G2.cell 3 _ rfl; have pb4 := G2.cell 4 _ rfl; have pb5 := G2.cell 5 _ rfl; have pb6 := G2.cell 6 _ rfl; have pb7 := G2.cell 7 _ rfl; have zb := G2.lt
  clear G1 G2
  cases s1
  · go_wp2_with fail
    refine (unhide q1 _ (unhide HB)).mono ?_; rintro e w3 ⟨rfl, hb3⟩
    have HB3 := hide ((unhide HB).trans (hb3.mono (unhide HB).size))
    clear hb3
    go_wp2_with fail
    go_ret
    exact ⟨rfl, unhide HB3⟩
  · go_wp2_with fail
    refine (unhide q1 _ (unhide HB)).mono ?_; rintro e w3 ⟨rfl, hb3⟩
    have HB3 := hide ((unhide HB).trans (hb3.mono (unhide HB).size))
    have G1 := (unhide HH1).call hb3
    have G2 := (unhide HH2).call hb3
    clear hb3 pa0 pa1 pa2 pa3 pa4 pa5 pa6 pa7 za pb0 pb1 pb2 pb3 pb4 pb5 pb6 pb7 zb
    have pa0 := G1.cell 0 _ rfl; have pa1 := G1.cell 1 _ rfl; have pa2 := G1.cell 2 _ rfl; have pa3 := G1.cell 3 _ rfl; have pa4 := G1.cell 4 _ rfl; have pa5 := G1.cell 5 _ rfl; have pa6 := G1.cell 6 _ rfl; have pa7 := G1.cell 7 _ rfl; have za := G1.lt
    have pb0 := G2.cell 0 _ rfl; have pb1 := G2.cell 1 _ rfl; have pb2 := G2.cell 2 _ rfl; have pb3 := G2.cell 3 _ rfl; have pb4 := G2.cell 4 _ rfl; have pb5 := G2.cell 5 _ rfl; have pb6 := G2.cell 6 _ rfl; have pb7 := G2.cell 7 _ rfl; have zb := G2.lt
    clear G1 G2
    go_wp2_with fail
    refine (unhide q2 _ (unhide HB3)).mono ?_; rintro e w4 ⟨rfl, hb4⟩
    have HB4 := hide ((unhide HB3).trans (hb4.mono (unhide HB3).size))
    clear hb4
    go_wp2_with fail
    go_ret
    exact ⟨by cases s2 <;> rfl, unhide HB4⟩

theorem ofL_size (l : List UInt8) : (ofL l).size = l.length := by simp [ofL, ByteArray.size]
theorem itoa01 (n : Int) (h0 : 0 ≤ n) (h1 : n ≤ 599) : (Lib.itoa n).length ≤ 20 := by
  have := itoa_size n (by omega) (by omega)
  rwa [show (itoaB n).size = (Lib.itoa n).length from ofL_size _] at this
theorem lineS_len (me ta re : ByteArray) (st mi : Int) (h1 : me.size ≤ 1000000) (h2 : ta.size ≤ 1000000) (h3 : re.size ≤ 1000000) : (ofL (lineS me ta re st mi).1).size ≤ 100000000 := by
  rw [ofL_size]
  have e1 : me.data.toList.length = me.size := by simp
  have e2 : ta.data.toList.length = ta.size := by simp
  have e3 : re.data.toList.length = re.size := by simp
  unfold lineS
  split
  · split
    · unfold slS
      split
      · rename_i h
        have i1 := itoa01 mi h.1 (by have := h.2.1; omega)
        have i2 := itoa01 st (by have := h.2.2.1; omega) h.2.2.2.1
        unfold slT httpV
        simp only [List.length_append, List.length_cons, List.length_nil]
        omega
      · simp
    · simp
  · split
    · unfold rlS
      split
      · rename_i h
        unfold rlOK at h
        have i1 := itoa01 mi (by omega) (by omega)
        unfold rlT httpV
        simp only [List.length_append, List.length_cons, List.length_nil]
        omega
      · simp
    · simp
end Go.Proofs.YtbpopmbabckojaaGreatDoor.Sp
end
