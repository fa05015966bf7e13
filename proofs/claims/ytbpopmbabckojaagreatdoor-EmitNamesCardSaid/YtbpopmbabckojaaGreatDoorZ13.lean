/- Lemmas for the statement's proof, several texts in one: M22, L1, Frame. -/
import Derived.Test.YtbpopmbabckojaaGreatDoorZ12
import Derived.Test.YtbpopmbabckojaaGreatDoorZ04
import Derived.Test.YtbpopmbabckojaaGreatDoorZ09
import Derived.LaidSub
import Derived.LaidLaws
import Derived.Lib.TrailingZeros
import Derived.Lib.LaidTab
import Derived.Test.YtbpopmbabckojaaGreatDoorRows
import Derived.WalkKit
import Derived.ProofKit
import Derived.OpenShut
import Derived.Below
import Derived.Carry
/- The walk of the law EmitNames. -/
namespace Go.Proofs.YtbpopmbabckojaaGreatDoor.Sp
open Go.RowKit Sl

theorem has_setCells_other {w : World} {b b1 : Nat} {vs : List Value} (h : Reg.Has w b1 vs) (hne : b1 ≠ b) (us : List Value) : Reg.Has (w.setCells b 0 us) b1 vs :=
  ⟨fun i v hv => (cell_setCells_other hne i us 0 w).trans (h.cell i v hv), fun i hi => by rw [World.frozen?_setCells]; exact h.free i hi, by rw [size_setCells]; exact h.lt⟩
theorem req_closed (me ta re bo out : ByteArray) (st mi n : Int) (fs tr : Value) (F T : List Fld) (h1 : me.size ≤ 1000000) (h2 : ta.size ≤ 1000000) (h3 : re.size ≤ 1000000) (h4 : bo.size ≤ 1000000) (hF : Few F) (hTr : Few T) (h : reqS me ta re bo st mi F T = (out, n)) (w : World) (hT : Pow10 w) (hv : Rd w fs F.length 2 (fldV F)) (hu : Rd w tr T.length 2 (fldV T)) :
    Calls Tryz.prog 27 #[.agg #[.string me, .string ta, .int .i64 st, .string re, .int .i64 mi, fs, .string bo, tr]] w fun e w' => e = .returned (.tuple #[.string out, .int .i64 n]) ∧ Below w.heap.size w w' := by
  refine (ereq_any me ta re bo st mi fs tr F T h1 h2 h3 h4 (lineS_len _ _ _ _ _ h1 h2 h3) hF hTr w hT hv hu).mono ?_
  rintro e w' ⟨he, hb⟩
  rw [h] at he
  exact ⟨he, hb⟩
theorem ress_closed (me ta re bo m out : ByteArray) (st mi n : Int) (fs tr : Value) (F T : List Fld) (h1 : me.size ≤ 1000000) (h2 : ta.size ≤ 1000000) (h3 : re.size ≤ 1000000) (h4 : bo.size ≤ 1000000) (hF : Few F) (hTr : Few T) (h : resS me ta re bo st mi F T m = (out, n)) (w : World) (hT : Pow10 w) (hv : Rd w fs F.length 2 (fldV F)) (hu : Rd w tr T.length 2 (fldV T)) :
    Calls Tryz.prog 11 #[.agg #[.string me, .string ta, .int .i64 st, .string re, .int .i64 mi, fs, .string bo, tr], .string m] w fun e w' => e = .returned (.tuple #[.string out, .int .i64 n]) ∧ Below w.heap.size w w' := by
  refine (eres_any me ta re bo m st mi fs tr F T h1 h2 h3 h4 (lineS_len _ _ _ _ _ h1 h2 h3) hF hTr w hT hv hu).mono ?_
  rintro e w' ⟨he, hb⟩
  rw [h] at he
  exact ⟨he, hb⟩
theorem chu_closed (me ta re bo out : ByteArray) (st mi size n : Int) (fs tr : Value) (F T : List Fld) (h1 : me.size ≤ 1000000) (h2 : ta.size ≤ 1000000) (h3 : re.size ≤ 1000000) (h4 : bo.size < 4096) (hs0 : -9223372036854775808 ≤ size) (hs1 : size ≤ 9223372036854775807) (hF : Few F) (hTr : Few T) (h : chuS me ta re bo st mi F T size = (out, n)) (w : World) (hT : Pow10 w) (hR : Bru w) (hv : Rd w fs F.length 2 (fldV F)) (hu : Rd w tr T.length 2 (fldV T)) :
    Calls Tryz.prog 29 #[.agg #[.string me, .string ta, .int .i64 st, .string re, .int .i64 mi, fs, .string bo, tr], .int .i64 size] w fun e w' => e = .returned (.tuple #[.string out, .int .i64 n]) ∧ Below w.heap.size w w' := by
  refine (echu_any me ta re bo st mi size fs tr F T h1 h2 h3 h4 hs0 hs1 (lineS_len _ _ _ _ _ h1 h2 h3) hF hTr w hT hR hv hu).mono ?_
  rintro e w' ⟨he, hb⟩
  rw [h] at he
  exact ⟨he, hb⟩
theorem chk_closed (me ta re bo : ByteArray) (st mi n : Int) (fs tr : Value) (F T : List Fld) (h1 : me.size ≤ 1000000) (h2 : ta.size ≤ 1000000) (h3 : re.size ≤ 1000000) (hF : Few F) (hTr : Few T) (h : emC me ta re st mi F T = n) (w : World) (hT : Pow10 w) (hv : Rd w fs F.length 2 (fldV F)) (hu : Rd w tr T.length 2 (fldV T)) :
    Calls Tryz.prog 24 #[.agg #[.string me, .string ta, .int .i64 st, .string re, .int .i64 mi, fs, .string bo, tr]] w fun e w' => e = .returned (.int .i64 n) ∧ Below w.heap.size w w' := by
  refine (echeck_any me ta re bo st mi fs tr F T h1 h2 h3 hF hTr w hT hv hu).mono ?_
  rintro e w' ⟨he, hb⟩
  rw [h] at he
  exact ⟨he, hb⟩

theorem rd_host (w : World) : Rd (w.alloc (.cells #[.string ⟨#[72, 111, 115, 116]⟩, .string ⟨#[97]⟩] 55)) (.slice (some ⟨w.heap.size, 0, none⟩) 1 1) 1 2 (fldV [hostF]) := rd_litF w [hostF] 1 rfl
theorem rd_clen (w : World) : Rd (w.alloc (.cells #[.string ⟨#[99, 111, 110, 116, 101, 110, 116, 45, 108, 101, 110, 103, 116, 104]⟩, .string ⟨#[49]⟩] 55)) (.slice (some ⟨w.heap.size, 0, none⟩) 1 1) 1 2 (fldV [clenF]) := rd_litF w [clenF] 1 rfl
theorem rd_tf (w : World) : Rd (w.alloc (.cells #[.string ⟨#[84]⟩, .string ⟨#[49]⟩] 55)) (.slice (some ⟨w.heap.size, 0, none⟩) 1 1) 1 2 (fldV [tF]) := rd_litF w [tF] 1 rfl
theorem rdSet1 {w : World} {b1 n c m sz : Nat} {xs : List Value} {a : Addr} (h : Rd w (.slice (some ⟨b1, 0, none⟩) n c) m sz xs) (hne : a.block ≠ b1) (u : Value) : Rd (w.setCell a u) (.slice (some ⟨b1, 0, none⟩) n c) m sz xs := by
  obtain ⟨ao, cap, e, hcp, hz, hl, hc⟩ := h
  refine ⟨ao, cap, e, hcp, hz, hl, fun hx => ?_⟩
  obtain ⟨b2, off, e2, hlt, hcc⟩ := hc hx
  subst e2
  simp only [Value.slice.injEq, Option.some.injEq, Addr.mk.injEq, and_true] at e
  obtain ⟨⟨rfl, rfl⟩, rfl, rfl⟩ := e
  exact ⟨b1, 0, rfl, by simpa [World.setCell] using hlt, fun i v hv => (World.cell?_setCell_other _ _ _ _ (by intro h; subst h; exact hne rfl)).trans (hcc i v hv)⟩
set_option maxRecDepth 100000 in
set_option maxHeartbeats 4000000 in
theorem enames_any (w : World) (hT : Pow10 w) (hR : Bru w) :
    Calls Tryz.prog 6 #[] w fun e w' => e = .returned (.bool true) ∧ Below w.heap.size w w' := by
  have c0 := hide (lives8_any w hT)
  have HT := hide hT
  have HR := hide hR
  have HB := hide (Below.refl w.heap.size w)
  have fh : Few [hostF] := few_one _ (by decide) (by decide)
  have fc : Few [clenF] := few_one _ (by decide) (by decide)
  have ft : Few [tF] := few_one _ (by decide) (by decide)
  clear hT hR
  go_enter Tryz.func6, Tryz.ntmps6
  go_wp2_with fail
  have hW := unhide c0
  refine hW.mono ?_; clear hW; rintro e w1 ⟨rfl, hb⟩
  have HBx := hide ((unhide HB).trans (hb.mono (unhide HB).size))
  clear HB hb
  have HB := HBx
  clear HBx
  have HBF := (unhide HB).size
  have RF0 := rd_host w1
  have HB1 := hide ((unhide HB).alloc (unhide HB).size (.cells #[.string ⟨#[72, 111, 115, 116]⟩, .string ⟨#[97]⟩] 55))
  have HZ := hide (Reg.Has.at (w1.alloc (.cells #[.string ⟨#[72, 111, 115, 116]⟩, .string ⟨#[97]⟩] 55)) (w1.heap.size + 1) zeroM 24 (by simp))
  have RF1 := hide (RF0.alloc (.cells zeroM.toArray 24))
  have HB2 := hide ((unhide HB1).alloc (by simp; omega) (.cells zeroM.toArray 24))
  clear RF0 HB HB1
  go_upto_region 4 with (refine wpList_storeM rfl _ _ rfl (w1.heap.size + 1) rfl #[.string ⟨#[71, 69, 84]⟩, .string ⟨#[47]⟩, .int .i64 0, .string ⟨#[]⟩, .int .i64 1, .slice (some ⟨w1.heap.size, 0, none⟩) 1 1, .string ⟨#[]⟩, .slice none 0 0] rfl rfl zeroM rfl (unhide HZ) (by kernel_rfl) ?_; intro HM)
  have HB := hide (below_setCells (B := w.heap.size) (w1.heap.size + 1) (by omega) (#[.string ⟨#[71, 69, 84]⟩, .string ⟨#[47]⟩, .int .i64 0, .string ⟨#[]⟩, .int .i64 1, .slice (some ⟨w1.heap.size, 0, none⟩) 1 1, .string ⟨#[]⟩, .slice none 0 0] : Array Value).toList 0 _ (unhide HB2))
  have RF := hide (rd_setCells (unhide RF1) (b := w1.heap.size + 1) (by omega) (#[.string ⟨#[71, 69, 84]⟩, .string ⟨#[47]⟩, .int .i64 0, .string ⟨#[]⟩, .int .i64 1, .slice (some ⟨w1.heap.size, 0, none⟩) 1 1, .string ⟨#[]⟩, .slice none 0 0] : Array Value).toList)
  have Ha := hide HM
  clear HM RF1 HB2 HZ
  unfold zeroM at *
  generalize hw : ((w1.alloc (.cells #[.string ⟨#[72, 111, 115, 116]⟩, .string ⟨#[97]⟩] 55)).alloc (.cells #[.string ⟨#[]⟩, .string ⟨#[]⟩, .int .i64 0, .string ⟨#[]⟩, .int .i64 0, .slice none 0 0, .string ⟨#[]⟩, .slice none 0 0] 24)).setCells (w1.heap.size + 1) 0 (#[.string ⟨#[71, 69, 84]⟩, .string ⟨#[47]⟩, .int .i64 0, .string ⟨#[]⟩, .int .i64 1, .slice (some ⟨w1.heap.size, 0, none⟩) 1 1, .string ⟨#[]⟩, .slice none 0 0] : Array Value).toList = w2 at *
  clear hw
  generalize hbk : w1.heap.size + 1 = ba at *
  have hbF : w1.heap.size < ba := by omega
  clear hbk
  generalize hbk : w1.heap.size = bF at *
  clear hbk
  have sa := (unhide Ha).lt
  have Ga := unhide Ha
  have pa0 := Ga.cell 0 _ rfl; have pa1 := Ga.cell 1 _ rfl; have pa2 := Ga.cell 2 _ rfl; have pa3 := Ga.cell 3 _ rfl; have pa4 := Ga.cell 4 _ rfl; have pa5 := Ga.cell 5 _ rfl; have pa6 := Ga.cell 6 _ rfl; have pa7 := Ga.cell 7 _ rfl; have za := Ga.lt
  clear Ga
  have hFlt : bF < w2.heap.size := by omega
  -- a
  have HZ := hide (Reg.Has.at w2 w2.heap.size zeroM 24 rfl)
  have xa := (unhide Ha).lt
  have Ha := hide ((unhide Ha).alloc (.cells zeroM.toArray 24))
  have RF := hide ((unhide RF).alloc (.cells zeroM.toArray 24))
  have hm := (unhide HB).size
  have HB0 := hide ((unhide HB).alloc (unhide HB).size (.cells zeroM.toArray 24))
  clear HB
  go_upto_region 5 with (refine wpList_storeM rfl _ _ rfl w2.heap.size rfl #[.string ⟨#[71, 69, 84]⟩, .string ⟨#[47]⟩, .int .i64 0, .string ⟨#[]⟩, .int .i64 1, .slice (some ⟨bF, 0, none⟩) 1 1, .string ⟨#[]⟩, .slice none 0 0] rfl rfl zeroM rfl (unhide HZ) (by kernel_rfl) ?_; intro HM)
  have HB := hide (below_setCells (B := w.heap.size) w2.heap.size hm (#[.string ⟨#[71, 69, 84]⟩, .string ⟨#[47]⟩, .int .i64 0, .string ⟨#[]⟩, .int .i64 1, .slice (some ⟨bF, 0, none⟩) 1 1, .string ⟨#[]⟩, .slice none 0 0] : Array Value).toList 0 _ (unhide HB0))
  have Hay := hide (has_setCells_other (unhide Ha) (b := w2.heap.size) (by omega) (#[.string ⟨#[71, 69, 84]⟩, .string ⟨#[47]⟩, .int .i64 0, .string ⟨#[]⟩, .int .i64 1, .slice (some ⟨bF, 0, none⟩) 1 1, .string ⟨#[]⟩, .slice none 0 0] : Array Value).toList)
  clear Ha
  have Ha := Hay
  clear Hay
  have RFy := hide (rd_setCells (unhide RF) (b := w2.heap.size) (by omega) (#[.string ⟨#[71, 69, 84]⟩, .string ⟨#[47]⟩, .int .i64 0, .string ⟨#[]⟩, .int .i64 1, .slice (some ⟨bF, 0, none⟩) 1 1, .string ⟨#[]⟩, .slice none 0 0] : Array Value).toList)
  clear RF
  have RF := RFy
  clear RFy
  have Hc := hide HM
  clear HM HB0 HZ
  clear pa0 pa1 pa2 pa3 pa4 pa5 pa6 pa7 za
  unfold zeroM at *
  generalize hw : (w2.alloc (.cells #[.string ⟨#[]⟩, .string ⟨#[]⟩, .int .i64 0, .string ⟨#[]⟩, .int .i64 0, .slice none 0 0, .string ⟨#[]⟩, .slice none 0 0] 24)).setCells w2.heap.size 0 (#[.string ⟨#[71, 69, 84]⟩, .string ⟨#[47]⟩, .int .i64 0, .string ⟨#[]⟩, .int .i64 1, .slice (some ⟨bF, 0, none⟩) 1 1, .string ⟨#[]⟩, .slice none 0 0] : Array Value).toList = w3 at *
  clear hw
  generalize hbk : w2.heap.size = bc at *
  clear hbk
  have sc := (unhide Hc).lt
  have Ga := unhide Ha
  have pa0 := Ga.cell 0 _ rfl; have pa1 := Ga.cell 1 _ rfl; have pa2 := Ga.cell 2 _ rfl; have pa3 := Ga.cell 3 _ rfl; have pa4 := Ga.cell 4 _ rfl; have pa5 := Ga.cell 5 _ rfl; have pa6 := Ga.cell 6 _ rfl; have pa7 := Ga.cell 7 _ rfl; have za := Ga.lt
  clear Ga
  have Gc := unhide Hc
  have pc0 := Gc.cell 0 _ rfl; have pc1 := Gc.cell 1 _ rfl; have pc2 := Gc.cell 2 _ rfl; have pc3 := Gc.cell 3 _ rfl; have pc4 := Gc.cell 4 _ rfl; have pc5 := Gc.cell 5 _ rfl; have pc6 := Gc.cell 6 _ rfl; have pc7 := Gc.cell 7 _ rfl; have zc := Gc.lt
  clear Gc
  have fz := (unhide Hc).free 0 (by simp)
  go_upto_region 6 with fail
  clear fz
  have HB0 := hide ((unhide HB).setCell (p := ⟨bc, 0, none⟩) (by show _ ≤ bc; omega) (.string ⟨#[80, 79, 83, 84]⟩))
  clear HB
  clear pa0 pa1 pa2 pa3 pa4 pa5 pa6 pa7 za
  clear pc0 pc1 pc2 pc3 pc4 pc5 pc6 pc7 zc
  have Hy := hide ((unhide Ha).other (a := ⟨bc, 0, none⟩) (by show bc ≠ ba; omega) (.string ⟨#[80, 79, 83, 84]⟩))
  clear Ha
  have Ha := Hy
  clear Hy
  have Hy := hide ((unhide Hc).put 0 (.string ⟨#[80, 79, 83, 84]⟩))
  clear Hc
  have Hc := Hy
  clear Hy
  have Ry := hide (rdSet1 (a := ⟨bc, 0, none⟩) (unhide RF) (by show bc ≠ bF; omega) (.string ⟨#[80, 79, 83, 84]⟩))
  clear RF
  have RF := Ry
  clear Ry
  generalize hw : w3.setCell ⟨bc, 0, none⟩ (.string ⟨#[80, 79, 83, 84]⟩) = w4 at *
  clear hw
  have HB := HB0
  clear HB0
  have Hy : Hid (Reg.Has w4 bc [.string ⟨#[80, 79, 83, 84]⟩, .string ⟨#[47]⟩, .int .i64 0, .string ⟨#[]⟩, .int .i64 1, .slice (some ⟨bF, 0, none⟩) 1 1, .string ⟨#[]⟩, .slice none 0 0]) := Hc
  clear Hc
  have Hc := Hy
  clear Hy
  have sa := (unhide Ha).lt
  have sc := (unhide Hc).lt
  have Ga := unhide Ha
  have pa0 := Ga.cell 0 _ rfl; have pa1 := Ga.cell 1 _ rfl; have pa2 := Ga.cell 2 _ rfl; have pa3 := Ga.cell 3 _ rfl; have pa4 := Ga.cell 4 _ rfl; have pa5 := Ga.cell 5 _ rfl; have pa6 := Ga.cell 6 _ rfl; have pa7 := Ga.cell 7 _ rfl; have za := Ga.lt
  clear Ga
  have Gc := unhide Hc
  have pc0 := Gc.cell 0 _ rfl; have pc1 := Gc.cell 1 _ rfl; have pc2 := Gc.cell 2 _ rfl; have pc3 := Gc.cell 3 _ rfl; have pc4 := Gc.cell 4 _ rfl; have pc5 := Gc.cell 5 _ rfl; have pc6 := Gc.cell 6 _ rfl; have pc7 := Gc.cell 7 _ rfl; have zc := Gc.lt
  clear Gc
  go_wp2_with fail
  have hW := req_closed _ _ _ _ _ _ _ _ _ _ [hostF] [] (by decide) (by decide) (by decide) (by decide) fh few_nil nx1 _ ((unhide HT).below (unhide HB)) (unhide RF) (Rd.nil _ _)
  refine hW.mono ?_; clear hW; rintro e w5 ⟨rfl, hb⟩
  clear pa0 pa1 pa2 pa3 pa4 pa5 pa6 pa7 za
  clear pc0 pc1 pc2 pc3 pc4 pc5 pc6 pc7 zc
  have Ha := hide ((unhide Ha).call hb)
  have Hc := hide ((unhide Hc).call hb)
  have RF := hide ((unhide RF).below hb)
  have HBx := hide ((unhide HB).trans (hb.mono (unhide HB).size))
  clear HB hb
  have HB := HBx
  clear HBx
  have Ga := unhide Ha
  have pa0 := Ga.cell 0 _ rfl; have pa1 := Ga.cell 1 _ rfl; have pa2 := Ga.cell 2 _ rfl; have pa3 := Ga.cell 3 _ rfl; have pa4 := Ga.cell 4 _ rfl; have pa5 := Ga.cell 5 _ rfl; have pa6 := Ga.cell 6 _ rfl; have pa7 := Ga.cell 7 _ rfl; have za := Ga.lt
  clear Ga
  have Gc := unhide Hc
  have pc0 := Gc.cell 0 _ rfl; have pc1 := Gc.cell 1 _ rfl; have pc2 := Gc.cell 2 _ rfl; have pc3 := Gc.cell 3 _ rfl; have pc4 := Gc.cell 4 _ rfl; have pc5 := Gc.cell 5 _ rfl; have pc6 := Gc.cell 6 _ rfl; have pc7 := Gc.cell 7 _ rfl; have zc := Gc.lt
  clear Gc
  go_wp2_with fail
  have hW := req_closed _ _ _ _ _ _ _ _ _ _ [hostF] [] (by decide) (by decide) (by decide) (by decide) fh few_nil nx2 _ ((unhide HT).below (unhide HB)) (unhide RF) (Rd.nil _ _)
  refine hW.mono ?_; clear hW; rintro e w6 ⟨rfl, hb⟩
  clear pa0 pa1 pa2 pa3 pa4 pa5 pa6 pa7 za
  clear pc0 pc1 pc2 pc3 pc4 pc5 pc6 pc7 zc
  have Ha := hide ((unhide Ha).call hb)
  have Hc := hide ((unhide Hc).call hb)
  have RF := hide ((unhide RF).below hb)
  have HBx := hide ((unhide HB).trans (hb.mono (unhide HB).size))
  clear HB hb
  have HB := HBx
  clear HBx
  have Ga := unhide Ha
  have pa0 := Ga.cell 0 _ rfl; have pa1 := Ga.cell 1 _ rfl; have pa2 := Ga.cell 2 _ rfl; have pa3 := Ga.cell 3 _ rfl; have pa4 := Ga.cell 4 _ rfl; have pa5 := Ga.cell 5 _ rfl; have pa6 := Ga.cell 6 _ rfl; have pa7 := Ga.cell 7 _ rfl; have za := Ga.lt
  clear Ga
  have Gc := unhide Hc
  have pc0 := Gc.cell 0 _ rfl; have pc1 := Gc.cell 1 _ rfl; have pc2 := Gc.cell 2 _ rfl; have pc3 := Gc.cell 3 _ rfl; have pc4 := Gc.cell 4 _ rfl; have pc5 := Gc.cell 5 _ rfl; have pc6 := Gc.cell 6 _ rfl; have pc7 := Gc.cell 7 _ rfl; have zc := Gc.lt
  clear Gc
  go_wp2_with fail
  have hW := req_closed _ _ _ _ _ _ _ _ _ _ [] [] (by decide) (by decide) (by decide) (by decide) few_nil few_nil nx3 _ ((unhide HT).below (unhide HB)) (Rd.nil _ _) (Rd.nil _ _)
  refine hW.mono ?_; clear hW; rintro e w7 ⟨rfl, hb⟩
  clear pa0 pa1 pa2 pa3 pa4 pa5 pa6 pa7 za
  clear pc0 pc1 pc2 pc3 pc4 pc5 pc6 pc7 zc
  have Ha := hide ((unhide Ha).call hb)
  have Hc := hide ((unhide Hc).call hb)
  have RF := hide ((unhide RF).below hb)
  have HBx := hide ((unhide HB).trans (hb.mono (unhide HB).size))
  clear HB hb
  have HB := HBx
  clear HBx
  have Ga := unhide Ha
  have pa0 := Ga.cell 0 _ rfl; have pa1 := Ga.cell 1 _ rfl; have pa2 := Ga.cell 2 _ rfl; have pa3 := Ga.cell 3 _ rfl; have pa4 := Ga.cell 4 _ rfl; have pa5 := Ga.cell 5 _ rfl; have pa6 := Ga.cell 6 _ rfl; have pa7 := Ga.cell 7 _ rfl; have za := Ga.lt
  clear Ga
  have Gc := unhide Hc
  have pc0 := Gc.cell 0 _ rfl; have pc1 := Gc.cell 1 _ rfl; have pc2 := Gc.cell 2 _ rfl; have pc3 := Gc.cell 3 _ rfl; have pc4 := Gc.cell 4 _ rfl; have pc5 := Gc.cell 5 _ rfl; have pc6 := Gc.cell 6 _ rfl; have pc7 := Gc.cell 7 _ rfl; have zc := Gc.lt
  clear Gc
  go_wp2_with fail
  have hW := ress_closed _ _ _ _ _ _ _ _ _ _ _ [hostF] [] (by decide) (by decide) (by decide) (by decide) fh few_nil nx4 _ ((unhide HT).below (unhide HB)) (unhide RF) (Rd.nil _ _)
  refine hW.mono ?_; clear hW; rintro e w8 ⟨rfl, hb⟩
  clear pa0 pa1 pa2 pa3 pa4 pa5 pa6 pa7 za
  clear pc0 pc1 pc2 pc3 pc4 pc5 pc6 pc7 zc
  have Ha := hide ((unhide Ha).call hb)
  have Hc := hide ((unhide Hc).call hb)
  have RF := hide ((unhide RF).below hb)
  have HBx := hide ((unhide HB).trans (hb.mono (unhide HB).size))
  clear HB hb
  have HB := HBx
  clear HBx
  have Ga := unhide Ha
  have pa0 := Ga.cell 0 _ rfl; have pa1 := Ga.cell 1 _ rfl; have pa2 := Ga.cell 2 _ rfl; have pa3 := Ga.cell 3 _ rfl; have pa4 := Ga.cell 4 _ rfl; have pa5 := Ga.cell 5 _ rfl; have pa6 := Ga.cell 6 _ rfl; have pa7 := Ga.cell 7 _ rfl; have za := Ga.lt
  clear Ga
  have Gc := unhide Hc
  have pc0 := Gc.cell 0 _ rfl; have pc1 := Gc.cell 1 _ rfl; have pc2 := Gc.cell 2 _ rfl; have pc3 := Gc.cell 3 _ rfl; have pc4 := Gc.cell 4 _ rfl; have pc5 := Gc.cell 5 _ rfl; have pc6 := Gc.cell 6 _ rfl; have pc7 := Gc.cell 7 _ rfl; have zc := Gc.lt
  clear Gc
  go_wp2_with fail
  have hW := ress_closed _ _ _ _ _ _ _ _ _ _ _ [] [] (by decide) (by decide) (by decide) (by decide) few_nil few_nil nx5 _ ((unhide HT).below (unhide HB)) (Rd.nil _ _) (Rd.nil _ _)
  refine hW.mono ?_; clear hW; rintro e w9 ⟨rfl, hb⟩
  clear pa0 pa1 pa2 pa3 pa4 pa5 pa6 pa7 za
  clear pc0 pc1 pc2 pc3 pc4 pc5 pc6 pc7 zc
  have Ha := hide ((unhide Ha).call hb)
  have Hc := hide ((unhide Hc).call hb)
  have RF := hide ((unhide RF).below hb)
  have HBx := hide ((unhide HB).trans (hb.mono (unhide HB).size))
  clear HB hb
  have HB := HBx
  clear HBx
  have Ga := unhide Ha
  have pa0 := Ga.cell 0 _ rfl; have pa1 := Ga.cell 1 _ rfl; have pa2 := Ga.cell 2 _ rfl; have pa3 := Ga.cell 3 _ rfl; have pa4 := Ga.cell 4 _ rfl; have pa5 := Ga.cell 5 _ rfl; have pa6 := Ga.cell 6 _ rfl; have pa7 := Ga.cell 7 _ rfl; have za := Ga.lt
  clear Ga
  have Gc := unhide Hc
  have pc0 := Gc.cell 0 _ rfl; have pc1 := Gc.cell 1 _ rfl; have pc2 := Gc.cell 2 _ rfl; have pc3 := Gc.cell 3 _ rfl; have pc4 := Gc.cell 4 _ rfl; have pc5 := Gc.cell 5 _ rfl; have pc6 := Gc.cell 6 _ rfl; have pc7 := Gc.cell 7 _ rfl; have zc := Gc.lt
  clear Gc
  have sa := (unhide Ha).lt
  have sc := (unhide Hc).lt
  -- a c
  have HZ := hide (Reg.Has.at w9 w9.heap.size zeroM 24 rfl)
  have xa := (unhide Ha).lt
  have Ha := hide ((unhide Ha).alloc (.cells zeroM.toArray 24))
  have xc := (unhide Hc).lt
  have Hc := hide ((unhide Hc).alloc (.cells zeroM.toArray 24))
  have RF := hide ((unhide RF).alloc (.cells zeroM.toArray 24))
  have hm := (unhide HB).size
  have HB0 := hide ((unhide HB).alloc (unhide HB).size (.cells zeroM.toArray 24))
  clear HB
  go_upto_region 12 with (refine wpList_storeM rfl _ _ rfl w9.heap.size rfl #[.string ⟨#[71, 69, 84]⟩, .string ⟨#[47]⟩, .int .i64 0, .string ⟨#[]⟩, .int .i64 1, .slice (some ⟨bF, 0, none⟩) 1 1, .string ⟨#[]⟩, .slice none 0 0] rfl rfl zeroM rfl (unhide HZ) (by kernel_rfl) ?_; intro HM)
  have HB := hide (below_setCells (B := w.heap.size) w9.heap.size hm (#[.string ⟨#[71, 69, 84]⟩, .string ⟨#[47]⟩, .int .i64 0, .string ⟨#[]⟩, .int .i64 1, .slice (some ⟨bF, 0, none⟩) 1 1, .string ⟨#[]⟩, .slice none 0 0] : Array Value).toList 0 _ (unhide HB0))
  have Hay := hide (has_setCells_other (unhide Ha) (b := w9.heap.size) (by omega) (#[.string ⟨#[71, 69, 84]⟩, .string ⟨#[47]⟩, .int .i64 0, .string ⟨#[]⟩, .int .i64 1, .slice (some ⟨bF, 0, none⟩) 1 1, .string ⟨#[]⟩, .slice none 0 0] : Array Value).toList)
  clear Ha
  have Ha := Hay
  clear Hay
  have Hcy := hide (has_setCells_other (unhide Hc) (b := w9.heap.size) (by omega) (#[.string ⟨#[71, 69, 84]⟩, .string ⟨#[47]⟩, .int .i64 0, .string ⟨#[]⟩, .int .i64 1, .slice (some ⟨bF, 0, none⟩) 1 1, .string ⟨#[]⟩, .slice none 0 0] : Array Value).toList)
  clear Hc
  have Hc := Hcy
  clear Hcy
  have RFy := hide (rd_setCells (unhide RF) (b := w9.heap.size) (by omega) (#[.string ⟨#[71, 69, 84]⟩, .string ⟨#[47]⟩, .int .i64 0, .string ⟨#[]⟩, .int .i64 1, .slice (some ⟨bF, 0, none⟩) 1 1, .string ⟨#[]⟩, .slice none 0 0] : Array Value).toList)
  clear RF
  have RF := RFy
  clear RFy
  have Hd := hide HM
  clear HM HB0 HZ
  clear pa0 pa1 pa2 pa3 pa4 pa5 pa6 pa7 za
  clear pc0 pc1 pc2 pc3 pc4 pc5 pc6 pc7 zc
  unfold zeroM at *
  generalize hw : (w9.alloc (.cells #[.string ⟨#[]⟩, .string ⟨#[]⟩, .int .i64 0, .string ⟨#[]⟩, .int .i64 0, .slice none 0 0, .string ⟨#[]⟩, .slice none 0 0] 24)).setCells w9.heap.size 0 (#[.string ⟨#[71, 69, 84]⟩, .string ⟨#[47]⟩, .int .i64 0, .string ⟨#[]⟩, .int .i64 1, .slice (some ⟨bF, 0, none⟩) 1 1, .string ⟨#[]⟩, .slice none 0 0] : Array Value).toList = w10 at *
  clear hw
  generalize hbk : w9.heap.size = bd at *
  clear hbk
  have sd := (unhide Hd).lt
  have Ga := unhide Ha
  have pa0 := Ga.cell 0 _ rfl; have pa1 := Ga.cell 1 _ rfl; have pa2 := Ga.cell 2 _ rfl; have pa3 := Ga.cell 3 _ rfl; have pa4 := Ga.cell 4 _ rfl; have pa5 := Ga.cell 5 _ rfl; have pa6 := Ga.cell 6 _ rfl; have pa7 := Ga.cell 7 _ rfl; have za := Ga.lt
  clear Ga
  have Gc := unhide Hc
  have pc0 := Gc.cell 0 _ rfl; have pc1 := Gc.cell 1 _ rfl; have pc2 := Gc.cell 2 _ rfl; have pc3 := Gc.cell 3 _ rfl; have pc4 := Gc.cell 4 _ rfl; have pc5 := Gc.cell 5 _ rfl; have pc6 := Gc.cell 6 _ rfl; have pc7 := Gc.cell 7 _ rfl; have zc := Gc.lt
  clear Gc
  have Gd := unhide Hd
  have pd0 := Gd.cell 0 _ rfl; have pd1 := Gd.cell 1 _ rfl; have pd2 := Gd.cell 2 _ rfl; have pd3 := Gd.cell 3 _ rfl; have pd4 := Gd.cell 4 _ rfl; have pd5 := Gd.cell 5 _ rfl; have pd6 := Gd.cell 6 _ rfl; have pd7 := Gd.cell 7 _ rfl; have zd := Gd.lt
  clear Gd
  have fz := (unhide Hd).free 5 (by simp)
  go_upto_region 13 with fail
  clear fz
  rw [← World.setCell_alloc_past _ bd 5 _ (unhide Hd).lt]
  have RG0 := rd_clen w10
  clear pa0 pa1 pa2 pa3 pa4 pa5 pa6 pa7 za
  clear pc0 pc1 pc2 pc3 pc4 pc5 pc6 pc7 zc
  clear pd0 pd1 pd2 pd3 pd4 pd5 pd6 pd7 zd
  have sa := (unhide Ha).lt
  have Hy := hide ((unhide Ha).alloc (.cells #[.string ⟨#[99, 111, 110, 116, 101, 110, 116, 45, 108, 101, 110, 103, 116, 104]⟩, .string ⟨#[49]⟩] 55))
  clear Ha
  have Ha := Hy
  clear Hy
  have sc := (unhide Hc).lt
  have Hy := hide ((unhide Hc).alloc (.cells #[.string ⟨#[99, 111, 110, 116, 101, 110, 116, 45, 108, 101, 110, 103, 116, 104]⟩, .string ⟨#[49]⟩] 55))
  clear Hc
  have Hc := Hy
  clear Hy
  have sd := (unhide Hd).lt
  have Hy := hide ((unhide Hd).alloc (.cells #[.string ⟨#[99, 111, 110, 116, 101, 110, 116, 45, 108, 101, 110, 103, 116, 104]⟩, .string ⟨#[49]⟩] 55))
  clear Hd
  have Hd := Hy
  clear Hy
  have Ry := hide ((unhide RF).alloc (.cells #[.string ⟨#[99, 111, 110, 116, 101, 110, 116, 45, 108, 101, 110, 103, 116, 104]⟩, .string ⟨#[49]⟩] 55))
  clear RF
  have RF := Ry
  clear Ry
  have hm := (unhide HB).size
  have HB0 := hide ((unhide HB).alloc (unhide HB).size (.cells #[.string ⟨#[99, 111, 110, 116, 101, 110, 116, 45, 108, 101, 110, 103, 116, 104]⟩, .string ⟨#[49]⟩] 55))
  clear HB
  have Hy := hide ((unhide Ha).other (a := ⟨bd, 5, none⟩) (by show bd ≠ ba; omega) (.slice (some ⟨w10.heap.size, 0, none⟩) 1 1))
  clear Ha
  have Ha := Hy
  clear Hy
  have Hy := hide ((unhide Hc).other (a := ⟨bd, 5, none⟩) (by show bd ≠ bc; omega) (.slice (some ⟨w10.heap.size, 0, none⟩) 1 1))
  clear Hc
  have Hc := Hy
  clear Hy
  have Hy := hide ((unhide Hd).put 5 (.slice (some ⟨w10.heap.size, 0, none⟩) 1 1))
  clear Hd
  have Hd := Hy
  clear Hy
  have Ry := hide (rdSet1 (a := ⟨bd, 5, none⟩) (unhide RF) (by show bd ≠ bF; omega) (.slice (some ⟨w10.heap.size, 0, none⟩) 1 1))
  clear RF
  have RF := Ry
  clear Ry
  have RG := hide (rdSet1 RG0 (a := ⟨bd, 5, none⟩) (by show bd ≠ w10.heap.size; omega) (.slice (some ⟨w10.heap.size, 0, none⟩) 1 1))
  clear RG0
  have HB := hide ((unhide HB0).setCell (p := ⟨bd, 5, none⟩) (by show _ ≤ bd; omega) (.slice (some ⟨w10.heap.size, 0, none⟩) 1 1))
  clear HB0
  generalize hw : (w10.alloc (.cells #[.string ⟨#[99, 111, 110, 116, 101, 110, 116, 45, 108, 101, 110, 103, 116, 104]⟩, .string ⟨#[49]⟩] 55)).setCell ⟨bd, 5, none⟩ (.slice (some ⟨w10.heap.size, 0, none⟩) 1 1) = w11 at *
  clear hw
  generalize hbk : w10.heap.size = bG at *
  clear hbk
  have Hy : Hid (Reg.Has w11 bd [.string ⟨#[71, 69, 84]⟩, .string ⟨#[47]⟩, .int .i64 0, .string ⟨#[]⟩, .int .i64 1, .slice (some ⟨bG, 0, none⟩) 1 1, .string ⟨#[]⟩, .slice none 0 0]) := Hd
  clear Hd
  have Hd := Hy
  clear Hy
  have sa := (unhide Ha).lt
  have sc := (unhide Hc).lt
  have sd := (unhide Hd).lt
  go_wp2_with fail
  have Ha := hide ((unhide Ha).alloc (.cells #[.string ⟨#[84]⟩, .string ⟨#[49]⟩] 55))
  have Hc := hide ((unhide Hc).alloc (.cells #[.string ⟨#[84]⟩, .string ⟨#[49]⟩] 55))
  have Hd := hide ((unhide Hd).alloc (.cells #[.string ⟨#[84]⟩, .string ⟨#[49]⟩] 55))
  have RF := hide ((unhide RF).alloc (.cells #[.string ⟨#[84]⟩, .string ⟨#[49]⟩] 55))
  have RG := hide ((unhide RG).alloc (.cells #[.string ⟨#[84]⟩, .string ⟨#[49]⟩] 55))
  have RT := hide (rd_tf w11)
  have HBx := hide ((unhide HB).alloc (unhide HB).size (.cells #[.string ⟨#[84]⟩, .string ⟨#[49]⟩] 55))
  have lbT : w11.heap.size < (w11.alloc (.cells #[.string ⟨#[84]⟩, .string ⟨#[49]⟩] 55)).heap.size := by simp
  have mbT := (unhide HB).size
  clear HB
  have HB := HBx
  clear HBx
  generalize hw : w11.alloc (.cells #[.string ⟨#[84]⟩, .string ⟨#[49]⟩] 55) = w12 at *
  clear hw
  generalize hbk : w11.heap.size = bT at *
  clear hbk
  have hW := chu_closed _ _ _ _ _ _ _ _ _ _ _ [] [tF] (by decide) (by decide) (by decide) (by decide) (by decide) (by decide) few_nil ft nx8 _ ((unhide HT).below (unhide HB)) ((unhide HR).below (unhide HB)) (Rd.nil _ _) (unhide RT)
  refine hW.mono ?_; clear hW; rintro e w13 ⟨rfl, hb⟩
  have Ha := hide ((unhide Ha).call hb)
  have Hc := hide ((unhide Hc).call hb)
  have Hd := hide ((unhide Hd).call hb)
  have RF := hide ((unhide RF).below hb)
  have RG := hide ((unhide RG).below hb)
  have RT := hide ((unhide RT).below hb)
  have HBx := hide ((unhide HB).trans (hb.mono (unhide HB).size))
  clear HB hb
  have HB := HBx
  clear HBx
  clear RT
  go_wp2_with fail
  have hW := chu_closed _ _ _ _ _ _ _ _ _ _ _ [] [] (by decide) (by decide) (by decide) (by decide) (by decide) (by decide) few_nil few_nil nx9 _ ((unhide HT).below (unhide HB)) ((unhide HR).below (unhide HB)) (Rd.nil _ _) (Rd.nil _ _)
  refine hW.mono ?_; clear hW; rintro e w14 ⟨rfl, hb⟩
  have Ha := hide ((unhide Ha).call hb)
  have Hc := hide ((unhide Hc).call hb)
  have Hd := hide ((unhide Hd).call hb)
  have RF := hide ((unhide RF).below hb)
  have RG := hide ((unhide RG).below hb)
  have HBx := hide ((unhide HB).trans (hb.mono (unhide HB).size))
  clear HB hb
  have HB := HBx
  clear HBx
  go_wp2_with fail
  have hW := chu_closed _ _ _ _ _ _ _ _ _ _ _ [] [] (by decide) (by decide) (by decide) (by decide) (by decide) (by decide) few_nil few_nil nx10 _ ((unhide HT).below (unhide HB)) ((unhide HR).below (unhide HB)) (Rd.nil _ _) (Rd.nil _ _)
  refine hW.mono ?_; clear hW; rintro e w15 ⟨rfl, hb⟩
  have Ha := hide ((unhide Ha).call hb)
  have Hc := hide ((unhide Hc).call hb)
  have Hd := hide ((unhide Hd).call hb)
  have RF := hide ((unhide RF).below hb)
  have RG := hide ((unhide RG).below hb)
  have HBx := hide ((unhide HB).trans (hb.mono (unhide HB).size))
  clear HB hb
  have HB := HBx
  clear HBx
  go_wp2_with fail
  refine (eplain_any 502 (by decide) (by decide) _ ((unhide HT).below (unhide HB))).mono ?_; rintro e w16 ⟨bP, rfl, hrp, hb⟩
  have Ha := hide ((unhide Ha).call hb)
  have Hc := hide ((unhide Hc).call hb)
  have Hd := hide ((unhide Hd).call hb)
  have RF := hide ((unhide RF).below hb)
  have RG := hide ((unhide RG).below hb)
  have HBx := hide ((unhide HB).trans (hb.mono (unhide HB).size))
  clear HB hb hrp
  have HB := HBx
  clear HBx
  have sa := (unhide Ha).lt
  have sc := (unhide Hc).lt
  have sd := (unhide Hd).lt
  have hpl : plainA 502 (.slice (some ⟨bP, 0, none⟩) 1 1) = #[.string ⟨#[]⟩, .string ⟨#[]⟩, .int .i64 502, .string ⟨#[66, 97, 100, 32, 71, 97, 116, 101, 119, 97, 121]⟩, .int .i64 1, .slice (some ⟨bP, 0, none⟩) 1 1, .string ⟨#[53, 48, 50, 32, 66, 97, 100, 32, 71, 97, 116, 101, 119, 97, 121, 10]⟩, .slice none 0 0] := by unfold plainA; rw [show reasonB 502 = ⟨#[66, 97, 100, 32, 71, 97, 116, 101, 119, 97, 121]⟩ by decide +kernel, show plainB 502 = ⟨#[53, 48, 50, 32, 66, 97, 100, 32, 71, 97, 116, 101, 119, 97, 121, 10]⟩ by decide +kernel]
  rw [hpl]
  clear hpl
  have Hd := hide ((unhide Hd).alloc (.cells #[.string ⟨#[]⟩, .string ⟨#[]⟩, .int .i64 502, .string ⟨#[66, 97, 100, 32, 71, 97, 116, 101, 119, 97, 121]⟩, .int .i64 1, .slice (some ⟨bP, 0, none⟩) 1 1, .string ⟨#[53, 48, 50, 32, 66, 97, 100, 32, 71, 97, 116, 101, 119, 97, 121, 10]⟩, .slice none 0 0] 24))
  have HP := hide (Reg.Has.new w16 [.string ⟨#[]⟩, .string ⟨#[]⟩, .int .i64 502, .string ⟨#[66, 97, 100, 32, 71, 97, 116, 101, 119, 97, 121]⟩, .int .i64 1, .slice (some ⟨bP, 0, none⟩) 1 1, .string ⟨#[53, 48, 50, 32, 66, 97, 100, 32, 71, 97, 116, 101, 119, 97, 121, 10]⟩, .slice none 0 0] 24)
  have RG := hide ((unhide RG).alloc (.cells #[.string ⟨#[]⟩, .string ⟨#[]⟩, .int .i64 502, .string ⟨#[66, 97, 100, 32, 71, 97, 116, 101, 119, 97, 121]⟩, .int .i64 1, .slice (some ⟨bP, 0, none⟩) 1 1, .string ⟨#[53, 48, 50, 32, 66, 97, 100, 32, 71, 97, 116, 101, 119, 97, 121, 10]⟩, .slice none 0 0] 24))
  have HB := hide ((unhide HB).alloc (unhide HB).size (.cells #[.string ⟨#[]⟩, .string ⟨#[]⟩, .int .i64 502, .string ⟨#[66, 97, 100, 32, 71, 97, 116, 101, 119, 97, 121]⟩, .int .i64 1, .slice (some ⟨bP, 0, none⟩) 1 1, .string ⟨#[53, 48, 50, 32, 66, 97, 100, 32, 71, 97, 116, 101, 119, 97, 121, 10]⟩, .slice none 0 0] 24))
  have hR1 : reasonB 504 = ⟨#[71, 97, 116, 101, 119, 97, 121, 32, 84, 105, 109, 101, 111, 117, 116]⟩ := by decide +kernel
  have hR2 : reasonB 7 = ⟨#[79, 116, 104, 101, 114]⟩ := by decide +kernel
  clear Ha Hc RF
  go_upto_region 17 with fail
  generalize w16.alloc (.cells #[.string ⟨#[]⟩, .string ⟨#[]⟩, .int .i64 502, .string ⟨#[66, 97, 100, 32, 71, 97, 116, 101, 119, 97, 121]⟩, .int .i64 1, .slice (some ⟨bP, 0, none⟩) 1 1, .string ⟨#[53, 48, 50, 32, 66, 97, 100, 32, 71, 97, 116, 101, 119, 97, 121, 10]⟩, .slice none 0 0] 24) = w17 at *
  generalize w16.heap.size = bp at *
  have Gd := unhide Hd
  have pd0 := Gd.cell 0 _ rfl; have pd1 := Gd.cell 1 _ rfl; have pd2 := Gd.cell 2 _ rfl; have pd3 := Gd.cell 3 _ rfl; have pd4 := Gd.cell 4 _ rfl; have pd5 := Gd.cell 5 _ rfl; have pd6 := Gd.cell 6 _ rfl; have pd7 := Gd.cell 7 _ rfl; have zd := Gd.lt
  clear Gd
  go_wp2_with (first
    | (have q := firstChk; go_at_call 24; refine (chk_closed _ _ _ _ _ _ _ _ _ [] [] (by decide) (by decide) (by decide) few_nil few_nil nx7 _ ((unhide HT).below (unhide HB)) (Rd.nil _ _) (Rd.nil _ _)).mono ?_; rintro e w19 ⟨rfl, hb⟩; have HB := hide ((unhide HB).trans (hb.mono (unhide HB).size)); have HP := hide ((unhide HP).call hb); have p2 := (unhide HP).cell 2 _ rfl; have p3 := (unhide HP).cell 3 _ rfl; have p4 := (unhide HP).cell 4 _ rfl; have p6 := (unhide HP).cell 6 _ rfl; clear hb)
    | (go_at_call 24; refine (chk_closed _ _ _ _ _ _ _ _ _ [clenF] [] (by decide) (by decide) (by decide) fc few_nil nx6 _ ((unhide HT).below (unhide HB)) (unhide RG) (Rd.nil _ _)).mono ?_; rintro e w18 ⟨rfl, hb⟩; have HB := hide ((unhide HB).trans (hb.mono (unhide HB).size)); have HP := hide ((unhide HP).call hb); have firstChk := True.intro; clear hb)
    | (have q := firstR; go_at_call 23; refine (reason_any 7 _).mono ?_; rintro e wq ⟨rfl, rfl⟩; rw [hR2])
    | (go_at_call 23; refine (reason_any 504 _).mono ?_; rintro e wq ⟨rfl, rfl⟩; rw [hR1]; have firstR := True.intro))
  go_ret
  exact ⟨rfl, unhide HB⟩
end Go.Proofs.YtbpopmbabckojaaGreatDoor.Sp

/- What a row's listed variables give: the table of powers of ten; the table of trailing zeros. -/
namespace Go.Proofs.YtbpopmbabckojaaGreatDoor.Sp
open Go.ChangeShapes Go.WideShapes Go.ChangeAt Go.RowKit

def pow10Row : List (String × DataW Unit) := [("internal/strconv.uint64pow10", Lib.tabData .u64 Lib.pow10Tab)]
theorem pow10_of {W : World} {l : List (String × DataW Unit)} (hl : (l.filter fun x => x.1 == "internal/strconv.uint64pow10") = pow10Row) (h : laidMet Tryz.prog l W) : Pow10 W := by
  have h2 := laidMet.filter (fun x => x.1 == "internal/strconv.uint64pow10") h
  rw [hl] at h2
  exact Lib.tabIs_of_head (g := 0) (by kernel_rfl) (by kernel_rfl) Tryz.underlying139 Tryz.underlying120 (by kernel_rfl) (by kernel_rfl) h2
def bruTab : List Int := Lib.deBruijn64tab.map Int.ofNat
def bruRow : List (String × DataW Unit) := [("math/bits.deBruijn64tab", Lib.tabData .u8 bruTab)]
theorem bru_of {W : World} {l : List (String × DataW Unit)} (hl : (l.filter fun x => x.1 == "math/bits.deBruijn64tab") = bruRow) (h : laidMet Tryz.prog l W) : Bru W := by
  have h2 := laidMet.filter (fun x => x.1 == "math/bits.deBruijn64tab") h
  rw [hl] at h2
  have h3 : Lib.TabIs Tryz.prog W "math/bits.deBruijn64tab" .u8 bruTab := Lib.tabIs_of_head (g := 3) (by kernel_rfl) (by kernel_rfl) Tryz.underlying189 Tryz.underlying5 (by kernel_rfl) (by kernel_rfl) h2
  exact h3.cell (g := 3) (by kernel_rfl) 15 (by decide)
end Go.Proofs.YtbpopmbabckojaaGreatDoor.Sp

/- The frame of a law's row: what a law leaves behind (it returns true, has made memory, and changed nothing that was there) is what the row asks. -/
namespace Go.Proofs.YtbpopmbabckojaaGreatDoor.Frame
open Go.ChangeShapes Go.WideShapes Go.ChangeAt Go.RowKit
variable {H : Type} {enc : TypeId × Value → H} {P : Program}

/-- What was read of the arguments reads so still. -/
theorem args_stay (hl : laidOutB P = true) {W W' : World} (hb : Below W.heap.size W W') : ∀ (ts : List TypeId) (vs : List Value) (ds : List (DataW H)) (ps : List MemPlace),
    (∀ t ∈ ts, P.readableRec t = true ∧ t < P.types.size) → DataW.TrodAll enc P W 0 (fun _ => true) true ts vs ds ps → (∀ x ∈ ps, x.block < W.heap.size) →
    DataW.TrodAll enc P W' 0 (fun b => decide (b < W.heap.size)) true ts vs ds ps
  | [], vs, ds, ps, _, h, _ => by
    obtain ⟨rfl, rfl, rfl⟩ := trodAll_nil h
    exact trodAll_mk0
  | t :: ts, vs, ds, ps, hts, h, hlt => by
    obtain ⟨v, vs', d, ds', p, q, rfl, rfl, rfl, h0, hr⟩ := trodAll_cons h
    refine trodAll_cons_mk ?_ (args_stay hl hb ts vs' ds' q (fun t ht => hts t (List.mem_cons_of_mem _ ht)) hr (fun x hx => hlt x (List.mem_append.2 (.inr hx))))
    have ht := hts t (List.mem_cons.2 (.inl rfl))
    exact Below.trod hl ht.1 ht.2 h0 hb (fun x hx => hlt x (List.mem_append.2 (.inl hx)))

/-- THE FRAME. -/
theorem law_post {f : Func} {s : ChangeSpec} {W W' : World} {args : Array Value} {ds gs : List (DataW H)} {before : List MemPlace} {tb : TypeId}
    (hW : DataW.Whole enc P f.params.toList s.vars false W args.toList ds gs before) (hvars : s.vars = []) (hl : laidOutB P = true) (hts : ∀ t ∈ f.params.toList, P.readableRec t = true ∧ t < P.types.size)
    (hrt : f.resultTypes = #[tb]) (htb : P.underlying tb = some .bool) (hres : (s.fn H ds).results = [.lit (.bool true)]) (hargs : (s.fn H ds).args = ds) (hvs : (s.fn H ds).vars = []) (hb : Below W.heap.size W W') :
    s.post enc P f false true false false W args (.bool true) W' := by
  have hlt := hW.lt
  have hW' := hW
  obtain ⟨p, q, hA, hV, rfl, hfz, hnd⟩ := hW
  rw [hvars] at hV
  obtain ⟨rfl, rfl⟩ := trodVars_none hV
  refine ⟨ds, [], p ++ [], [], p, [], hW', ?_, ?_, ?_, hb.frame _, fun h => by cases h⟩
  · rw [List.append_nil, hres, hrt]
    exact trodAll_cons_mk (shut_bool htb _) trodAll_mk0
  · rw [List.append_nil, hargs]
    exact args_stay hl hb _ _ _ _ hts hA (fun x hx => hlt x (List.mem_append.2 (.inl hx)))
  · rw [hvars, List.append_nil, hvs]
    exact rfl
end Go.Proofs.YtbpopmbabckojaaGreatDoor.Frame
