/- Lemmas for the statement's proof, several texts in one: Q14, M19, L1, Frame. -/
import Derived.Test.YtbpopmbabckojaaGreatDoorZ30
import Derived.Test.YtbpopmbabckojaaGreatDoorZ35
import Derived.Test.YtbpopmbabckojaaGreatDoorZ37
import Derived.Test.YtbpopmbabckojaaGreatDoorZ19
import Derived.Test.YtbpopmbabckojaaGreatDoorZ11
import Derived.Test.YtbpopmbabckojaaGreatDoorZ22
import Derived.LaidSub
import Derived.LaidLaws
import Derived.Lib.TrailingZeros
import Derived.Lib.LaidTab
import Derived.Test.YtbpopmbabckojaaGreatDoorRows
import Derived.WalkKit
import Derived.ProofKit
import Derived.OpenShut
import Derived.Below
import Derived.Carry
set_option linter.unusedVariables false
set_option linter.unusedSimpArgs false
/- What the laws of emit and its parser share: room, without. -/
section
namespace Go.Proofs.YtbpopmbabckojaaGreatDoor.Sp
open Go.RowKit Sl

set_option maxRecDepth 100000 in
theorem room_any (w : World) : Calls Tryz.prog 13 #[] w fun e w' => e = .returned (.agg #[.int .i64 2000, .int .i64 4000, .int .i64 40, .int .i64 1000]) ∧ Below w.heap.size w w' := by
  go_enter Tryz.func13, Tryz.ntmps13
  go_wp2_with fail
  have HF := Reg.Has.new w [.int .i64 2000, .int .i64 4000, .int .i64 40, .int .i64 1000] 34
  have hl := run_loadVar_mid (P := Tryz.prog) _ w.heap.size 0 34 [.int .i64 2000, .int .i64 4000, .int .i64 40, .int .i64 1000] _ (has_range HF) Tryz.underlying34 rfl (by kernel_rfl)
  exact bodyPost_ret (Mem.results_cell1 (ad := ⟨w.heap.size, 0, none⟩) Tryz.results13 rfl hl) rfl ⟨rfl, (Below.refl _ _).alloc (Nat.le_refl _) _⟩

def withF (F : List Fld) : List Fld := delF (delF F clB) teB
theorem delF_few {F : List Fld} (h : Few F) (name : ByteArray) : Few (delF F name) := ⟨Nat.le_trans (delF_len F name) h.1, fun f hf => h.2 f (List.mem_filter.1 hf).1⟩
def WithO (me ta re bo : ByteArray) (st mi : Int) (tr : Value) (F : List Fld) (w : World) (e : Ending) (w' : World) : Prop :=
  ∃ v, e = .returned (.agg (msgV me ta st re mi v bo tr)) ∧ Rd w' v (withF F).length 2 (fldV (withF F)) ∧ Below w.heap.size w w'
set_option maxRecDepth 100000 in
set_option maxHeartbeats 4000000 in
theorem without_any (me ta re bo : ByteArray) (st mi : Int) (fs : Value) (bo' : Option Addr) (n2 c2 : Nat) (F : List Fld) (hF : Few F) (w : World) (hv : Rd w fs F.length 2 (fldV F)) :
    Calls Tryz.prog 19 #[.agg (msgV me ta st re mi fs bo (.slice bo' n2 c2))] w (WithO me ta re bo st mi (.slice bo' n2 c2) F w) := by
  have q1 := hide (fun w1 (hb : Below w.heap.size w w1) => rdel_any fs F clB hF (by decide) w1 (hv.below hb))
  have q2 := hide (fun v w1 (h : Rd w1 v (delF F clB).length 2 (fldV (delF F clB))) => rdel_any v (delF F clB) teB (delF_few hF _) (by decide) w1 h)
  obtain ⟨ao, cap, rfl⟩ := hv.form
  unfold WithO withF
  unfold clB at q1 q2 ⊢
  unfold teB at q2 ⊢
  obtain ⟨D, hD⟩ : ∃ D, delF (delF F ⟨#[67, 111, 110, 116, 101, 110, 116, 45, 76, 101, 110, 103, 116, 104]⟩) ⟨#[84, 114, 97, 110, 115, 102, 101, 114, 45, 69, 110, 99, 111, 100, 105, 110, 103]⟩ = D := ⟨_, rfl⟩
  simp only [hD] at q2 ⊢
  clear hD
  unfold msgV
  have HX := hide ((Reg.Has.at w w.heap.size [.string me, .string ta, .int .i64 st, .string re, .int .i64 mi, .slice ao F.length cap, .string bo, .slice bo' n2 c2] 24 rfl).alloc (.cells zeroM.toArray 24))
  have HR := hide (Reg.Has.at (w.alloc (.cells #[.string me, .string ta, .int .i64 st, .string re, .int .i64 mi, .slice ao F.length cap, .string bo, .slice bo' n2 c2] 24)) (w.heap.size + 1) zeroM 24 (by simp))
  have HB := hide (((Below.refl w.heap.size w).alloc (Nat.le_refl _) (.cells #[.string me, .string ta, .int .i64 st, .string re, .int .i64 mi, .slice ao F.length cap, .string bo, .slice bo' n2 c2] 24)).alloc (by simp) (.cells zeroM.toArray 24))
  clear hv hF
  go_enter Tryz.func19, Tryz.ntmps19
  go_upto_region 1 with fail
  unfold zeroM at HX HR HB
  generalize (w.alloc (.cells #[.string me, .string ta, .int .i64 st, .string re, .int .i64 mi, .slice ao F.length cap, .string bo, .slice bo' n2 c2] 24)).alloc _ = w0 at HX HR HB ⊢
  have G := unhide HX
  have pa0 := G.cell 0 _ rfl; have pa1 := G.cell 1 _ rfl; have pa2 := G.cell 2 _ rfl; have pa3 := G.cell 3 _ rfl; have pa4 := G.cell 4 _ rfl; have pa5 := G.cell 5 _ rfl; have pa6 := G.cell 6 _ rfl; have pa7 := G.cell 7 _ rfl; have za := G.lt
  clear G
  go_wp2_with fail
  refine (unhide q1 _ (unhide HB)).mono ?_; rintro e w1 ⟨v1, rfl, ho1, hb1⟩
  have R1 := hide (Rd.own ho1)
  obtain ⟨a1, k1, rfl⟩ := (Rd.own ho1).form
  have HB1 := hide ((unhide HB).trans (hb1.mono (unhide HB).size))
  have HX1 := hide ((unhide HX).call hb1)
  have HR1 := hide ((unhide HR).call hb1)
  clear ho1 hb1 HB HX HR q1 pa0 pa1 pa2 pa3 pa4 pa5 pa6 pa7 za
  go_wp2_with fail
  refine (unhide q2 _ _ (unhide R1)).mono ?_; rintro e w2 ⟨v2, rfl, ho2, hb2⟩
  obtain ⟨a2, k2, rfl⟩ := (Rd.own ho2).form
  have HO2 := hide ho2
  have HB2 := hide ((unhide HB1).trans (hb2.mono (unhide HB1).size))
  have HX2 := hide ((unhide HX1).call hb2)
  have HR2 := hide ((unhide HR1).call hb2)
  have hz1 : w.heap.size + 2 ≤ w1.heap.size := by have := (unhide HR1).lt; omega
  clear ho2 hb2 HB1 HX1 HR1 q2 R1
  have p5 := (unhide HX2).cell 5 _ rfl
  have u5 := (unhide HX2).free 5 (by simp)
  have zx := (unhide HX2).lt
  go_upto_region 2 with fail
  have HX3 := hide ((unhide HX2).put 5 (.slice a2 D.length k2))
  have HR3 := hide ((unhide HR2).other (a := ⟨w.heap.size, 5, none⟩) (by show w.heap.size ≠ w.heap.size + 1; omega) (.slice a2 D.length k2))
  have HB3 := hide ((unhide HB2).setCell (p := ⟨w.heap.size, 5, none⟩) (Nat.le_refl _) (.slice a2 D.length k2))
  have HO3 := hide ((But.set (fun k => k = w.heap.size) w2 (p := ⟨w.heap.size, 5, none⟩) rfl (.slice a2 D.length k2)).own (unhide HO2) (fun k e e2 => by have := ((unhide HO2).lt k e).1; have : k = w.heap.size := e2; omega))
  generalize World.setCell _ ⟨w.heap.size, 5, none⟩ _ = w3 at HX3 HR3 HB3 HO3 ⊢
  clear p5 u5 zx HX2 HR2 HB2 HO2
  go_wp2_with (first
    | (refine wpList_loadM rfl _ rfl w.heap.size rfl _ rfl (unhide HX3) ?_)
    | (refine wpList_storeM rfl _ _ rfl (w.heap.size + 1) rfl #[.string me, .string ta, .int .i64 st, .string re, .int .i64 mi, .slice a2 D.length k2, .string bo, .slice bo' n2 c2] rfl rfl _ rfl (unhide HR3) (by kernel_rfl) ?_; intro HZ; have hu := But.cells (b := w.heap.size + 1) (#[.string me, .string ta, .int .i64 st, .string re, .int .i64 mi, .slice a2 D.length k2, .string bo, .slice bo' n2 c2] : Array Value).toList 0 w3; have HB4 := hide (below_setCells (w.heap.size + 1) (Nat.le_succ _) (#[.string me, .string ta, .int .i64 st, .string re, .int .i64 mi, .slice a2 D.length k2, .string bo, .slice bo' n2 c2] : Array Value).toList 0 _ (unhide HB3)); generalize World.setCells _ (w.heap.size + 1) 0 _ = w4 at HZ hu HB4 ⊢; have ZZ := hide HZ; have HU4 := hide hu; clear HZ hu))
  have hrl := run_loadM (w.heap.size + 1) #[.string me, .string ta, .int .i64 st, .string re, .int .i64 mi, .slice a2 D.length k2, .string bo, .slice bo' n2 c2] rfl (unhide ZZ)
  exact bodyPost_ret (Mem.results_cell1 (ad := ⟨w.heap.size + 1, 0, none⟩) Tryz.results19 rfl hrl) rfl ⟨_, rfl, Rd.own ((unhide HU4).own (unhide HO3) (fun k e e2 => by have := ((unhide HO3).lt k e).1; have : k = w.heap.size + 1 := e2; omega)), unhide HB4⟩
end Go.Proofs.YtbpopmbabckojaaGreatDoor.Sp
end

/- The walk of the law EmitCalls. -/
section
namespace Go.Proofs.YtbpopmbabckojaaGreatDoor.Sp
open Go.RowKit Sl

theorem light_fewE {F : List Fld} (h1 : F.length ≤ 20) (h2 : sumF F ≤ 600) : Few F := ⟨by omega, fun f hf => by have := sumF_mem hf; omega⟩
theorem sameFs_self' (L : List Fld) : sameFs L L = true := by
  unfold sameFs
  rw [decide_eq_true rfl, Bool.true_and, List.all_eq_true]
  intro p hp
  have : p.1 = p.2 := by
    obtain ⟨i, hi, rfl⟩ := List.getElem_of_mem hp
    simp
  unfold samePF same
  rw [this]
  simp

set_option maxRecDepth 100000 in
set_option maxHeartbeats 8000000 in
theorem ecalls_any (me ta re bo m : ByteArray) (st mi size sta : Int) (fs tr : Value) (F T : List Fld) (z1 : me.size ≤ 9223372036854775807) (z2 : ta.size ≤ 9223372036854775807) (z3 : re.size ≤ 9223372036854775807) (z4 : bo.size ≤ 9223372036854775807)
    (zF : F.length ≤ 9223372036854775807) (zT : T.length ≤ 9223372036854775807) (zf : ∀ f ∈ F, f.1.size ≤ 1000000000000000 ∧ f.2.size ≤ 1000000000000000) (zt : ∀ f ∈ T, f.1.size ≤ 1000000000000000 ∧ f.2.size ≤ 1000000000000000)
    (zm : m.size ≤ 9223372036854775807) (hs0 : -9223372036854775808 ≤ size) (hs1 : size ≤ 9223372036854775807) (ht0 : -9223372036854775808 ≤ sta) (ht1 : sta ≤ 9223372036854775807) (w : World) (hT : Pow10 w) (hR : Bru w) (hv : Rd w fs F.length 2 (fldV F)) (hu : Rd w tr T.length 2 (fldV T)) :
    Calls Tryz.prog 7 #[.agg (msgV me ta st re mi fs bo tr), .string m, .int .i64 size, .int .i64 sta] w fun e w' => e = .returned (.bool true) ∧ Below w.heap.size w w' := by
  obtain ⟨ao, c1, rfl⟩ := hv.form
  obtain ⟨bo', c2, rfl⟩ := hu.form
  have c0 := hide (fun w1 (hb : Below w.heap.size w w1) => lives8_any w1 (hT.below hb))
  have cl := hide (fun w1 (hb : Below w.heap.size w w1) => light8_any me ta re bo st mi _ _ F T z1 z2 z3 z4 zF zT zf zt w1 (hv.below hb) (hu.below hb))
  have hq := hide (fun (hl : LightA me ta re bo F T) => And.intro (Nat.le_trans hl.1 (by decide : 40 ≤ 1000000)) <| And.intro (Nat.le_trans hl.2.1 (by decide : 200 ≤ 1000000)) <| And.intro (Nat.le_trans hl.2.2.1 (by decide : 100 ≤ 1000000)) <| And.intro (Nat.le_trans hl.2.2.2.1 (by decide : 400 ≤ 1000)) <| And.intro (light_fewE hl.2.2.2.2.1.1 hl.2.2.2.2.1.2) (light_fewE (Nat.le_trans hl.2.2.2.2.2.1 (by decide : 10 ≤ 20)) (Nat.le_trans hl.2.2.2.2.2.2 (by decide : 300 ≤ 600))))
  have HV := hide hv
  have HU := hide hu
  have HT := hide hT
  have HR := hide hR
  clear hv hu hT hR zf zt z1 z2 z3 z4 zF zT
  have HB := hide ((Below.refl w.heap.size w).alloc (Nat.le_refl _) (.cells #[.string me, .string ta, .int .i64 st, .string re, .int .i64 mi, .slice ao F.length c1, .string bo, .slice bo' T.length c2] 24))
  have H := hide (Reg.Has.at w w.heap.size [.string me, .string ta, .int .i64 st, .string re, .int .i64 mi, .slice ao F.length c1, .string bo, .slice bo' T.length c2] 24 rfl)
  unfold LightQ at cl
  unfold msgV at cl ⊢
  go_enter Tryz.func7, Tryz.ntmps7
  go_wp2_with fail
  refine (unhide c0 _ (unhide HB)).mono ?_; rintro e w1 ⟨rfl, hb1⟩
  have HB := hide ((unhide HB).trans (hb1.mono (unhide HB).size))
  have H1 := hide ((unhide H).call hb1)
  clear hb1 c0 H
  have G1 := unhide H1
  have pa0 := G1.cell 0 _ rfl; have pa1 := G1.cell 1 _ rfl; have pa2 := G1.cell 2 _ rfl; have pa3 := G1.cell 3 _ rfl; have pa4 := G1.cell 4 _ rfl; have pa5 := G1.cell 5 _ rfl; have pa6 := G1.cell 6 _ rfl; have pa7 := G1.cell 7 _ rfl; have za := G1.lt
  clear G1
  go_wp2_with fail
  refine (unhide cl _ (unhide HB)).mono ?_; rintro e w2 ⟨r, rfl, hr, hb2⟩
  have HRR := hide hr
  have HB := hide ((unhide HB).trans (hb2.mono (unhide HB).size))
  have H2 := hide ((unhide H1).call hb2)
  clear hb2 cl H1 hr pa0 pa1 pa2 pa3 pa4 pa5 pa6 pa7 za
  cases r
  · go_wp2_with fail
    go_ret
    exact ⟨rfl, unhide HB⟩
  by_cases hm : m.size ≤ 60
  rotate_left
  · have hd : decide ((60 : Int) < (m.size : Int)) = true := decide_eq_true (by omega)
    go_wp2_with fail
    go_ret
    exact ⟨rfl, unhide HB⟩
  have hd : decide ((60 : Int) < (m.size : Int)) = false := decide_eq_false (by omega)
  obtain ⟨h1, h2, h3, h4, hF, hTr⟩ := unhide hq (unhide HRR rfl)
  clear hq HRR hm
  have zl := lineS_len me ta re st mi h1 h2 h3
  have q1 := hide (fun w1 (hb : Below w.heap.size w w1) => ereq_any me ta re bo st mi _ _ F T h1 h2 h3 (by omega) zl hF hTr w1 ((unhide HT).below hb) ((unhide HV).below hb) ((unhide HU).below hb))
  have q2 := hide (fun w1 (hb : Below w.heap.size w w1) => rreq_any me ta re bo st mi _ _ F T h1 h2 h3 (by omega) zl hF hTr w1 ((unhide HV).below hb) ((unhide HU).below hb))
  have q3 := hide (fun w1 (hb : Below w.heap.size w w1) => eres_any me ta re bo m st mi _ _ F T h1 h2 h3 (by omega) zl hF hTr w1 ((unhide HT).below hb) ((unhide HV).below hb) ((unhide HU).below hb))
  have q4 := hide (fun w1 (hb : Below w.heap.size w w1) => rres_any me ta re bo m st mi _ _ F T h1 h2 h3 (by omega) zl hF hTr w1 ((unhide HV).below hb) ((unhide HU).below hb))
  have q5 := hide (fun w1 (hb : Below w.heap.size w w1) => echu_any me ta re bo st mi size _ _ F T h1 h2 h3 (by omega) hs0 hs1 zl hF hTr w1 ((unhide HT).below hb) ((unhide HR).below hb) ((unhide HV).below hb) ((unhide HU).below hb))
  have q6 := hide (fun w1 (hb : Below w.heap.size w w1) => rchu_any me ta re bo st mi size _ _ F T h1 h2 h3 (by omega) hs0 hs1 zl hF hTr w1 ((unhide HV).below hb) ((unhide HU).below hb))
  have q7 := hide (fun w1 (hb : Below w.heap.size w w1) => echeck_any me ta re bo st mi _ _ F T h1 h2 h3 hF hTr w1 ((unhide HT).below hb) ((unhide HV).below hb) ((unhide HU).below hb))
  have q8 := hide (fun w1 (hb : Below w.heap.size w w1) => rcheck8_any me ta re bo st mi _ _ F T h1 h2 h3 hF hTr w1 ((unhide HV).below hb) ((unhide HU).below hb))
  have q9 := hide (fun w => reason_any sta w)
  have q10 := hide (fun w => rreason_any sta w)
  have q11 := hide (fun w1 (hb : Below w.heap.size w w1) => eplain_any sta ht0 ht1 w1 ((unhide HT).below hb))
  have q12 := hide (fun w1 => rplain_any sta ht0 ht1 w1)
  clear HT HR HV HU h1 h2 h3 h4 hF hTr zl hs0 hs1 ht0 ht1
  unfold OutS at q1 q2 q3 q4 q5 q6
  unfold PlainO at q11 q12
  unfold msgV at q1 q2 q3 q4 q5 q6 q7 q8
  generalize reqS me ta re bo st mi F T = X1 at q1 q2
  generalize resS me ta re bo st mi F T m = X2 at q3 q4
  generalize chuS me ta re bo st mi F T size = X3 at q5 q6
  generalize emC me ta re st mi F T = em at q7 q8
  obtain ⟨x1, y1⟩ := X1
  obtain ⟨x2, y2⟩ := X2
  obtain ⟨x3, y3⟩ := X3
  simp only at q1 q2 q3 q4 q5 q6
  have G := unhide H2
  have pa0 := G.cell 0 _ rfl; have pa1 := G.cell 1 _ rfl; have pa2 := G.cell 2 _ rfl; have pa3 := G.cell 3 _ rfl; have pa4 := G.cell 4 _ rfl; have pa5 := G.cell 5 _ rfl; have pa6 := G.cell 6 _ rfl; have pa7 := G.cell 7 _ rfl; have za := G.lt
  clear G
  go_wp2_with fail
  refine (unhide q1 _ (unhide HB)).mono ?_; rintro e w3 ⟨rfl, hb3⟩
  have HB := hide ((unhide HB).trans (hb3.mono (unhide HB).size))
  have H3 := hide ((unhide H2).call hb3)
  clear hb3 q1 H2 pa0 pa1 pa2 pa3 pa4 pa5 pa6 pa7 za
  have G := unhide H3
  have pa0 := G.cell 0 _ rfl; have pa1 := G.cell 1 _ rfl; have pa2 := G.cell 2 _ rfl; have pa3 := G.cell 3 _ rfl; have pa4 := G.cell 4 _ rfl; have pa5 := G.cell 5 _ rfl; have pa6 := G.cell 6 _ rfl; have pa7 := G.cell 7 _ rfl; have za := G.lt
  clear G
  go_wp2_with fail
  refine (unhide q2 _ (unhide HB)).mono ?_; rintro e w4 ⟨rfl, hb4⟩
  have HB := hide ((unhide HB).trans (hb4.mono (unhide HB).size))
  have H4 := hide ((unhide H3).call hb4)
  clear hb4 q2 H3 pa0 pa1 pa2 pa3 pa4 pa5 pa6 pa7 za
  have G := unhide H4
  have pa0 := G.cell 0 _ rfl; have pa1 := G.cell 1 _ rfl; have pa2 := G.cell 2 _ rfl; have pa3 := G.cell 3 _ rfl; have pa4 := G.cell 4 _ rfl; have pa5 := G.cell 5 _ rfl; have pa6 := G.cell 6 _ rfl; have pa7 := G.cell 7 _ rfl; have za := G.lt
  clear G
  go_wp2_with fail
  refine (unhide q3 _ (unhide HB)).mono ?_; rintro e w5 ⟨rfl, hb5⟩
  have HB := hide ((unhide HB).trans (hb5.mono (unhide HB).size))
  have H5 := hide ((unhide H4).call hb5)
  clear hb5 q3 H4 pa0 pa1 pa2 pa3 pa4 pa5 pa6 pa7 za
  have G := unhide H5
  have pa0 := G.cell 0 _ rfl; have pa1 := G.cell 1 _ rfl; have pa2 := G.cell 2 _ rfl; have pa3 := G.cell 3 _ rfl; have pa4 := G.cell 4 _ rfl; have pa5 := G.cell 5 _ rfl; have pa6 := G.cell 6 _ rfl; have pa7 := G.cell 7 _ rfl; have za := G.lt
  clear G
  go_wp2_with fail
  refine (unhide q4 _ (unhide HB)).mono ?_; rintro e w6 ⟨rfl, hb6⟩
  have HB := hide ((unhide HB).trans (hb6.mono (unhide HB).size))
  have H6 := hide ((unhide H5).call hb6)
  clear hb6 q4 H5 pa0 pa1 pa2 pa3 pa4 pa5 pa6 pa7 za
  have G := unhide H6
  have pa0 := G.cell 0 _ rfl; have pa1 := G.cell 1 _ rfl; have pa2 := G.cell 2 _ rfl; have pa3 := G.cell 3 _ rfl; have pa4 := G.cell 4 _ rfl; have pa5 := G.cell 5 _ rfl; have pa6 := G.cell 6 _ rfl; have pa7 := G.cell 7 _ rfl; have za := G.lt
  clear G
  go_wp2_with fail
  refine (unhide q5 _ (unhide HB)).mono ?_; rintro e w7 ⟨rfl, hb7⟩
  have HB := hide ((unhide HB).trans (hb7.mono (unhide HB).size))
  have H7 := hide ((unhide H6).call hb7)
  clear hb7 q5 H6 pa0 pa1 pa2 pa3 pa4 pa5 pa6 pa7 za
  have G := unhide H7
  have pa0 := G.cell 0 _ rfl; have pa1 := G.cell 1 _ rfl; have pa2 := G.cell 2 _ rfl; have pa3 := G.cell 3 _ rfl; have pa4 := G.cell 4 _ rfl; have pa5 := G.cell 5 _ rfl; have pa6 := G.cell 6 _ rfl; have pa7 := G.cell 7 _ rfl; have za := G.lt
  clear G
  go_wp2_with fail
  refine (unhide q6 _ (unhide HB)).mono ?_; rintro e w8 ⟨rfl, hb8⟩
  have HB := hide ((unhide HB).trans (hb8.mono (unhide HB).size))
  have H8 := hide ((unhide H7).call hb8)
  clear hb8 q6 H7 pa0 pa1 pa2 pa3 pa4 pa5 pa6 pa7 za
  have G := unhide H8
  have pa0 := G.cell 0 _ rfl; have pa1 := G.cell 1 _ rfl; have pa2 := G.cell 2 _ rfl; have pa3 := G.cell 3 _ rfl; have pa4 := G.cell 4 _ rfl; have pa5 := G.cell 5 _ rfl; have pa6 := G.cell 6 _ rfl; have pa7 := G.cell 7 _ rfl; have za := G.lt
  clear G
  go_upto_region 11 with fail
  have BW := hide (Below.drew (Below.refl w8.heap.size w8))
  refine Reg.region_mix [0, 1, 2, 3, 4, 5, 6, 7, 8, 9, 10, 11, 12, 13, 14, 15, 16, 17, 18, 19, 20, 21, 22, 23, 24, 25, 26, 27, 28, 29, 31, 30, 32, 33, 34, 35, 36, 38, 37, 39, 40, 41, 42, 43, 45, 44, 46, 47, 48, 49] (by kernel_rfl) (by kernel_rfl) (by kernel_rfl) (by decide) (by intro c a d v w h; cases d <;> exact h) ?_
  simp only [Reg.pickL, List.getElem?_cons_zero, List.getElem?_cons_succ]
  refine Reg.mix_take 31 (by kernel_rfl) ?_
  simp only [List.take_succ_cons, List.take_zero, List.drop_succ_cons, List.drop_zero]
  repeat (go_big_quiet_step (fail))
  refine wpQuiet_nil ?_
  refine Reg.mix_one (by kernel_rfl) ?_
  go_wp2_with ((go_at_call 24; refine (unhide q7 _ ((unhide HB).trans ((unhide BW).mono (unhide HB).size))).mono ?_; rintro e w9 ⟨rfl, hb⟩; have BW := hide ((unhide BW).trans (hb.mono (unhide BW).size)); clear hb))
  refine ⟨rfl, ⟨⟨_, unhide BW⟩, rfl⟩, ?_⟩
  refine Reg.mix_one (by kernel_rfl) ?_
  go_wp2_with ((go_at_call 33; refine (unhide q8 _ ((unhide HB).trans ((unhide BW).mono (unhide HB).size))).mono ?_; rintro e w10 ⟨rfl, hb⟩; have BW := hide ((unhide BW).trans (hb.mono (unhide BW).size)); clear hb))
  refine ⟨rfl, ⟨⟨_, unhide BW⟩, rfl⟩, ?_⟩
  refine Reg.mix_take 5 (by kernel_rfl) ?_
  simp only [List.take_succ_cons, List.take_zero, List.drop_succ_cons, List.drop_zero]
  repeat (go_big_quiet_step (fail))
  refine wpQuiet_nil ?_
  refine Reg.mix_one (by kernel_rfl) ?_
  go_wp2_with ((go_at_call 23; refine (unhide q9 _).mono ?_; rintro e w11 ⟨rfl, rfl⟩))
  refine ⟨rfl, ⟨⟨_, unhide BW⟩, rfl⟩, ?_⟩
  refine Reg.mix_one (by kernel_rfl) ?_
  go_wp2_with ((go_at_call 34; refine (unhide q10 _).mono ?_; rintro e w12 ⟨rfl, rfl⟩))
  refine ⟨rfl, ⟨⟨_, unhide BW⟩, rfl⟩, ?_⟩
  refine Reg.mix_take 5 (by kernel_rfl) ?_
  simp only [List.take_succ_cons, List.take_zero, List.drop_succ_cons, List.drop_zero]
  repeat (go_big_quiet_step (fail))
  refine wpQuiet_nil ?_
  refine Reg.mix_one (by kernel_rfl) ?_
  go_wp2_with ((go_at_call 21; refine (unhide q11 _ ((unhide HB).trans ((unhide BW).mono (unhide HB).size))).mono ?_; rintro e w13 ⟨b1, rfl, hr1, hb⟩; have RA := hide hr1; have BW := hide ((unhide BW).trans (hb.mono (unhide BW).size)); clear hb hr1))
  refine ⟨rfl, ⟨⟨_, unhide BW⟩, rfl⟩, ?_⟩
  refine Reg.mix_one (by kernel_rfl) ?_
  go_wp2_with ((go_at_call 35; refine (unhide q12 _).mono ?_; rintro e w14 ⟨b2, rfl, hr2, hb⟩; have RA2 := hide ((unhide RA).below hb); have RB := hide hr2; have BW := hide ((unhide BW).trans (hb.mono (unhide BW).size)); clear hb hr2))
  refine ⟨rfl, ⟨⟨_, unhide BW⟩, rfl⟩, ?_⟩
  have hctl : ([ctF] : List Fld).length ≤ 1000 ∧ ∀ f ∈ ([ctF] : List Fld), f.1.size ≤ 100000 := ⟨by simp, by intro f hf; rw [List.mem_singleton] at hf; subst hf; decide⟩
  have hnil : ([] : List Fld).length ≤ 1000 ∧ ∀ f ∈ ([] : List Fld), f.1.size ≤ 100000 := ⟨by simp, by simp⟩
  have qs := hide (rsame06_any ⟨#[]⟩ ⟨#[]⟩ (reasonB sta) (plainB sta) sta 1 (.slice (some ⟨b1, 0, none⟩) 1 1) (.slice (some ⟨b2, 0, none⟩) 1 1) (.slice none 0 0) (.slice none 0 0) [ctF] [ctF] [] [] w14 hctl hctl hnil hnil (unhide RA2) (unhide RB) (Rd.nil _ _) (Rd.nil _ _))
  rw [sameFs_self', sameFs_self'] at qs
  unfold msgV at qs
  unfold plainA
  clear hctl hnil RA RA2 RB
  refine Reg.mix_one (by kernel_rfl) ?_
  go_wp2_with ((go_at_call 18; refine (unhide qs).mono ?_; rintro e w15 ⟨rfl, hb⟩; have BW := hide ((unhide BW).trans (hb.mono (unhide BW).size)); clear hb))
  refine ⟨rfl, ⟨⟨_, unhide BW⟩, rfl⟩, ?_⟩
  refine Reg.mix_take 2 (by kernel_rfl) ?_
  simp only [List.take_succ_cons, List.take_zero, List.drop_succ_cons, List.drop_zero]
  repeat (go_big_quiet_step (fail))
  refine wpQuiet_nil ?_
  refine Reg.mix_nil ?_
  go_wp2_with fail
  go_ret
  exact ⟨rfl, ((unhide HB).trans ((unhide BW).mono (unhide HB).size))⟩
end Go.Proofs.YtbpopmbabckojaaGreatDoor.Sp
end

/- What a row's listed variables give: the table of powers of ten; the table of trailing zeros. -/
section
namespace Go.Proofs.YtbpopmbabckojaaGreatDoor.Sp
open Go.ChangeShapes Go.WideShapes Go.ChangeAt Go.RowKit

def pow10Row : List (String × DataW Unit) := [("internal/strconv.uint64pow10", Lib.tabData .u64 Lib.pow10Tab)]
theorem pow10_of {W : World} {l : List (String × DataW Unit)} (hl : (l.filter fun x => x.1 == "internal/strconv.uint64pow10") = pow10Row) (h : laidMet Tryz.prog l W) : Pow10 W := by
  have h2 := laidMet.filter (fun x => x.1 == "internal/strconv.uint64pow10") h
  rw [hl] at h2
  exact Lib.tabIs_of_head (g := 0) (by kernel_rfl) (by kernel_rfl) Tryz.underlying139 Tryz.underlying120 (by kernel_rfl) (by kernel_rfl) h2
def bruTab : List Int := Lib.deBruijn64tab.map Int.ofNat
def bruRow : List (String × DataW Unit) := [("math/bits.deBruijn64tab", Lib.tabData .u8 bruTab)]
theorem bru_of {W : World} {l : List (String × DataW Unit)} (hl : (l.filter fun x => x.1 == "math/bits.deBruijn64tab") = bruRow) (h : laidMet Tryz.prog l W) : Bru W := by
  have h2 := laidMet.filter (fun x => x.1 == "math/bits.deBruijn64tab") h
  rw [hl] at h2
  have h3 : Lib.TabIs Tryz.prog W "math/bits.deBruijn64tab" .u8 bruTab := Lib.tabIs_of_head (g := 3) (by kernel_rfl) (by kernel_rfl) Tryz.underlying189 Tryz.underlying5 (by kernel_rfl) (by kernel_rfl) h2
  exact h3.cell (g := 3) (by kernel_rfl) 15 (by decide)
end Go.Proofs.YtbpopmbabckojaaGreatDoor.Sp
end

/- The frame of a law's row: what a law leaves behind (it returns true, has made memory, and changed nothing that was there) is what the row asks. -/
section
namespace Go.Proofs.YtbpopmbabckojaaGreatDoor.Frame
open Go.ChangeShapes Go.WideShapes Go.ChangeAt Go.RowKit
variable {H : Type} {enc : TypeId × Value → H} {P : Program}

/-- What was read of the arguments reads so still. -/
theorem args_stay (hl : laidOutB P = true) {W W' : World} (hb : Below W.heap.size W W') : ∀ (ts : List TypeId) (vs : List Value) (ds : List (DataW H)) (ps : List MemPlace),
    (∀ t ∈ ts, P.readableRec t = true ∧ t < P.types.size) → DataW.TrodAll enc P W 0 (fun _ => true) true ts vs ds ps → (∀ x ∈ ps, x.block < W.heap.size) →
    DataW.TrodAll enc P W' 0 (fun b => decide (b < W.heap.size)) true ts vs ds ps
  | [], vs, ds, ps, _, h, _ => by
    obtain ⟨rfl, rfl, rfl⟩ := trodAll_nil h
    exact trodAll_mk0
  | t :: ts, vs, ds, ps, hts, h, hlt => by
    obtain ⟨v, vs', d, ds', p, q, rfl, rfl, rfl, h0, hr⟩ := trodAll_cons h
    refine trodAll_cons_mk ?_ (args_stay hl hb ts vs' ds' q (fun t ht => hts t (List.mem_cons_of_mem _ ht)) hr (fun x hx => hlt x (List.mem_append.2 (.inr hx))))
    have ht := hts t (List.mem_cons.2 (.inl rfl))
    exact Below.trod hl ht.1 ht.2 h0 hb (fun x hx => hlt x (List.mem_append.2 (.inl hx)))

/-- THE FRAME. -/
theorem law_post {f : Func} {s : ChangeSpec} {W W' : World} {args : Array Value} {ds gs : List (DataW H)} {before : List MemPlace} {tb : TypeId}
    (hW : DataW.Whole enc P f.params.toList s.vars false W args.toList ds gs before) (hvars : s.vars = []) (hl : laidOutB P = true) (hts : ∀ t ∈ f.params.toList, P.readableRec t = true ∧ t < P.types.size)
    (hrt : f.resultTypes = #[tb]) (htb : P.underlying tb = some .bool) (hres : (s.fn H ds).results = [.lit (.bool true)]) (hargs : (s.fn H ds).args = ds) (hvs : (s.fn H ds).vars = []) (hb : Below W.heap.size W W') :
    s.post enc P f false true false false W args (.bool true) W' := by
  have hlt := hW.lt
  have hW' := hW
  obtain ⟨p, q, hA, hV, rfl, hfz, hnd⟩ := hW
  rw [hvars] at hV
  obtain ⟨rfl, rfl⟩ := trodVars_none hV
  refine ⟨ds, [], p ++ [], [], p, [], hW', ?_, ?_, ?_, hb.frame _, fun h => by cases h⟩
  · rw [List.append_nil, hres, hrt]
    exact trodAll_cons_mk (shut_bool htb _) trodAll_mk0
  · rw [List.append_nil, hargs]
    exact args_stay hl hb _ _ _ _ hts hA (fun x hx => hlt x (List.mem_append.2 (.inl hx)))
  · rw [hvars, List.append_nil, hvs]
    exact rfl
end Go.Proofs.YtbpopmbabckojaaGreatDoor.Frame
end
