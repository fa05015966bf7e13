/- Lemmas for the statement's proof, several texts in one: Q9, Reg5. -/
import Derived.Test.YtbpopmbabckojaaGreatDoorZ21
import Derived.Test.YtbpopmbabckojaaGreatDoorZ25
import Derived.Test.YtbpopmbabckojaaGreatDoorZ19
set_option linter.unusedVariables false
set_option linter.unusedSimpArgs false
/- The reference's parser: its states; frame, whole. -/
section
namespace Go.Proofs.YtbpopmbabckojaaGreatDoor.Sp
open Go.RowKit Sl

/-- the methods that were asked: the first of them -/
def AskAt (w : World) (b : Nat) (ak : Value) (m : ByteArray) : Prop :=
  ∃ (g off n cap : Nat), ak = .slice (some ⟨g, off, none⟩) (n + 1) cap ∧ n + 1 ≤ cap ∧ g ≠ b ∧ g < w.heap.size ∧ w.cell? ⟨g, off, none⟩ = some (.string m)
theorem AskAt.but {w w' : World} {b : Nat} {ak : Value} {m : ByteArray} (h : AskAt w b ak m) (hb : But (fun k => k = b) w w') : AskAt w' b ak m := by
  obtain ⟨g, off, n, cap, e, hn, hg, hl, hc⟩ := h
  exact ⟨g, off, n, cap, e, hn, hg, Nat.lt_of_lt_of_le hl hb.size, hb.cell hc hg⟩
theorem AskAt.call {w w' : World} {b : Nat} {ak : Value} {m : ByteArray} (h : AskAt w b ak m) (hb : Below w.heap.size w w') : AskAt w' b ak m := h.but (But.of_below hb)
/-- a parser to which s came, of a message that is not whole -/
def PSt (w : World) (b L H C B : Nat) (resp : Bool) (ak : Value) (s : ByteArray) : Prop :=
  Reg.Has w b (parV L H C B resp ak s false ⟨#[]⟩ ⟨#[]⟩ 0 ⟨#[]⟩ 0 (.slice none 0 0) ⟨#[]⟩ (.slice none 0 0) 0)
/-- fields that do not lie in block b -/
def RdN (w : World) (b : Nat) (v : Value) (F : List Fld) : Prop := Rd w v F.length 2 (fldV F) ∧ ∀ g off n c, v = .slice (some ⟨g, off, none⟩) n c → g ≠ b
theorem RdN.but {w w' : World} {b : Nat} {v : Value} {F : List Fld} (h : RdN w b v F) (hb : But (fun k => k = b) w w') : RdN w' b v F := by
  refine ⟨?_, h.2⟩
  obtain ⟨ao, cap, e, hcp, hz, hl, hc⟩ := h.1
  refine ⟨ao, cap, e, hcp, hz, hl, fun hne => ?_⟩
  obtain ⟨g, off, e2, hlt, hc⟩ := hc hne
  have hg : g ≠ b := h.2 g off F.length cap (by rw [e, e2])
  exact ⟨g, off, e2, Nat.lt_of_lt_of_le hlt hb.size, fun i u hu => hb.cell (hc i u hu) hg⟩
theorem RdN.call {w w' : World} {b : Nat} {v : Value} {F : List Fld} (h : RdN w b v F) (hb : Below w.heap.size w w') : RdN w' b v F := h.but (But.of_below hb)
theorem RdN.nil (w : World) (b : Nat) : RdN w b (.slice none 0 0) [] := ⟨Rd.nil _ _, fun g off n c e => by cases e⟩
theorem RdN.own {w : World} {b base : Nat} {v : Value} {F : List Fld} (h : w.ownsRow base 55 2 v F.length (fldV F)) (hb : b < base) : RdN w b v F :=
  ⟨Rd.own h, fun g off n c e => by
    have := (h.lt g (by rw [e]; rfl)).1
    omega⟩
/-- a message is whole -/
def DoneAt (w : World) (b L H C B : Nat) (resp : Bool) (h : Hd) (bo : ByteArray) (T : List Fld) : Prop :=
  ∃ ak fs tr, Reg.Has w b (parV L H C B resp ak ⟨#[]⟩ true h.me h.ta h.st h.re h.mi fs bo tr 0) ∧ RdN w b fs h.F ∧ RdN w b tr T

theorem par_there {w : World} {b L H C B : Nat} {resp wait : Bool} {ak fs tr : Value} {s me ta re bo : ByteArray} {st mi bad : Int} (h : Reg.Has w b (parV L H C B resp ak s wait me ta st re mi fs bo tr bad)) : w.there b 8 8 := fun j hj => by
  have hlen : (parV L H C B resp ak s wait me ta st re mi fs bo tr bad).length = 17 := rfl
  exact ⟨by rw [h.cell (8 + j) _ (List.getElem?_eq_getElem (by rw [hlen]; omega))]; rfl, h.free (8 + j) (by rw [hlen]; omega)⟩
theorem par_put {w : World} {b L H C B : Nat} {resp wait : Bool} {ak fs tr : Value} {s me ta re bo : ByteArray} {st mi bad : Int} (h : Reg.Has w b (parV L H C B resp ak s wait me ta st re mi fs bo tr bad))
    (me' ta' re' bo' : ByteArray) (st' mi' : Int) (fs' tr' : Value) :
    Reg.Has (w.setCells b 8 [.string me', .string ta', .int .i64 st', .string re', .int .i64 mi', fs', .string bo', tr']) b (parV L H C B resp ak s wait me' ta' st' re' mi' fs' bo' tr' bad) :=
  (((((((h.put 8 (.string me')).put 9 (.string ta')).put 10 (.int .i64 st')).put 11 (.string re')).put 12 (.int .i64 mi')).put 13 fs').put 14 (.string bo')).put 15 tr'
theorem par_range {w : World} {b L H C B : Nat} {resp wait : Bool} {ak fs tr : Value} {s me ta re bo : ByteArray} {st mi bad : Int} (h : Reg.Has w b (parV L H C B resp ak s wait me ta st re mi fs bo tr bad)) :
    w.rangeAt b 8 [.string me, .string ta, .int .i64 st, .string re, .int .i64 mi, fs, .string bo, tr] := fun j v hv => by
  have hj : j < 8 := by have := (List.getElem?_eq_some_iff.1 hv).1; simpa using this
  refine h.cell (8 + j) v ?_
  rw [← hv]
  show ([.int .i64 L, .int .i64 H, .int .i64 C, .int .i64 B, .bool resp, ak, .string s, .bool wait] ++ [.string me, .string ta, .int .i64 st, .string re, .int .i64 mi, fs, .string bo, tr] ++ [.int .i64 bad] : List Value)[8 + j]? = _
  rw [List.getElem?_append_left (by simp; omega), List.getElem?_append_right (by simp)]
  congr 1
  simp

set_option maxRecDepth 100000 in
set_option maxHeartbeats 4000000 in
theorem frame_t (a s : ByteArray) (L H C B b : Nat) (ak : Value) (h : Hd) (fs : Value) (o : Option Nat) (c : Bool) (hF : Few h.F) (ho : CLis h.F o) (hc : TEis h.F c) (hok : c = true → h.mi ≠ 0 ∧ o = none) (w : World) (hp : PSt w b L H C B true ak s) (hk : AskAt w b ak a) (hv : Rd w fs h.F.length 2 (fldV h.F)) :
    Calls Tryz.prog 65 #[.pointer (some ⟨b, 0, none⟩), .agg (hdM h fs)] w fun e w' => e = .returned (.tuple #[frV (frR a h.st o c).1 (frR a h.st o c).2, .int .i64 0]) ∧ Below w.heap.size w w' := by
  have q := hide (fun w1 (hb : Below w.heap.size w w1) => fres_any a h.st h.mi fs h.F o c hF ho hc hok w1 (hv.below hb))
  obtain ⟨ao, cap, rfl⟩ := hv.form
  obtain ⟨g, off, n, cp, rfl, hncp, hgb, hg, c1⟩ := hk
  have p4 := hp.cell 4 _ rfl
  have p5 := hp.cell 5 _ rfl
  have zb := hp.lt
  clear hF ho hc hok hp hv
  obtain ⟨me, ta, re, st, mi, F⟩ := h
  unfold hdM msgV
  simp only at q ⊢
  obtain ⟨⟨k, nn⟩, hr⟩ : ∃ r, frR a st o c = r := ⟨_, rfl⟩
  rw [hr] at q ⊢
  clear hr
  unfold frV at q ⊢
  simp only at q ⊢
  have HB0 := hide (((Below.refl w.heap.size w).alloc (Nat.le_refl _) (.cells #[.string me, .string ta, .int .i64 st, .string re, .int .i64 mi, .slice ao F.length cap, .string ⟨#[]⟩, .slice none 0 0] 24)).alloc (by simp) (.cells #[.int .i64 0, .int .i64 0] 97))
  have HX := hide ((Reg.Has.at w w.heap.size [.string me, .string ta, .int .i64 st, .string re, .int .i64 mi, .slice ao F.length cap, .string ⟨#[]⟩, .slice none 0 0] 24 rfl).alloc (.cells #[.int .i64 0, .int .i64 0] 97))
  have HR0 := hide (Reg.Has.at (w.alloc (.cells #[.string me, .string ta, .int .i64 st, .string re, .int .i64 mi, .slice ao F.length cap, .string ⟨#[]⟩, .slice none 0 0] 24)) (w.heap.size + 1) [.int .i64 0, .int .i64 0] 97 (by simp))
  have P4 := ((unhide HB0).cell (p := ⟨b, 4, none⟩) zb).trans p4
  have P5 := ((unhide HB0).cell (p := ⟨b, 5, none⟩) zb).trans p5
  have C1 := ((unhide HB0).cell (p := ⟨g, off, none⟩) hg).trans c1
  have ZB := Nat.lt_of_lt_of_le zb (unhide HB0).size
  have ZG := Nat.lt_of_lt_of_le hg (unhide HB0).size
  clear p4 p5 c1
  go_enter Tryz.func65, Tryz.ntmps65
  go_upto_region 1 with fail
  generalize (w.alloc (.cells #[.string me, .string ta, .int .i64 st, .string re, .int .i64 mi, .slice ao F.length cap, .string ⟨#[]⟩, .slice none 0 0] 24)).alloc (.cells #[.int .i64 0, .int .i64 0] 97) = w0 at *
  have G := unhide HX
  have pa0 := G.cell 0 _ rfl; have pa1 := G.cell 1 _ rfl; have pa2 := G.cell 2 _ rfl; have pa3 := G.cell 3 _ rfl; have pa4 := G.cell 4 _ rfl; have pa5 := G.cell 5 _ rfl; have pa6 := G.cell 6 _ rfl; have pa7 := G.cell 7 _ rfl; have za := G.lt
  clear G
  go_upto_region 2 with fail
  refine Reg.region_more_barT 15 (by kernel_rfl) (by kernel_rfl) (by intro c a d v w h; cases d <;> exact h) ?_
  simp only [List.take_succ_cons, List.take_zero, List.drop_succ_cons, List.drop_zero]
  repeat (go_big_quiet_step ((go_at_call 86; exact Reg.Calls.more (unhide q _ ((unhide HB0).trans ((Reg.More.hb _).mono (unhide HB0).size))))))
  refine wpQuiet_nil ?_
  intro w2 hb2; obtain ⟨hc2, hf2, hz2⟩ := bcell hb2; (try simp at hz2)
  have HR2 := hide ((unhide HR0).call hb2)
  have HB2 := hide ((unhide HB0).trans (hb2.mono (unhide HB0).size))
  clear hb2 hc2 hf2 hz2 pa0 pa1 pa2 pa3 pa4 pa5 pa6 pa7 za P4 P5 C1 HR0 HB0 HX q
  go_wp2_with (refine wpList_storeFr rfl _ _ rfl (w.heap.size + 1) rfl #[.int .i64 k, .int .i64 nn] rfl rfl _ rfl (unhide HR2) (by kernel_rfl) ?_; intro HZ; have HBZ := below_setCells (w.heap.size + 1) (Nat.le_succ _) (#[.int .i64 k, .int .i64 nn] : Array Value).toList 0 _ (unhide HB2); generalize World.setCells _ (w.heap.size + 1) 0 _ = w9 at HZ HBZ ⊢; have ZZ := hide HZ; have BZ := hide HBZ; clear HZ HBZ)
  have hrl := run_loadFr (w.heap.size + 1) #[.int .i64 k, .int .i64 nn] rfl (unhide ZZ)
  exact bodyPost_ret (Mem.results_cell2 (ad := ⟨w.heap.size + 1, 0, none⟩) Tryz.results65 rfl hrl) rfl ⟨rfl, unhide BZ⟩

def WholeO (b L H C B : Nat) (resp : Bool) (me ta : ByteArray) (st : Int) (re : ByteArray) (mi : Int) (fs : Value) (bo : ByteArray) (tr : Value) (w : World) (e : Ending) (w' : World) : Prop :=
  e = .returned (.tuple #[]) ∧ (∃ ak', Reg.Has w' b (parV L H C B resp ak' ⟨#[]⟩ true me ta st re mi fs bo tr 0)) ∧ But (fun k => k = b) w w'
set_option maxRecDepth 100000 in
set_option maxHeartbeats 4000000 in
theorem whole_any (L H C B b : Nat) (resp : Bool) (ak : Value) (s me ta re bo : ByteArray) (st mi : Int) (ao bo' : Option Addr) (n1 c1 n2 c2 : Nat) (w : World) (hp : PSt w b L H C B resp ak s) (hk : resp = true → ∃ a, AskAt w b ak a) :
    Calls Tryz.prog 66 #[.pointer (some ⟨b, 0, none⟩), .agg (msgV me ta st re mi (.slice ao n1 c1) bo (.slice bo' n2 c2))] w (WholeO b L H C B resp me ta st re mi (.slice ao n1 c1) bo (.slice bo' n2 c2) w) := by
  unfold msgV
  have zb := hp.lt
  have hne : w.heap.size ≠ b := by omega
  have HP0 := hide (hp.alloc (.cells #[.string me, .string ta, .int .i64 st, .string re, .int .i64 mi, .slice ao n1 c1, .string bo, .slice bo' n2 c2] 24))
  have HX := hide (Reg.Has.at w w.heap.size [.string me, .string ta, .int .i64 st, .string re, .int .i64 mi, .slice ao n1 c1, .string bo, .slice bo' n2 c2] 24 rfl)
  have HB0 := hide ((Below.refl w.heap.size w).alloc (Nat.le_refl _) (.cells #[.string me, .string ta, .int .i64 st, .string re, .int .i64 mi, .slice ao n1 c1, .string bo, .slice bo' n2 c2] 24))
  have HK := hide hk
  clear hp hk
  go_enter Tryz.func66, Tryz.ntmps66
  go_upto_region 1 with fail
  generalize w.alloc (.cells #[.string me, .string ta, .int .i64 st, .string re, .int .i64 mi, .slice ao n1 c1, .string bo, .slice bo' n2 c2] 24) = w0 at *
  have zb0 := (unhide HP0).lt
  go_upto_region 2 with (first
    | (refine wpList_loadM rfl _ rfl w.heap.size rfl _ rfl (unhide HX) ?_)
    | (refine wpList_store_mid rfl 24 _ _ rfl b 8 #[.string me, .string ta, .int .i64 st, .string re, .int .i64 mi, .slice ao n1 c1, .string bo, .slice bo' n2 c2] rfl rfl (par_there (unhide HP0)) (by rw [infoM]; rfl) (by kernel_rfl) ?_; have hq1 := par_put (unhide HP0) me ta re bo st mi (.slice ao n1 c1) (.slice bo' n2 c2); have hq2 := But.cells (b := b) (#[.string me, .string ta, .int .i64 st, .string re, .int .i64 mi, .slice ao n1 c1, .string bo, .slice bo' n2 c2] : Array Value).toList 8 w0; generalize World.setCells _ b 8 _ = w1 at hq1 hq2 ⊢; have HP1 := hide hq1; have HU1 := hide hq2; have q6 := hq1.cell 6 _ rfl; have v6 := hq1.free 6 (by simp [parV]); have q7 := hq1.cell 7 _ rfl; have v7 := hq1.free 7 (by simp [parV]); have zq := hq1.lt; clear hq1 hq2))
  have HP2 := hide (((unhide HP1).put 7 (.bool true)).put 6 (.string ⟨#[]⟩))
  have HU2 := hide (((unhide HU1).trans (But.set (fun k => k = b) _ (p := ⟨b, 7, none⟩) rfl (.bool true)) (fun _ _ e => e)).trans (But.set (fun k => k = b) _ (p := ⟨b, 6, none⟩) rfl (.string ⟨#[]⟩)) (fun _ _ e => e))
  generalize World.setCell _ ⟨b, 6, none⟩ _ = w2 at HP2 HU2 ⊢
  clear q6 v6 q7 v7 zq HP1 HU1
  have HX2 := hide ((unhide HU2).has (unhide HX) hne)
  have HUA := hide ((But.of_below (S := fun k => k = b) (unhide HB0)).trans (unhide HU2) (fun _ _ e => e))
  have x2 := (unhide HX2).cell 2 _ rfl
  have zx := (unhide HX2).lt
  have p4 := (unhide HP2).cell 4 _ rfl
  have zb2 := (unhide HP2).lt
  cases resp with
  | false =>
    go_wp2_with fail
    first | go_end0 | refine bodyPost_ret (results_none rfl _ _ _) rfl ?_
    exact ⟨rfl, ⟨_, unhide HP2⟩, unhide HUA⟩
  | true =>
    obtain ⟨a, hka⟩ := (unhide HK) rfl
    obtain ⟨g, off, n, cp, rfl, hncp, hgb, hg, ca⟩ := hka
    by_cases h2 : 200 ≤ st
    · have b2 : decide (200 ≤ st) = true := decide_eq_true h2
      have p5 := (unhide HP2).cell 5 _ rfl
      have u5 := (unhide HP2).free 5 (by simp [parV])
      clear ca
      go_wp2_with fail
      all_goals first | go_end0 | refine bodyPost_ret (results_none rfl _ _ _) rfl ?_
      all_goals exact ⟨rfl, ⟨_, (unhide HP2).put 5 _⟩, (unhide HUA).trans (But.set (fun k => k = b) _ (p := ⟨b, 5, none⟩) rfl _) (fun _ _ e => e)⟩
    · have b2 : decide (200 ≤ st) = false := decide_eq_false h2
      clear ca
      go_wp2_with fail
      first | go_end0 | refine bodyPost_ret (results_none rfl _ _ _) rfl ?_
      exact ⟨rfl, ⟨_, unhide HP2⟩, unhide HUA⟩
end Go.Proofs.YtbpopmbabckojaaGreatDoor.Sp
end

/- Regions that draw their order and hold a call that may write or end in a panic: what is taken first is said one by one (it yields its value in each world of a class), the rest comes up alone. -/
section
namespace Go.Proofs.YtbpopmbabckojaaGreatDoor.Reg
open Go.RowKit Go

section
variable {P : Program} {ops : Array Oper} {md : Region.Mode} {S : World → Prop} {Q : Exit → Act → World → Prop}

/-- A world that meets S. -/
structure Kp (S : World → Prop) where
  w : World
  h : S w
theorem kp_class (S : World → Prop) : (fun w' => ∃ x : Kp S, w' = x.w) = S := by
  funext w
  exact propext ⟨fun ⟨x, hx⟩ => hx ▸ x.h, fun h => ⟨⟨w, h⟩, rfl⟩⟩

/-- What is asked behind one operation that comes up alone. -/
def ThenQ (S : World → Prop) (Q : Exit → Act → World → Prop) (K : Act → World → Prop) : Exit → Act → World → Prop
  | .normal, a, w => S w ∧ K a w
  | e, a, w => Q e a w

theorem wpOp_of_thenQ {i : Nat} {o : Oper} {K : Act → World → Prop} {a : Act} {w : World} (hi : ops[i]? = some o) (h : wpList P ops (ThenQ S Q K) [o] a w) : wpOp P ops Q i (fun a' w' => S w' ∧ K a' w') a w := by
  unfold wpOp
  simp only [hi]
  simp only [wpList] at h
  split
  · rename_i hw
    simp only [hw, if_true] at h
    rcases h with h | ⟨h1, h2⟩
    · refine .inl ?_
      unfold Oper.wp at *
      generalize (execOp a.eval o).run P w = r at *
      cases r with
      | ok n w' =>
        cases n <;> simp only [Oper.upon] at h ⊢
        case value u => exact h
        case skip => exact h
        case defer d => exact h
        case enter f args =>
          refine Calls.mono h fun e w'' he => ?_
          cases e with
          | returned u => exact he
          | panicked c => exact he
          | outgrown => exact he
        case row row args => exact Rows.mono h fun u w'' he => he
      | halt x w' =>
        cases x <;> simp only [Oper.upon] at h ⊢
        case panic u => exact h
    · exact .inr ⟨h1, h2⟩
  · rename_i hw
    simp only [hw] at h
    exact h

/-- An order, as a tree: take: what may be taken first (it yields its value in each world of the class); one: what comes up alone; two: one of two comes up. -/
inductive Plan3 where
  | done
  | take (i : Nat) (p : Plan3)
  | one (i : Nat) (p : Plan3)
  | two (i j : Nat) (p q : Plan3)
def Plan3.takes : List Nat → Plan3 → Plan3
  | [], p => p
  | i :: l, p => .take i (Plan3.takes l p)
def Plan3.ones : List Nat → Plan3 → Plan3
  | [], p => p
  | i :: l, p => .one i (Plan3.ones l p)
def planB3 (md : Region.Mode) (ops : Array Oper) : Plan3 → Array Bool → Bool
  | .done, listed => (Region.ready md ops listed).isEmpty
  | .take i p, listed => ((ops[i]?).isSome && ((Region.ready md ops listed).contains i && Region.free md ops listed i)) && planB3 md ops p (listed.setIfInBounds i true)
  | .one i p, listed => ((ops[i]?).isSome && decide (Region.ready md ops listed = [i])) && planB3 md ops p (listed.setIfInBounds i true)
  | .two i j p q, listed => (decide (Region.ready md ops listed = [i, j]) && ((ops[i]?).isSome && (ops[j]?).isSome)) && (planB3 md ops p (listed.setIfInBounds i true) && planB3 md ops q (listed.setIfInBounds j true))
def planLen3 : Plan3 → Nat
  | .done => 0
  | .take _ p => 1 + planLen3 p
  | .one _ p => 1 + planLen3 p
  | .two _ _ p q => 1 + max (planLen3 p) (planLen3 q)
/-- one operation taken first -/
def wpTake (P : Program) (ops : Array Oper) (S : World → Prop) (K : Act → World → Prop) (o : Option Oper) (a : Act) (w : World) : Prop :=
  match o with
  | some o => ∃ v, YieldsIf P ops S o v a ∧ K (a.put o.dst v) w
  | none => True
def wpOne (P : Program) (ops : Array Oper) (S : World → Prop) (Q : Exit → Act → World → Prop) (K : Act → World → Prop) (o : Option Oper) (a : Act) (w : World) : Prop :=
  match o with
  | some o => wpList P ops (ThenQ S Q K) [o] a w
  | none => True
def wpPlan3 (P : Program) (ops : Array Oper) (S : World → Prop) (Q : Exit → Act → World → Prop) (l : List Oper) : Plan3 → Act → World → Prop
  | .done, a, w => Q .normal a w
  | .take i p, a, w => wpTake P ops S (wpPlan3 P ops S Q l p) l[i]? a w
  | .one i p, a, w => wpOne P ops S Q (wpPlan3 P ops S Q l p) l[i]? a w
  | .two i j p q, a, w => wpOne P ops S Q (wpPlan3 P ops S Q l p) l[i]? a w ∧ wpOne P ops S Q (wpPlan3 P ops S Q l q) l[j]? a w

theorem wpAnyH_plan3 {l : List Oper} (hsel : Region.noSelect l.toArray = true) (hQ : ∀ o ∈ l, ∀ c a v w, Q (.panic c) (Act.put a o.dst v) w → Q (.panic c) a w) :
    ∀ (p : Plan3) (f : Nat) (listed : Array Bool) (a : Act) (w : World), planB3 md l.toArray p listed = true → S w → planLen3 p ≤ f → wpPlan3 P l.toArray S Q l p a w → wpAnyH P md l.toArray Q S f listed a w
  | .done, f, listed, a, w, hB, _, _, h => wpAnyH_done (by simpa [planB3] using hB) h f
  | .take i p, 0, _, _, _, _, _, hl, _ => absurd hl (by simp [planLen3])
  | .take i p, f + 1, listed, a, w, hB, hS, hl, h => by
    simp only [planB3, Bool.and_eq_true] at hB
    simp only [planLen3] at hl
    obtain ⟨⟨hs, hr, hf⟩, hB'⟩ := hB
    obtain ⟨o, hi⟩ := Option.isSome_iff_exists.1 hs
    have hi' : l[i]? = some o := by simpa using hi
    simp only [wpPlan3, hi', wpTake] at h
    obtain ⟨v, hy, h⟩ := h
    exact wpAnyH_take hi hsel hf hr (fun c a w => hQ o (List.mem_of_getElem? hi') c a _ w) hy hS (wpAnyH_plan3 hsel hQ p f _ _ w hB' hS (by omega) h)
  | .one i p, 0, _, _, _, _, _, hl, _ => absurd hl (by simp [planLen3])
  | .one i p, f + 1, listed, a, w, hB, hS, hl, h => by
    simp only [planB3, Bool.and_eq_true, decide_eq_true_eq] at hB
    simp only [planLen3] at hl
    obtain ⟨⟨hs, hr⟩, hB'⟩ := hB
    obtain ⟨o, hi⟩ := Option.isSome_iff_exists.1 hs
    have hi' : l[i]? = some o := by simpa using hi
    simp only [wpPlan3, hi', wpOne] at h
    refine wpAnyH_all hr (by simp) fun j hj => ?_
    rw [List.mem_singleton] at hj
    subst hj
    exact wpOp_mono (fun a' w' h' => ⟨h'.1, wpAnyH_plan3 hsel hQ p f _ _ w' hB' h'.1 (by omega) h'.2⟩) (wpOp_of_thenQ hi h)
  | .two i j p q, 0, _, _, _, _, _, hl, _ => absurd hl (by simp [planLen3])
  | .two i j p q, f + 1, listed, a, w, hB, hS, hl, h => by
    simp only [planB3, Bool.and_eq_true, decide_eq_true_eq] at hB
    obtain ⟨⟨hr, hsi, hsj⟩, hp, hq⟩ := hB
    simp only [planLen3] at hl
    obtain ⟨oi, hi⟩ := Option.isSome_iff_exists.1 hsi
    obtain ⟨oj, hj⟩ := Option.isSome_iff_exists.1 hsj
    have hi' : l[i]? = some oi := by simpa using hi
    have hj' : l[j]? = some oj := by simpa using hj
    simp only [wpPlan3, hi', hj', wpOne] at h
    refine wpAnyH_all hr (by simp) fun k hk => ?_
    rcases List.mem_cons.1 hk with rfl | hk
    · exact wpOp_mono (fun a' w' h' => ⟨h'.1, wpAnyH_plan3 hsel hQ p f _ _ w' hp h'.1 (by omega) h'.2⟩) (wpOp_of_thenQ hi h.1)
    · rw [List.mem_singleton] at hk
      subst hk
      exact wpOp_mono (fun a' w' h' => ⟨h'.1, wpAnyH_plan3 hsel hQ q f _ _ w' hq h'.1 (by omega) h'.2⟩) (wpOp_of_thenQ hj h.2)

theorem region_plan3 {id : Nat} {a : Act} {w : World} {l : List Oper} (S : World → Prop) (p : Plan3) (hm : P.follows .mixedOrders = true) (hsel : Region.noSelect l.toArray = true) (hB : planB3 .any l.toArray p (Array.replicate l.toArray.size false) = true) (hn : planLen3 p ≤ l.toArray.size)
    (hQ : ∀ o ∈ l, ∀ c a v w, Q (.panic c) (Act.put a o.dst v) w → Q (.panic c) a w) (hS : S w.drew) (h : wpPlan3 P l.toArray (fun w' => ∃ x : Kp S, w' = x.w) Q l p a w.drew) : (Code.region id l.toArray true).wp P Q a w :=
  wp_region_held hm (wpAnyH_plan3 hsel hQ p _ _ a _ hB ⟨⟨_, hS⟩, rfl⟩ hn h)

theorem thenQ_mk {K : Act → World → Prop} {a : Act} {w : World} (h1 : S w) (h2 : K a w) : ThenQ S Q K .normal a w := ⟨h1, h2⟩
/-- one read -/
theorem take_read {o : Oper} {K : Act → World → Prop} {a : Act} {w : World} (hr : readKind o.op = true) (h : wpQuiet P ops S (fun a' => K a' w) [o] a) : wpTake P ops S K (some o) a w := by
  have hq : ∃ v, YieldsIn P ops S o v a ∧ K (a.put o.dst v) w := by
    simp only [wpQuiet] at h
    by_cases hw : Region.wanted o (yielded ops a.tmps) = true
    · simp only [hw, if_true] at h
      obtain ⟨v, h1, h2⟩ := h
      exact ⟨v, .inl ⟨hw, h1⟩, h2⟩
    · simp only [hw] at h
      exact ⟨undef, .inr ⟨by simpa using hw, rfl⟩, h⟩
  obtain ⟨v, hy, h⟩ := hq
  exact ⟨v, read_yields hr hy, h⟩
/-- a nil check hands back a value -/
theorem nil_only {o : Oper} {x : Operand} (ho : o.op = .nilCheck x) {ρ : Operand → Value} {n : Next} {w w1 : World} (h : (execOp ρ o).run P w = .ok n w1) : ∃ u, n = .value u := by
  unfold execOp at h
  simp only [ho] at h
  split at h
  · simp [runtimePanic, go_sem] at h
  · simp [runtimePanic, go_sem] at h
  · simp [runtimePanic, go_sem] at h
  · split at h
    · simp [runtimePanic, go_sem] at h
    · rw [Sem.run_bind] at h
      revert h
      generalize (Sem.run P _ w) = r
      intro h
      cases r with
      | ok q w2 =>
        simp only [Result.andThen_ok] at h
        rw [Sem.run_bind] at h
        revert h
        generalize (Sem.run P _ w2) = r
        intro h
        cases r with
        | ok q w2 =>
          simp only [Result.andThen_ok] at h
          revert h
          split
          · intro h
            simp [unsupported, go_sem] at h
          · intro h
            simp [Sem.run_pure] at h
            exact ⟨_, h.1.symm⟩
        | halt e w2 => simp [Result.andThen] at h
      | halt e w2 => simp [Result.andThen] at h
    · simp [Sem.run_pure] at h
      exact ⟨_, h.1.symm⟩
  · simp [Sem.run_pure] at h
    exact ⟨_, h.1.symm⟩
theorem take_nilq {o : Oper} {K : Act → World → Prop} {a : Act} {w : World} (x : Operand) (ho : o.op = .nilCheck x) (h : wpQuiet P ops S (fun a' => K a' w) [o] a) : wpTake P ops S K (some o) a w := by
  simp only [wpQuiet] at h
  by_cases hw : Region.wanted o (yielded ops a.tmps) = true
  · simp only [hw, if_true] at h
    obtain ⟨v, h1, h2⟩ := h
    refine ⟨v, .inl ⟨hw, fun w' hS => ?_⟩, h2⟩
    have h3 := h1 w' hS
    unfold Oper.quietAt at h3
    generalize hr : (execOp a.eval o).run P w' = r at h3
    cases r with
    | ok n w1 =>
      obtain ⟨u, rfl⟩ := nil_only ho hr
      simp only [Oper.quietUpon] at h3
      obtain ⟨rfl, rfl⟩ := h3
      rfl
    | halt x w1 => simp only [Oper.quietUpon] at h3
  · simp only [hw] at h
    exact ⟨undef, .inr ⟨by simpa using hw, rfl⟩, h⟩
/-- one nil check -/
theorem take_nil {o : Oper} {K : Act → World → Prop} {a : Act} {w : World} (x : Operand) (p : Addr) (hg : o.guard = none) (ho : o.op = .nilCheck x) (hx : a.eval x = .pointer (some p)) (h : K (a.put o.dst (.pointer (some p))) w) : wpTake P ops S K (some o) a w :=
  ⟨_, .inl ⟨by simp [Region.wanted, hg], fun w _ => by simp [execOp, ho, hx, Sem.run_pure]⟩, h⟩
/-- one load of an aggregate -/
theorem take_val {o : Oper} {K : Act → World → Prop} {a : Act} {w : World} (v : Value) (hg : o.guard = none) (hv : ∀ w', S w' → (execOp a.eval o).run P w' = .ok (.value v) w') (h : K (a.put o.dst v) w) : wpTake P ops S K (some o) a w :=
  ⟨v, .inl ⟨by simp [Region.wanted, hg], hv⟩, h⟩
end
end Go.Proofs.YtbpopmbabckojaaGreatDoor.Reg
end
