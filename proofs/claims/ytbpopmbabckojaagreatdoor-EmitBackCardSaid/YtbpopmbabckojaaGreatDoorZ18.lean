/- Lemmas for the statement's proof, several texts in one: Fr, Q7, Qm, Q2. -/
import Derived.Test.YtbpopmbabckojaaGreatDoorZ02
import Derived.Test.YtbpopmbabckojaaGreatDoorZ17
import Derived.Test.YtbpopmbabckojaaGreatDoorZ16
import Derived.Test.YtbpopmbabckojaaGreatDoorZ10
set_option linter.unusedVariables false
set_option linter.unusedSimpArgs false
/- A frame in a block: loaded, stored; results of which the first lies in a cell. -/
section
namespace Go.Proofs.YtbpopmbabckojaaGreatDoor.Sp
open Go.RowKit

section
variable {ops : Array Oper} {rest : List Oper} {o : Oper} {a : Act} {w : World} {Q : Exit → Act → World → Prop}
theorem infoFr : (Tryz.prog.info? 97).map (·.size) = some 2 := by kernel_rfl
theorem wpList_loadFr (hgd : o.guard = none) (x : Operand) (ho : o.op = .load 97 x) (b : Nat) (hx : a.eval x = .pointer (some ⟨b, 0, none⟩)) (vs : List Value) (hl : vs.length = 2) (H : Reg.Has w b vs)
    (h : wpList Tryz.prog ops Q rest (a.put o.dst (.agg vs.toArray)) w) : wpList Tryz.prog ops Q (o :: rest) a w :=
  wpList_load_mid hgd 97 x ho b 0 hx vs _ (has_range H) Tryz.underlying97 rfl (by rw [infoFr, hl]) h
theorem wpList_storeFr (hgd : o.guard = none) (x y : Operand) (ho : o.op = .store 97 x y) (b : Nat) (hx : a.eval x = .pointer (some ⟨b, 0, none⟩)) (cells : Array Value) (hc : cells.size = 2) (hy : a.eval y = .agg cells) (old : List Value) (hl : old.length = 2) (H : Reg.Has w b old) (h1 : cells.all (·.oneCell') = true)
    (h : Reg.Has (w.setCells b 0 cells.toList) b cells.toList → wpList Tryz.prog ops Q rest (a.put o.dst undef) (w.setCells b 0 cells.toList)) : wpList Tryz.prog ops Q (o :: rest) a w := by
  have ht : w.there b 0 cells.size := by have := has_there H; rw [hl] at this; rw [hc]; exact this
  exact wpList_store_mid hgd 97 x y ho b 0 cells hx hy ht (by rw [infoFr, hc]) h1 (h (has_setCells (by simp) ht H.lt (fun o w => size_setCells _ _ _ _)))
theorem run_loadFr (b : Nat) (cells : Array Value) (hc : cells.size = 2) (H : Reg.Has w b cells.toList) : (loadVar 97 ⟨b, 0, none⟩).run Tryz.prog w = .ok (.agg cells) w :=
  run_loadVar_mid (P := Tryz.prog) w b 0 97 cells.toList _ (has_range H) Tryz.underlying97 rfl (by rw [infoFr]; simp [hc])
theorem results_cell3 {P : Program} {fn : Func} {t u x : Tmp} {ty : TypeId} (h : fn.results = #[.cell t ty, .tmp u, .tmp x]) {tmps : Array Value} {ad : Addr} {v : Value} (ht : tmps.getD t undef = .pointer (some ad)) (hl : (loadVar ty ad).run P w = .ok v w) :
    (results fn tmps).run P w = .ok (.tuple #[v, tmps.getD u undef, tmps.getD x undef]) w := by
  unfold results
  rw [h]
  have ht1 := ht
  rw [Array.getD_eq_getD_getElem?] at ht1
  simp [ht1, asAddr, hl]
end
theorem But.cells {b : Nat} : ∀ (vs : List Value) (o : Nat) (w : World), But (fun k => k = b) w (w.setCells b o vs)
  | [], _, w => But.refl _ w
  | v :: vs, o, w => (But.set (fun k => k = b) w (p := ⟨b, o, none⟩) rfl v).trans (But.cells vs (o + 1) _) (fun _ _ e => e)
end Go.Proofs.YtbpopmbabckojaaGreatDoor.Sp
end

/- The reference's parser: its block; first, host. -/
section
namespace Go.Proofs.YtbpopmbabckojaaGreatDoor.Sp
open Go.RowKit Sl

/-- a parser's cells -/
def parV (L H C B : Nat) (resp : Bool) (ak : Value) (s : ByteArray) (wait : Bool) (me ta : ByteArray) (st : Int) (re : ByteArray) (mi : Int) (fs : Value) (bo : ByteArray) (tr : Value) (bad : Int) : List Value :=
  [.int .i64 L, .int .i64 H, .int .i64 C, .int .i64 B, .bool resp, ak, .string s, .bool wait, .string me, .string ta, .int .i64 st, .string re, .int .i64 mi, fs, .string bo, tr, .int .i64 bad]
/-- a head as a message -/
def hdM (h : Hd) (fs : Value) : Array Value := msgV h.me h.ta h.st h.re h.mi fs ⟨#[]⟩ (.slice none 0 0)
/-- a parser's first cells -/
def Par (w : World) (b : Nat) (L H C B : Nat) (resp : Bool) (s : ByteArray) : Prop :=
  w.cell? ⟨b, 0, none⟩ = some (.int .i64 L) ∧ w.cell? ⟨b, 1, none⟩ = some (.int .i64 H) ∧ w.cell? ⟨b, 2, none⟩ = some (.int .i64 C) ∧ w.cell? ⟨b, 3, none⟩ = some (.int .i64 B) ∧ w.cell? ⟨b, 4, none⟩ = some (.bool resp) ∧ w.cell? ⟨b, 6, none⟩ = some (.string s) ∧ b < w.heap.size
theorem Par.of {w : World} {b L H C B : Nat} {resp wait : Bool} {ak fs tr : Value} {s me ta re bo : ByteArray} {st mi bad : Int} (h : Reg.Has w b (parV L H C B resp ak s wait me ta st re mi fs bo tr bad)) : Par w b L H C B resp s :=
  ⟨h.cell 0 _ rfl, h.cell 1 _ rfl, h.cell 2 _ rfl, h.cell 3 _ rfl, h.cell 4 _ rfl, h.cell 6 _ rfl, h.lt⟩
theorem Par.call {w w' : World} {b L H C B : Nat} {resp : Bool} {s : ByteArray} (h : Par w b L H C B resp s) (hb : Below w.heap.size w w') : Par w' b L H C B resp s := by
  obtain ⟨h0, h1, h2, h3, h4, h6, hl⟩ := h
  exact ⟨(hb.cell (p := ⟨b, 0, none⟩) hl).trans h0, (hb.cell (p := ⟨b, 1, none⟩) hl).trans h1, (hb.cell (p := ⟨b, 2, none⟩) hl).trans h2, (hb.cell (p := ⟨b, 3, none⟩) hl).trans h3, (hb.cell (p := ⟨b, 4, none⟩) hl).trans h4, (hb.cell (p := ⟨b, 6, none⟩) hl).trans h6, Nat.lt_of_lt_of_le hl hb.size⟩

def FirstO (resp : Bool) (s : ByteArray) (w : World) (e : Ending) (w' : World) : Prop :=
  e = .returned (.tuple #[.agg (hdM (firstS resp s).1 (.slice none 0 0)), .int .i64 (firstS resp s).2]) ∧ Below w.heap.size w w'

set_option maxRecDepth 100000 in
set_option maxHeartbeats 2000000 in
theorem first_any (resp : Bool) (s t : ByteArray) (L H C B b : Nat) (hs : s.size ≤ 1000000) (w : World) (hp : Par w b L H C B resp t) :
    Calls Tryz.prog 83 #[.pointer (some ⟨b, 0, none⟩), .string s] w (FirstO resp s w) := by
  obtain ⟨_, _, _, _, h4, _, hl⟩ := hp
  cases resp with
  | true =>
    have q := hide (fun w => rstatus_any s hs w)
    unfold FirstO
    obtain ⟨⟨a, n, r, er⟩, hr⟩ : ∃ r, stS s.data.toList = r := ⟨_, rfl⟩
    have hf : firstS true s = if er = 0 then (⟨⟨#[]⟩, ⟨#[]⟩, ofL r, n, a, []⟩, 0) else (Hd.none, 400) := by unfold firstS; rw [if_pos rfl, hr]
    unfold StPost at q
    rw [hr] at q
    simp only at q
    obtain ⟨y, hy⟩ : ∃ y, ofL r = y := ⟨_, rfl⟩
    rw [hy] at q hf
    clear hr hy
    by_cases h0 : er = 0
    · have HF := Lib.hid (show firstS true s = (⟨⟨#[]⟩, ⟨#[]⟩, y, n, a, []⟩, 0) by rw [hf, if_pos h0])
      have b0 : (er != 0) = false := by rw [h0]; rfl
      clear h0 hf
      go_enter Tryz.func83, Tryz.ntmps83
      go_upto_region 1 with fail
      have HR0 := hide (Reg.Has.new w [.string ⟨#[]⟩, .string ⟨#[]⟩, .int .i64 0, .string ⟨#[]⟩, .int .i64 0, .slice none 0 0, .string ⟨#[]⟩, .slice none 0 0] 24)
      have HB0 := hide ((Below.refl w.heap.size w).alloc (Nat.le_refl _) (.cells #[.string ⟨#[]⟩, .string ⟨#[]⟩, .int .i64 0, .string ⟨#[]⟩, .int .i64 0, .slice none 0 0, .string ⟨#[]⟩, .slice none 0 0] 24))
      have p4 := ((unhide HB0).cell (p := ⟨b, 4, none⟩) hl).trans h4
      have zb := Nat.lt_of_lt_of_le hl (unhide HB0).size
      generalize w.alloc (.cells #[.string ⟨#[]⟩, .string ⟨#[]⟩, .int .i64 0, .string ⟨#[]⟩, .int .i64 0, .slice none 0 0, .string ⟨#[]⟩, .slice none 0 0] 24) = w0 at HR0 HB0 p4 zb ⊢
      clear h4
      go_wp2_with fail
      refine (unhide q _).mono ?_; rintro e w1 ⟨rfl, hb1⟩
      have HR1 := hide ((unhide HR0).call hb1)
      have HB1 := hide ((unhide HB0).trans (hb1.mono (unhide HB0).size))
      clear HR0 HB0 hb1
      go_wp2_with (first | (refine wpList_storeM rfl _ _ rfl w.heap.size rfl #[.string ⟨#[]⟩, .string ⟨#[]⟩, .int .i64 n, .string y, .int .i64 a, .slice none 0 0, .string ⟨#[]⟩, .slice none 0 0] rfl rfl _ rfl (unhide HR1) (by kernel_rfl) ?_; intro HZ; have HBZ := below_setCells w.heap.size (Nat.le_refl _) (#[.string ⟨#[]⟩, .string ⟨#[]⟩, .int .i64 n, .string y, .int .i64 a, .slice none 0 0, .string ⟨#[]⟩, .slice none 0 0]).toList 0 _ (unhide HB1); generalize World.setCells _ w.heap.size 0 _ = w9 at HZ HBZ ⊢; have ZZ := hide HZ; have BZ := hide HBZ; clear HZ HBZ))
      have hrl := run_loadM w.heap.size #[.string ⟨#[]⟩, .string ⟨#[]⟩, .int .i64 n, .string y, .int .i64 a, .slice none 0 0, .string ⟨#[]⟩, .slice none 0 0] rfl (unhide ZZ)
      exact bodyPost_ret (Mem.results_cell2 (ad := ⟨w.heap.size, 0, none⟩) Tryz.results83 rfl hrl) rfl ⟨by rw [HF.out] <;> rfl, unhide BZ⟩
    · have HF := Lib.hid (show firstS true s = (Hd.none, 400) by rw [hf, if_neg h0])
      have b0 : (er != 0) = true := by rw [bne_iff_ne]; exact h0
      clear h0 hf
      go_enter Tryz.func83, Tryz.ntmps83
      go_upto_region 1 with fail
      have HR0 := hide (Reg.Has.new w [.string ⟨#[]⟩, .string ⟨#[]⟩, .int .i64 0, .string ⟨#[]⟩, .int .i64 0, .slice none 0 0, .string ⟨#[]⟩, .slice none 0 0] 24)
      have HB0 := hide ((Below.refl w.heap.size w).alloc (Nat.le_refl _) (.cells #[.string ⟨#[]⟩, .string ⟨#[]⟩, .int .i64 0, .string ⟨#[]⟩, .int .i64 0, .slice none 0 0, .string ⟨#[]⟩, .slice none 0 0] 24))
      have p4 := ((unhide HB0).cell (p := ⟨b, 4, none⟩) hl).trans h4
      have zb := Nat.lt_of_lt_of_le hl (unhide HB0).size
      generalize w.alloc (.cells #[.string ⟨#[]⟩, .string ⟨#[]⟩, .int .i64 0, .string ⟨#[]⟩, .int .i64 0, .slice none 0 0, .string ⟨#[]⟩, .slice none 0 0] 24) = w0 at HR0 HB0 p4 zb ⊢
      clear h4
      go_wp2_with fail
      refine (unhide q _).mono ?_; rintro e w1 ⟨rfl, hb1⟩
      have HR1 := hide ((unhide HR0).call hb1)
      have HB1 := hide ((unhide HB0).trans (hb1.mono (unhide HB0).size))
      clear HR0 HB0 hb1
      go_wp2_with (first | (refine wpList_storeM rfl _ _ rfl w.heap.size rfl #[.string ⟨#[]⟩, .string ⟨#[]⟩, .int .i64 0, .string ⟨#[]⟩, .int .i64 0, .slice none 0 0, .string ⟨#[]⟩, .slice none 0 0] rfl rfl _ rfl (unhide HR1) (by kernel_rfl) ?_; intro HZ; have HBZ := below_setCells w.heap.size (Nat.le_refl _) (#[.string ⟨#[]⟩, .string ⟨#[]⟩, .int .i64 0, .string ⟨#[]⟩, .int .i64 0, .slice none 0 0, .string ⟨#[]⟩, .slice none 0 0]).toList 0 _ (unhide HB1); generalize World.setCells _ w.heap.size 0 _ = w9 at HZ HBZ ⊢; have ZZ := hide HZ; have BZ := hide HBZ; clear HZ HBZ))
      have hrl := run_loadM w.heap.size #[.string ⟨#[]⟩, .string ⟨#[]⟩, .int .i64 0, .string ⟨#[]⟩, .int .i64 0, .slice none 0 0, .string ⟨#[]⟩, .slice none 0 0] rfl (unhide ZZ)
      exact bodyPost_ret (Mem.results_cell2 (ad := ⟨w.heap.size, 0, none⟩) Tryz.results83 rfl hrl) rfl ⟨by rw [HF.out] <;> rfl, unhide BZ⟩
  | false =>
    have q := hide (fun w => rrequest_any s hs w)
    unfold FirstO
    obtain ⟨⟨m, t', n, st⟩, hr⟩ : ∃ r, req s.data.toList = r := ⟨_, rfl⟩
    have hf : firstS false s = (⟨ofL m, ofL t', ⟨#[]⟩, 0, n, []⟩, st) := by unfold firstS; rw [if_neg (by decide), hr]
    unfold ReqPost at q
    rw [hr] at q
    simp only at q
    obtain ⟨x, hx⟩ : ∃ y : ByteArray, ofL m = y := ⟨_, rfl⟩
    obtain ⟨y, hy⟩ : ∃ y : ByteArray, ofL t' = y := ⟨_, rfl⟩
    rw [show (⟨m.toArray⟩ : ByteArray) = x from hx, show (⟨t'.toArray⟩ : ByteArray) = y from hy] at q
    rw [hx, hy] at hf
    have HF := Lib.hid hf
    clear hr hy hx hf
    go_enter Tryz.func83, Tryz.ntmps83
    go_upto_region 1 with fail
    have HR0 := hide (Reg.Has.new w [.string ⟨#[]⟩, .string ⟨#[]⟩, .int .i64 0, .string ⟨#[]⟩, .int .i64 0, .slice none 0 0, .string ⟨#[]⟩, .slice none 0 0] 24)
    have HB0 := hide ((Below.refl w.heap.size w).alloc (Nat.le_refl _) (.cells #[.string ⟨#[]⟩, .string ⟨#[]⟩, .int .i64 0, .string ⟨#[]⟩, .int .i64 0, .slice none 0 0, .string ⟨#[]⟩, .slice none 0 0] 24))
    have p4 := ((unhide HB0).cell (p := ⟨b, 4, none⟩) hl).trans h4
    have zb := Nat.lt_of_lt_of_le hl (unhide HB0).size
    generalize w.alloc (.cells #[.string ⟨#[]⟩, .string ⟨#[]⟩, .int .i64 0, .string ⟨#[]⟩, .int .i64 0, .slice none 0 0, .string ⟨#[]⟩, .slice none 0 0] 24) = w0 at HR0 HB0 p4 zb ⊢
    clear h4
    go_wp2_with fail
    refine (unhide q _).mono ?_; rintro e w1 ⟨rfl, hb1⟩
    have HR1 := hide ((unhide HR0).call hb1)
    have HB1 := hide ((unhide HB0).trans (hb1.mono (unhide HB0).size))
    clear HR0 HB0 hb1
    go_wp2_with (first | (refine wpList_storeM rfl _ _ rfl w.heap.size rfl #[.string x, .string y, .int .i64 0, .string ⟨#[]⟩, .int .i64 n, .slice none 0 0, .string ⟨#[]⟩, .slice none 0 0] rfl rfl _ rfl (unhide HR1) (by kernel_rfl) ?_; intro HZ; have HBZ := below_setCells w.heap.size (Nat.le_refl _) (#[.string x, .string y, .int .i64 0, .string ⟨#[]⟩, .int .i64 n, .slice none 0 0, .string ⟨#[]⟩, .slice none 0 0]).toList 0 _ (unhide HB1); generalize World.setCells _ w.heap.size 0 _ = w9 at HZ HBZ ⊢; have ZZ := hide HZ; have BZ := hide HBZ; clear HZ HBZ))
    have hrl := run_loadM w.heap.size #[.string x, .string y, .int .i64 0, .string ⟨#[]⟩, .int .i64 n, .slice none 0 0, .string ⟨#[]⟩, .slice none 0 0] rfl (unhide ZZ)
    exact bodyPost_ret (Mem.results_cell2 (ad := ⟨w.heap.size, 0, none⟩) Tryz.results83 rfl hrl) rfl ⟨by rw [HF.out] <;> rfl, unhide BZ⟩

set_option maxRecDepth 100000 in
set_option maxHeartbeats 2000000 in
theorem host_any (h : Hd) (fs : Value) (hF : Few h.F) (w : World) (hv : Rd w fs h.F.length 2 (fldV h.F)) :
    Calls Tryz.prog 84 #[.agg (hdM h fs)] w fun e w' => e = .returned (.bool (hostM h)) ∧ Below w.heap.size w w' := by
  have hc := hide (fun w1 (hb : Below w.heap.size w w1) => rall_any _ h.F hostN hF (by decide) w1 (hv.below hb))
  obtain ⟨hs1, hs2⟩ := allB_small hF hostN
  obtain ⟨ao, cap, rfl⟩ := hv.form
  have hm : hostM h = match allB h.F hostN with
    | [] => h.mi == 0
    | a :: t => t.isEmpty && (a.toList.isEmpty || (portS a.data.toList).2) := rfl
  obtain ⟨A, hA⟩ : ∃ A, allB h.F hostN = A := ⟨_, rfl⟩
  rw [hA] at hc hs1 hs2 hm
  obtain ⟨me, ta, re, st, mi, F⟩ := h
  simp only at hm hc ⊢
  unfold hdM msgV
  simp only
  have HB0 := hide ((Below.refl w.heap.size w).alloc (Nat.le_refl _) (.cells #[.string me, .string ta, .int .i64 st, .string re, .int .i64 mi, .slice ao F.length cap, .string ⟨#[]⟩, .slice none 0 0] 24))
  have HH := hide (Reg.Has.at w w.heap.size [.string me, .string ta, .int .i64 st, .string re, .int .i64 mi, .slice ao F.length cap, .string ⟨#[]⟩, .slice none 0 0] 24 rfl)
  have HS2 := hide hs2
  have HM := Lib.hid hm
  clear hv hF hA hm hs2
  unfold hostN at hc
  go_enter Tryz.func84, Tryz.ntmps84
  go_upto_region 1 with fail
  generalize w.alloc (.cells #[.string me, .string ta, .int .i64 st, .string re, .int .i64 mi, .slice ao F.length cap, .string ⟨#[]⟩, .slice none 0 0] 24) = w0 at HB0 HH ⊢
  have G := unhide HH
  have pa0 := G.cell 0 _ rfl; have pa1 := G.cell 1 _ rfl; have pa2 := G.cell 2 _ rfl; have pa3 := G.cell 3 _ rfl; have pa4 := G.cell 4 _ rfl; have pa5 := G.cell 5 _ rfl; have pa6 := G.cell 6 _ rfl; have pa7 := G.cell 7 _ rfl; have za := G.lt
  clear G
  go_wp2_with fail
  refine (unhide hc _ (unhide HB0)).mono ?_; rintro e w1 ⟨v1, rfl, ho1, hb1⟩; obtain ⟨bo, cp, rfl⟩ := (Rd.own ho1).form
  have B1 := hide ((unhide HB0).trans (hb1.mono (unhide HB0).size))
  have R1 := hide (Rd.own ho1)
  have G := (unhide HH).call hb1
  clear ho1 hb1 pa0 pa1 pa2 pa3 pa4 pa5 pa6 pa7 za
  have pa0 := G.cell 0 _ rfl; have pa1 := G.cell 1 _ rfl; have pa2 := G.cell 2 _ rfl; have pa3 := G.cell 3 _ rfl; have pa4 := G.cell 4 _ rfl; have pa5 := G.cell 5 _ rfl; have pa6 := G.cell 6 _ rfl; have pa7 := G.cell 7 _ rfl; have za := G.lt
  clear G
  match A, hs1 with
  | [], _ =>
    go_wp2_with fail
    go_ret
    exact ⟨by rw [HM.out] <;> rfl, unhide B1⟩
  | [x], _ =>
    have hx : x.size ≤ 2000 := unhide HS2 x List.mem_cons_self
    have q := hide (fun w => rhost_any x (by omega) w)
    obtain ⟨ok, hok⟩ : ∃ ok, (portS x.data.toList).2 = ok := ⟨_, rfl⟩
    rw [hok] at q
    obtain ⟨b, off, rfl, hb, c1⟩ := str_cell (unhide R1) 0 (by simp)
    simp only [List.getElem_cons_zero, Nat.add_zero] at c1
    cases hem : x.toList.isEmpty
    · have HM2 := Lib.hid (show hostM ⟨me, ta, re, st, mi, F⟩ = ok by rw [HM.out]; simp [hem, hok])
      clear hok HM
      go_wp2_with fail
      refine (unhide q _).mono ?_; rintro e w2 ⟨rfl, rfl⟩
      go_wp2_with fail
      go_ret
      exact ⟨by rw [HM2.out] <;> rfl, unhide B1⟩
    · have HM2 := Lib.hid (show hostM ⟨me, ta, re, st, mi, F⟩ = true by rw [HM.out]; simp [hem])
      clear hok HM
      go_wp2_with fail
      go_ret
      exact ⟨by rw [HM2.out] <;> rfl, unhide B1⟩
  | x :: y :: t, hl =>
    have HM2 := Lib.hid (show hostM ⟨me, ta, re, st, mi, F⟩ = false by rw [HM.out]; simp)
    have hlen : (x :: y :: t).length = t.length + 2 := by simp
    have hb1 : (((t.length + 2 : Nat) : Int) == 0) = false := by rw [beq_eq_false_iff_ne]; omega
    have hb2 : (((t.length + 2 : Nat) : Int) == 1) = false := by rw [beq_eq_false_iff_ne]; omega
    clear HM
    rw [hlen]
    go_wp2_with fail
    go_ret
    exact ⟨by rw [HM2.out] <;> rfl, unhide B1⟩
end Go.Proofs.YtbpopmbabckojaaGreatDoor.Sp
end

/- The parser's head in memory: the message under way, its row of fields. -/
section
namespace Go.Proofs.YtbpopmbabckojaaGreatDoor.Sp
open Go.RowKit Sl

/-- sizes of fields that were read -/
def SzF (F : List Fld) : Prop := ∀ f ∈ F, f.1.size ≤ 2000 ∧ f.2.size ≤ 2000
theorem SzF.snoc {F : List Fld} {f : Fld} (h : SzF F) (h1 : f.1.size ≤ 2000) (h2 : f.2.size ≤ 2000) : SzF (F ++ [f]) := fun g hg => (List.mem_append.1 hg).elim (h g) (fun e => by rw [List.mem_singleton] at e; rw [e]; exact ⟨h1, h2⟩)
theorem SzF.few {F : List Fld} (h : SzF F) (hl : F.length ≤ 100) : Few F := ⟨hl, h⟩

/-- the message under way lies in block g + 1, the result's cell is block g, the fields lie in a row of the call's own -/
structure HSt (w0 wr : World) (g : Nat) (m : Hd) (fs : Value) : Prop where
  box : Reg.Has wr (g + 1) (hdM m fs).toList
  res : Reg.Has wr g zeroM
  row : wr.ownsRow (g + 2) 55 2 fs m.F.length (fldV m.F)
  bel : Below g w0 wr
  le : g + 2 ≤ wr.heap.size
theorem HSt.rd {w0 wr : World} {g : Nat} {m : Hd} {fs : Value} (h : HSt w0 wr g m fs) : Rd wr fs m.F.length 2 (fldV m.F) := Rd.own h.row
theorem HSt.call {w0 wr w' : World} {g : Nat} {m : Hd} {fs : Value} (h : HSt w0 wr g m fs) (hb : Below wr.heap.size wr w') : HSt w0 w' g m fs :=
  ⟨h.box.call hb, h.res.call hb, (But.of_below (S := fun _ => False) hb).own h.row (fun _ _ e => e), h.bel.trans (hb.mono (by have := h.le; omega)), Nat.le_trans h.le hb.size⟩
theorem HSt.row_ne {w0 wr : World} {g : Nat} {m : Hd} {fs : Value} (h : HSt w0 wr g m fs) : ∀ k, fs.ownBlock = some k → g + 2 ≤ k := fun k e => (h.row.lt k e).1
/-- a new message in the box, without fields -/
theorem HSt.store {w0 wr : World} {g : Nat} {m : Hd} {fs : Value} (h : HSt w0 wr g m fs) (m' : Hd) (hm : m'.F = []) (hs : Reg.Has (wr.setCells (g + 1) 0 (hdM m' (.slice none 0 0)).toList) (g + 1) (hdM m' (.slice none 0 0)).toList) :
    HSt w0 (wr.setCells (g + 1) 0 (hdM m' (.slice none 0 0)).toList) g m' (.slice none 0 0) :=
  have hb := But.cells (b := g + 1) (hdM m' (.slice none 0 0)).toList 0 wr
  ⟨hs, hb.has h.res (fun e => by have : g = g + 1 := e; omega), by rw [hm]; exact World.ownsRow_nil _ _ _ _, h.bel.trans (hb.below (by have := h.le; omega) (fun k e => by have : k = g + 1 := e; omega)), Nat.le_trans h.le hb.size⟩
theorem HSt.box_grown {w0 wr w1 : World} {g : Nat} {m : Hd} {fs : Value} (h : HSt w0 wr g m fs) (hg : wr.grownBy w1 fs.ownBlock) : Reg.Has w1 (g + 1) (hdM m fs).toList :=
  (But.grown (S := fun k => fs.ownBlock = some k) hg (fun _ e => e)).has h.box (fun e => by have := h.row_ne _ e; omega)
/-- a field more -/
theorem HSt.push {w0 wr w1 : World} {g : Nat} {m : Hd} {fs fs' : Value} (h : HSt w0 wr g m fs) (f : Fld) (hg : wr.grownBy w1 fs.ownBlock) (h2 : w1.ownsRow (g + 2) 55 2 fs' (m.F.length + 1) (fldV (m.F ++ [f]))) :
    HSt w0 (w1.setCell ⟨g + 1, 5, none⟩ fs') g { m with F := m.F ++ [f] } fs' := by
  have hb1 : But (fun k => fs.ownBlock = some k) wr w1 := But.grown hg (fun _ e => e)
  have hb2 : But (fun k => k = g + 1) w1 (w1.setCell ⟨g + 1, 5, none⟩ fs') := But.set (fun k => k = g + 1) _ rfl _
  have n1 : fs.ownBlock ≠ some (g + 1) := fun e => by have := h.row_ne _ e; omega
  have n0 : fs.ownBlock ≠ some g := fun e => by have := h.row_ne _ e; omega
  have n2 : fs'.ownBlock ≠ some (g + 1) := fun e => by have := (h2.lt _ e).1; omega
  refine ⟨?_, ?_, ?_, ?_, ?_⟩
  · exact (hb1.has h.box n1).put 5 fs'
  · exact hb2.has (hb1.has h.res n0) (fun e => by have : g = g + 1 := e; omega)
  · rw [List.length_append]
    exact hb2.own h2 (fun k e e2 => n2 ((show k = g + 1 from e2) ▸ e))
  · refine h.bel.trans ((hb1.below (by have := h.le; omega) (fun k e => by have := h.row_ne k e; omega)).trans (hb2.below (by have := h.le; have := hb1.size; omega) (fun k e => by have : k = g + 1 := e; omega)))
  · exact Nat.le_trans h.le (Nat.le_trans hb1.size hb2.size)
/-- what head gives -/
def HeadO (r : Hd × Nat × Int) (w : World) (e : Ending) (w' : World) : Prop :=
  ∃ (m : Hd) (fs : Value), e = .returned (.tuple #[.agg (hdM m fs), .int .i64 (r.2.1 : Int), .int .i64 r.2.2]) ∧ w'.ownsRow w.heap.size 55 2 fs m.F.length (fldV m.F) ∧ (0 < r.2.1 → m = r.1) ∧ Below w.heap.size w w'
/-- the end: the message is laid into the result's cell -/
theorem HSt.ret {w0 wr : World} {m : Hd} {fs : Value} (h : HSt w0 wr w0.heap.size m fs) {r : Hd × Nat × Int} {a : Nat} {st : Int} (hr : r.2 = (a, st)) (hm : 0 < a → m = r.1) :
    HeadO r w0 (.returned (.tuple #[.agg (hdM m fs), .int .i64 (a : Int), .int .i64 st])) (wr.setCells w0.heap.size 0 (hdM m fs).toList) := by
  have hb := But.cells (b := w0.heap.size) (hdM m fs).toList 0 wr
  refine ⟨m, fs, by rw [hr], ?_, by rw [hr]; exact hm, h.bel.trans (hb.below (by have := h.le; omega) (fun k e => by have : k = w0.heap.size := e; omega))⟩
  exact (hb.own h.row (fun k e e2 => by have := h.row_ne k e; have : k = w0.heap.size := e2; omega)).mono (by omega)
end Go.Proofs.YtbpopmbabckojaaGreatDoor.Sp
end

/- The reference's framing: Bare; the parser's more. -/
section
namespace Go.Proofs.YtbpopmbabckojaaGreatDoor.Sp
open Go.RowKit Sl

def bareB (m : ByteArray) (st : Int) : Bool := m.toList == [72, 69, 65, 68] || (decide (100 ≤ st) && decide (st ≤ 199)) || st == 204 || st == 304 || (m.toList == [67, 79, 78, 78, 69, 67, 84] && decide (200 ≤ st) && decide (st ≤ 299))
set_option maxRecDepth 100000 in
set_option maxHeartbeats 2000000 in
theorem more_any (n : Int) (w : World) : Calls Tryz.prog 82 #[.int .i64 n] w fun e w' => e = .returned (.int .i64 (if n = 0 then 1 else 0)) ∧ w = w' := by
  by_cases h : n = 0
  · subst h
    go_enter Tryz.func82, Tryz.ntmps82
    go_wp2
    go_ret
    exact ⟨rfl, rfl⟩
  · rw [if_neg h]
    go_enter Tryz.func82, Tryz.ntmps82
    go_wp2
    go_ret
    exact ⟨rfl, rfl⟩
set_option maxRecDepth 100000 in
set_option maxHeartbeats 8000000 in
theorem bare_any (m : ByteArray) (st : Int) (w : World) : Calls Tryz.prog 17 #[.string m, .int .i64 st] w fun e w' => e = .returned (.bool (bareB m st)) ∧ w = w' := by
  unfold bareB
  obtain ⟨a, ha⟩ : ∃ a, (m.toList == [72, 69, 65, 68]) = a := ⟨_, rfl⟩
  obtain ⟨b1, hb1⟩ : ∃ a, decide (100 ≤ st) = a := ⟨_, rfl⟩
  obtain ⟨b2, hb2⟩ : ∃ a, decide (st ≤ 199) = a := ⟨_, rfl⟩
  obtain ⟨c, hc⟩ : ∃ a, (st == 204) = a := ⟨_, rfl⟩
  obtain ⟨d, hd⟩ : ∃ a, (st == 304) = a := ⟨_, rfl⟩
  obtain ⟨g, hg⟩ : ∃ a, (m.toList == [67, 79, 78, 78, 69, 67, 84]) = a := ⟨_, rfl⟩
  obtain ⟨f1, hf1⟩ : ∃ a, decide (200 ≤ st) = a := ⟨_, rfl⟩
  obtain ⟨f2, hf2⟩ : ∃ a, decide (st ≤ 299) = a := ⟨_, rfl⟩
  rw [ha, hb1, hb2, hc, hd, hg, hf1, hf2]
  go_enter Tryz.func17, Tryz.ntmps17
  cases a
  · cases b1
    · cases c <;> cases d <;> cases g <;> cases f1 <;> cases f2
      all_goals go_wp2_with fail
      all_goals go_ret
      all_goals exact ⟨by simp, rfl⟩
    · cases b2
      · cases c <;> cases d <;> cases g <;> cases f1 <;> cases f2
        all_goals go_wp2_with fail
        all_goals go_ret
        all_goals exact ⟨by simp, rfl⟩
      · go_wp2_with fail
        go_ret
        exact ⟨by simp, rfl⟩
  · go_wp2_with fail
    go_ret
    exact ⟨by simp, rfl⟩
end Go.Proofs.YtbpopmbabckojaaGreatDoor.Sp
end
