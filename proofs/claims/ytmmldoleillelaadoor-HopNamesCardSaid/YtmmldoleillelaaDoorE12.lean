/- Forward: where it stands in memory. -/
import Derived.Test.YtmmldoleillelaaDoorE10
import Derived.Test.YtmmldoleillelaaDoorB4
namespace Go.Proofs.YtmmldoleillelaaDoor.Sp
open Go.RowKit Sl

def clB : ByteArray := ⟨#[67, 111, 110, 116, 101, 110, 116, 45, 76, 101, 110, 103, 116, 104]⟩
def exB : ByteArray := ⟨#[69, 120, 112, 101, 99, 116]⟩
def hoB : ByteArray := ⟨#[72, 111, 115, 116]⟩
def hostF (L : List Fld) : List Fld := if (allB L hoB).isEmpty = true then L ++ [(hoB, ⟨#[]⟩)] else L
/-- the fields that go on, ahead of Via -/
def preF (me : ByteArray) (F : List Fld) : List Fld := if me.toList.isEmpty = true then delF (stripF F) clB else hostF (delF (delF (stripF F) clB) exB)
def fwdF (me : ByteArray) (F : List Fld) (minor : Int) (name : ByteArray) : List Fld := viaF (preF me F) (itoaB minor) name

theorem host_few {L : List Fld} (h : L.length ≤ 99 ∧ ∀ f ∈ L, f.1.size ≤ 2000 ∧ f.2.size ≤ 2000) : Few (hostF L) := by
  unfold hostF
  split
  · refine ⟨by simp; omega, fun f hf => ?_⟩
    rcases List.mem_append.1 hf with hf | hf
    · exact h.2 f hf
    · rw [List.mem_singleton] at hf
      subst hf
      exact ⟨by show hoB.size ≤ 2000; decide, by show (⟨#[]⟩ : ByteArray).size ≤ 2000; decide⟩
  · exact ⟨by omega, h.2⟩
theorem del_mem {L : List Fld} {name : ByteArray} {f : Fld} (h : f ∈ delF L name) : f ∈ L := (List.mem_filter.1 h).1
theorem strip_mem {L : List Fld} {f : Fld} (h : f ∈ stripF L) : f ∈ L := (List.mem_filter.1 h).1
/-- fewer than a hundred -/
def Few1 (L : List Fld) : Prop := L.length ≤ 99 ∧ ∀ f ∈ L, f.1.size ≤ 2000 ∧ f.2.size ≤ 2000
theorem Few1.few {L : List Fld} (h : Few1 L) : Few L := ⟨by have := h.1; omega, h.2⟩
theorem Few1.strip {L : List Fld} (h : Few1 L) : Few1 (stripF L) := ⟨Nat.le_trans (strip_len L) h.1, fun f hf => h.2 f (strip_mem hf)⟩
theorem Few1.del {L : List Fld} (h : Few1 L) (name : ByteArray) : Few1 (delF L name) := ⟨Nat.le_trans (delF_len L name) h.1, fun f hf => h.2 f (del_mem hf)⟩
theorem pre_few {F : List Fld} (h : Few1 F) (me : ByteArray) : Few (preF me F) := by
  unfold preF
  split
  · exact (h.strip.del clB).few
  · exact host_few ((h.strip.del clB).del exB)
/-- what Forward hands back -/
def FwdOut (w : World) (me ta re bo : ByteArray) (st : Int) (F : List Fld) (minor : Int) (name : ByteArray) (e : Ending) (w' : World) : Prop :=
  ∃ v, e = .returned (.tuple #[.agg (msgV me ta st re 1 v bo (.slice none 0 0)), .int .i64 0]) ∧ w'.ownsRow w.heap.size 35 2 v (fwdF me F minor name).length (fldV (fwdF me F minor name)) ∧ Below w.heap.size w w'
def noMsg : Array Value := msgV ⟨#[]⟩ ⟨#[]⟩ 0 ⟨#[]⟩ 0 (.slice none 0 0) ⟨#[]⟩ (.slice none 0 0)
def FwdBad (w : World) (e : Ending) (w' : World) : Prop := e = .returned (.tuple #[.agg noMsg, .int .i64 4]) ∧ Below w.heap.size w w'


def zeroM : List Value := [.string ⟨#[]⟩, .string ⟨#[]⟩, .int .i64 0, .string ⟨#[]⟩, .int .i64 0, .slice none 0 0, .string ⟨#[]⟩, .slice none 0 0]
def zeroA : Array Value := #[.string ⟨#[]⟩, .string ⟨#[]⟩, .int .i64 0, .string ⟨#[]⟩, .int .i64 0, .slice none 0 0, .string ⟨#[]⟩, .slice none 0 0]
theorem zeroA_all : zeroA.all (·.oneCell') = true := by kernel_rfl
/-- the message under way in the block behind w0, the result's block behind it -/
structure FwdSt (w0 w : World) (me ta re bo : ByteArray) (st mi : Int) (fs tr : Value) : Prop where
  H : Reg.Has w w0.heap.size [.string me, .string ta, .int .i64 st, .string re, .int .i64 mi, fs, .string bo, tr]
  Z : Reg.Has w (w0.heap.size + 1) zeroM
  B : Below w0.heap.size w0 w

section
variable {w0 w w' : World} {me ta re bo : ByteArray} {st mi : Int} {fs tr : Value}
theorem FwdSt.start (w0 : World) (me ta re bo : ByteArray) (st mi : Int) (fs tr : Value) :
    FwdSt w0 ((w0.alloc (.cells #[.string me, .string ta, .int .i64 st, .string re, .int .i64 mi, fs, .string bo, tr] 24)).alloc (.cells #[.string ⟨#[]⟩, .string ⟨#[]⟩, .int .i64 0, .string ⟨#[]⟩, .int .i64 0, .slice none 0 0, .string ⟨#[]⟩, .slice none 0 0] 24)) me ta re bo st mi fs tr :=
  ⟨(Reg.Has.new w0 [.string me, .string ta, .int .i64 st, .string re, .int .i64 mi, fs, .string bo, tr] 24).alloc _, Reg.Has.at _ _ zeroM 24 (by simp), ((Below.refl _ _).alloc (Nat.le_refl _) _).alloc (by simp) _⟩
theorem FwdSt.call (h : FwdSt w0 w me ta re bo st mi fs tr) (hb : Below w.heap.size w w') : FwdSt w0 w' me ta re bo st mi fs tr := ⟨h.H.call hb, h.Z.call hb, h.B.trans (hb.mono h.B.size)⟩
theorem FwdSt.put5 (h : FwdSt w0 w me ta re bo st mi fs tr) (v : Value) : FwdSt w0 (w.setCell ⟨w0.heap.size, 5, none⟩ v) me ta re bo st mi v tr :=
  ⟨h.H.put 5 v, h.Z.other (by show w0.heap.size ≠ w0.heap.size + 1; omega) v, h.B.setCell (Nat.le_refl _) v⟩
theorem FwdSt.put4 (h : FwdSt w0 w me ta re bo st mi fs tr) (n : Int) : FwdSt w0 (w.setCell ⟨w0.heap.size, 4, none⟩ (.int .i64 n)) me ta re bo st n fs tr :=
  ⟨h.H.put 4 _, h.Z.other (by show w0.heap.size ≠ w0.heap.size + 1; omega) _, h.B.setCell (Nat.le_refl _) _⟩
theorem FwdSt.put7 (h : FwdSt w0 w me ta re bo st mi fs tr) (v : Value) : FwdSt w0 (w.setCell ⟨w0.heap.size, 7, none⟩ v) me ta re bo st mi fs v :=
  ⟨h.H.put 7 v, h.Z.other (by show w0.heap.size ≠ w0.heap.size + 1; omega) v, h.B.setCell (Nat.le_refl _) v⟩
theorem FwdSt.cells (h : FwdSt w0 w me ta re bo st mi fs tr) : w.cell? ⟨w0.heap.size, 0, none⟩ = some (.string me) ∧ w.cell? ⟨w0.heap.size, 4, none⟩ = some (.int .i64 mi) ∧ w.cell? ⟨w0.heap.size, 5, none⟩ = some fs ∧ w.cell? ⟨w0.heap.size, 7, none⟩ = some tr ∧
    w.frozen? ⟨w0.heap.size, 4, none⟩ = false ∧ w.frozen? ⟨w0.heap.size, 5, none⟩ = false ∧ w.frozen? ⟨w0.heap.size, 7, none⟩ = false :=
  ⟨h.H.cell 0 _ rfl, h.H.cell 4 _ rfl, h.H.cell 5 _ rfl, h.H.cell 7 _ rfl, h.H.free 4 (by simp), h.H.free 5 (by simp), h.H.free 7 (by simp)⟩
end

section
variable {ops : Array Oper} {rest : List Oper} {o : Oper} {a : Act} {w : World} {Q : Exit → Act → World → Prop}
theorem infoM : (Tryd.prog.info? 24).map (·.size) = some 8 := by kernel_rfl
theorem wpList_loadM (hgd : o.guard = none) (x : Operand) (ho : o.op = .load 24 x) (b : Nat) (hx : a.eval x = .pointer (some ⟨b, 0, none⟩)) (vs : List Value) (hl : vs.length = 8) (H : Reg.Has w b vs)
    (h : wpList Tryd.prog ops Q rest (a.put o.dst (.agg vs.toArray)) w) : wpList Tryd.prog ops Q (o :: rest) a w :=
  wpList_load_mid hgd 24 x ho b 0 hx vs _ (has_range H) Tryd.underlying24 rfl (by rw [infoM, hl]) h
theorem wpList_storeM (hgd : o.guard = none) (x y : Operand) (ho : o.op = .store 24 x y) (b : Nat) (hx : a.eval x = .pointer (some ⟨b, 0, none⟩)) (cells : Array Value) (hc : cells.size = 8) (hy : a.eval y = .agg cells) (old : List Value) (hl : old.length = 8) (H : Reg.Has w b old) (h1 : cells.all (·.oneCell') = true)
    (h : Reg.Has (w.setCells b 0 cells.toList) b cells.toList → wpList Tryd.prog ops Q rest (a.put o.dst undef) (w.setCells b 0 cells.toList)) : wpList Tryd.prog ops Q (o :: rest) a w := by
  have ht : w.there b 0 cells.size := by have := has_there H; rw [hl] at this; rw [hc]; exact this
  exact wpList_store_mid hgd 24 x y ho b 0 cells hx hy ht (by rw [infoM, hc]) h1 (h (has_setCells (by simp) ht H.lt (fun o w => size_setCells _ _ _ _)))
theorem run_loadM (b : Nat) (cells : Array Value) (hc : cells.size = 8) (H : Reg.Has w b cells.toList) : (loadVar 24 ⟨b, 0, none⟩).run Tryd.prog w = .ok (.agg cells) w :=
  run_loadVar_mid (P := Tryd.prog) w b 0 24 cells.toList _ (has_range H) Tryd.underlying24 rfl (by rw [infoM]; simp [hc])
end

theorem slice_one {ao : Option Addr} {n c : Nat} : (Value.slice ao n c).oneCell' = true := rfl

set_option maxRecDepth 100000 in
set_option maxHeartbeats 2000000 in
theorem fwd_bad (me ta re bo : ByteArray) (st mi : Int) (fs tr : Value) (name : ByteArray) (hn : name.size ≤ 2000) (hno : tokenS name.data.toList = false) (w : World) :
    Calls Tryd.prog 24 #[.agg (msgV me ta st re mi fs bo tr), .string name] w (FwdBad w) := by
  have htok := hide (fun w => token_any name (by omega) w)
  rw [hno] at htok
  have HS := hide (FwdSt.start w me ta re bo st mi fs tr)
  clear hno
  unfold msgV
  go_enter Tryd.func24, Tryd.ntmps24
  go_wp2_with (first
    | (refine wpList_storeM rfl _ _ rfl (w.heap.size + 1) rfl zeroA rfl rfl zeroM rfl (unhide S1).Z zeroA_all ?_; intro HZ; have HBZ := below_setCells (w.heap.size + 1) (Nat.le_succ _) zeroA.toList 0 _ (unhide SB); generalize w1.setCells (w.heap.size + 1) 0 zeroA.toList = w2 at HZ HBZ ⊢; have ZZ := hide HZ; have BZ := hide HBZ; clear HZ HBZ S1)
    | (go_at_call 47; refine (unhide htok _).mono ?_; rintro e w1 ⟨rfl, hb1⟩; have S1 := hide ((unhide HS).call hb1); have SB := hide (unhide S1).B; clear hb1))
  have hl := run_loadM (w.heap.size + 1) zeroA rfl (unhide ZZ)
  refine bodyPost_ret (Mem.results_cell2 (ad := ⟨w.heap.size + 1, 0, none⟩) Tryd.results24 rfl hl) rfl ⟨?_, unhide BZ⟩
  rfl
end Go.Proofs.YtmmldoleillelaaDoor.Sp
