/- Lemmas for the statement's proof, several texts in one: B4, Ch, O1, Sl. -/
import Derived.Test.YtbpopmbabckojaaGreatDoorZ02
import Derived.Test.YtbpopmbabckojaaGreatDoorZ01
import Derived.Tactics
import Derived.Tactics2
import Derived.Defers
import Derived.Laws.Pointers
import Derived.Laws.LoneSync
import Derived.RegionTactic
import Derived.RegionCalls
import Derived.WalkKit
import Derived.Maps.AppendAt
import Derived.Laws.AppendOwnNone
import Derived.Deep.MidRow
set_option linter.unusedVariables false
set_option linter.unusedSimpArgs false
/- token.all, Token, Same; start.seen, version, Request. -/
section
namespace Go.Proofs.YtbpopmbabckojaaGreatDoor.Sp
open Go.RowKit

/-! ### plain -/
def tch (c : UInt8) : Bool := tB c.toNat
def chr (c : UInt8) : Bool := cB c.toNat
def allS (q : UInt8 → Bool) (l : List UInt8) : Bool := l.all q
def tokenS (l : List UInt8) : Bool := !l.isEmpty && allS tch l
theorem tblArr_size : tblArr.size = 256 := by unfold tblArr; rw [List.size_toArray, tbl_len]
theorem kind_and1 (c : UInt8) : bits BinOp.and IntKind.u8 (kindOf c.toNat) 1 = if tch c then 1 else 0 := by
  unfold tch kindOf
  cases tB c.toNat <;> cases cB c.toNat <;> kernel_rfl
theorem kind_and2 (c : UInt8) : bits BinOp.and IntKind.u8 (kindOf c.toNat) 2 = if chr c then 2 else 0 := by
  unfold chr kindOf
  cases tB c.toNat <;> cases cB c.toNat <;> kernel_rfl

theorem all_take {q : UInt8 → Bool} (s : ByteArray) (k : Nat) (h : k < s.size) : (s.data.toList.take (k + 1)).all q = ((s.data.toList.take k).all q && q s[k]) := by
  rw [List.take_succ_eq_append_getElem (by simpa using h), List.all_append]
  simp only [List.all_cons, List.all_nil, Bool.and_true]
  rfl
theorem all_no {q : UInt8 → Bool} (s : ByteArray) (k : Nat) (h : k < s.size) (hq : q s[k] = false) : s.data.toList.all q = false := by
  rw [List.all_eq_false]
  exact ⟨s[k], by rw [show s[k] = s.data.toList[k]'(by simpa using h) from rfl]; exact List.getElem_mem _, by rw [hq]; decide⟩

set_option maxRecDepth 100000 in
set_option maxHeartbeats 1000000 in
theorem all_any (s : ByteArray) (hs : s.size ≤ 9223372036854775807) (kind : Int) (q : UInt8 → Bool) (hq : ∀ c : UInt8, bits BinOp.and IntKind.u8 (kindOf c.toNat) kind = if q c then kind else 0) (hk : (kind == 0) = false) (w : World) :
    Calls Tryz.prog 110 #[.string s, .int .u8 kind] w fun e w' => e = .returned (.bool (allS q s.data.toList)) ∧ Below w.heap.size w w' := by
  have HQ := Lib.hid hq
  clear hq
  have hz := zero_value
  go_enter Tryz.func110, Tryz.ntmps110
  go_wp2_with fail
  refine (table_any _).mono ?_; rintro e w1 ⟨rfl, hb1⟩
  have hi2 : (Tryz.prog.info? 154).map (·.size) = some tblArr.size := by rw [tblArr_size]; kernel_rfl
  have H0 := Reg.Has.at w1 w1.heap.size (tbl 0) 154 rfl
  have ht : (w1.alloc (.cells zeroArr 154)).there w1.heap.size 0 tblArr.size := by have := has_there H0; rw [tblArr_size]; rw [tbl_len] at this; exact this
  have ho : tblArr.all (·.oneCell') = true := by kernel_rfl
  have HS : Reg.Has ((w1.alloc (.cells zeroArr 154)).setCells w1.heap.size 0 tblArr.toList) w1.heap.size (tbl 256) := has_setCells (vs := tbl 256) (by rw [tblArr_size, tbl_len]) ht H0.lt (fun o w => size_setCells _ _ _ _)
  have hbel : Below w.heap.size w ((w1.alloc (.cells zeroArr 154)).setCells w1.heap.size 0 tblArr.toList) := below_setCells _ hb1.size _ _ _ (hb1.alloc hb1.size _)
  have HI2 := Lib.hid hi2
  have HT := hide ht
  have HO := Lib.hid ho
  clear hi2 ht ho H0
  go_wp2_with (refine wpList_store_mid rfl 154 _ _ rfl w1.heap.size 0 tblArr rfl rfl (unhide HT) HI2.out HO.out ?_)
  generalize (w1.alloc (.cells zeroArr 154)).setCells w1.heap.size 0 tblArr.toList = w2 at *
  generalize w1.heap.size = b at *
  clear hz HI2 HT HO hb1
  go_loop [10] (fun n => ∃ k : Nat, k ≤ s.size ∧ n = .int .i64 k ∧ (s.data.toList.take k).all q = true) (fun n => s.size - (intOf n).toNat)
  case atStart => exact ⟨0, Nat.zero_le _, rfl, rfl⟩
  case round =>
    obtain ⟨k, hk, rfl, hall⟩ := hrel
    have HA := Lib.hid hall
    clear hall
    by_cases hlt : k < s.size
    · have hc := s[k].toNat_lt
      have c0 := HS.cell s[k].toNat _ (tbl_get 256 _ (by omega))
      rw [if_pos (by omega)] at c0
      have hN := Lib.hid (all_no (q := q) s k hlt)
      have hT := Lib.hid (all_take (q := q) s k hlt)
      have hq := HQ.out s[k]
      cases hqk : q s[k]
      · rw [hqk] at hq
        simp only [Bool.false_eq_true, if_false] at hq
        go_wp2
        go_ret
        exact ⟨ret_bool (by unfold allS; exact (hN.out hqk).symm), hbel⟩
      · rw [hqk] at hq
        simp only [if_true] at hq
        go_wp2
        go_round
        case rel => exact ⟨k + 1, by omega, by go_num, by rw [hT.out, HA.out, hqk]; rfl⟩
        case measure => simp [intOf]; omega
    · have hke : k = s.size := by omega
      subst hke
      go_wp2
      go_ret
      refine ⟨ret_bool ?_, hbel⟩
      have := HA.out
      rw [List.take_of_length_le (by simp)] at this
      unfold allS
      exact this.symm

theorem token_any (s : ByteArray) (hs : s.size ≤ 9223372036854775807) (w : World) :
    Calls Tryz.prog 89 #[.string s] w fun e w' => e = .returned (.bool (tokenS s.data.toList)) ∧ Below w.heap.size w w' := by
  by_cases he : s.toList = []
  · have he2 : s.data.toList = [] := by rwa [Lib.toList_data] at he
    go_enter Tryz.func89, Tryz.ntmps89
    go_wp2_with fail
    go_ret
    exact ⟨ret_bool (by unfold tokenS; rw [he2]; rfl), Below.refl _ _⟩
  · have he2 : s.data.toList ≠ [] := by rwa [Lib.toList_data] at he
    have he3 : s.toList.isEmpty = false := by cases hh : s.toList <;> simp_all
    have HE := Lib.hid he2
    clear he he2
    go_enter Tryz.func89, Tryz.ntmps89
    go_wp2_with fail
    refine (all_any s hs 1 tch kind_and1 rfl _).mono ?_; rintro e w1 ⟨rfl, hb1⟩
    go_wp2
    go_ret
    exact ⟨ret_bool (by unfold tokenS; cases hl : s.data.toList with
      | nil => exact absurd hl HE.out
      | cons c t => rfl), hb1⟩
end Go.Proofs.YtbpopmbabckojaaGreatDoor.Sp
end

/- The reference's Char, Chars. -/
section
namespace Go.Proofs.YtbpopmbabckojaaGreatDoor.Sp
open Go.RowKit

def charI (c : Int) : Bool := decide (c = 9 ∨ (32 ≤ c ∧ c ≤ 126) ∨ 128 ≤ c)
theorem charI_B (c : UInt8) : charI c.toNat = chr c := by
  have := byte_all (fun c => charI c.toNat == chr c) (by decide +kernel) c
  simpa using this
theorem char_any (c : Int) (w : World) : Calls Tryz.prog 117 #[.int .u8 c] w fun e w' => e = .returned (.bool (charI c)) ∧ w = w' := by
  go_enter Tryz.func117, Tryz.ntmps117
  by_cases h9 : c = 9
  · have hb : (c == 9) = true := by simp [h9]
    have H := Lib.hid h9
    clear h9
    go_wp2
    all_goals go_ret
    all_goals exact ⟨ret_bool (by unfold charI; rw [decide_eq_true (Or.inl H.out)]), rfl⟩
  · have hb : (c == 9) = false := by simp [h9]
    have H := Lib.hid h9
    clear h9
    go_wp2
    all_goals go_ret
    all_goals exact ⟨ret_bool (by unfold charI; have := H.out; (first | (with_reducible refine dec_t ?_; omega) | (with_reducible refine dec_f ?_; omega) | (with_reducible refine dec_d ?_; omega) | (with_reducible refine dec_e ?_; omega) | (with_reducible refine dec_n ?_; omega) | (with_reducible refine dec_nd ?_; omega))), rfl⟩

set_option maxHeartbeats 1000000 in
theorem chars_any (s : ByteArray) (hs : s.size ≤ 9223372036854775807) (w : World) :
    Calls Tryz.prog 97 #[.string s] w fun e w' => e = .returned (.bool (allS chr s.data.toList)) ∧ w = w' := by
  go_enter Tryz.func97, Tryz.ntmps97
  go_wp2_with fail
  go_loop [3] (fun n => ∃ k : Nat, k ≤ s.size ∧ n = .int .i64 k ∧ (s.data.toList.take k).all chr = true) (fun n => s.size - (intOf n).toNat)
  case atStart => exact ⟨0, Nat.zero_le _, rfl, rfl⟩
  case round =>
    obtain ⟨k, hk, rfl, hall⟩ := hrel
    have HA := Lib.hid hall
    clear hall
    by_cases hlt : k < s.size
    · have hN := Lib.hid (all_no (q := chr) s k hlt)
      have hT := Lib.hid (all_take (q := chr) s k hlt)
      have hc := hide (char_any s[k].toNat)
      rw [charI_B] at hc
      cases hq : chr s[k]
      · rw [hq] at hc
        have HQ := Lib.hid hq
        clear hq
        go_wp2_with (go_at_call 117; refine (unhide hc _).mono ?_; rintro e w1 ⟨rfl, rfl⟩)
        go_ret
        exact ⟨ret_bool (by unfold allS; rw [hN.out HQ.out]), rfl⟩
      · rw [hq] at hc
        have HQ := Lib.hid hq
        clear hq
        go_wp2_with (go_at_call 117; refine (unhide hc _).mono ?_; rintro e w1 ⟨rfl, rfl⟩)
        go_round
        case rel => exact ⟨k + 1, by omega, by go_num, by rw [hT.out, HA.out, HQ.out]; rfl⟩
        case measure => simp [intOf]; omega
    · have hke : k = s.size := by omega
      subst hke
      have hall := HA.out
      rw [List.take_of_length_le (by simp)] at hall
      have HF := Lib.hid hall
      clear hall
      go_wp2
      go_ret
      exact ⟨ret_bool (by unfold allS; rw [HF.out]), rfl⟩

end Go.Proofs.YtbpopmbabckojaaGreatDoor.Sp
end

/- sync.Once, one goroutine, whatever function is handed to it: the lock, the two calls that doSlow defers, doSlow, Do. -/
section
namespace Go.Proofs.YtbpopmbabckojaaGreatDoor.Sp
open Go.RowKit

theorem raceDisable (w : World) : (callFunc 178 #[]).run Tryz.prog w = .ok (.value (.tuple #[])) w := run_call_mark0 Tryz.func178 (by kernel_rfl) (by kernel_rfl) (by kernel_rfl) .disable (by kernel_rfl) w
theorem raceEnable (w : World) : (callFunc 180 #[]).run Tryz.prog w = .ok (.value (.tuple #[])) w := run_call_mark0 Tryz.func180 (by kernel_rfl) (by kernel_rfl) (by kernel_rfl) .enable (by kernel_rfl) w
theorem raceAcquire (a : Addr) (w : World) : (callFunc 181 #[.pointer (some a)]).run Tryz.prog w = .ok (.value (.tuple #[])) w := run_call_marked Tryz.func181 (by kernel_rfl) (by kernel_rfl) (by kernel_rfl) .acquire (by kernel_rfl) a w
theorem raceRelease (a : Addr) (w : World) : (callFunc 183 #[.pointer (some a)]).run Tryz.prog w = .ok (.value (.tuple #[])) w := run_call_marked Tryz.func183 (by kernel_rfl) (by kernel_rfl) (by kernel_rfl) .releaseMerge (by kernel_rfl) a w

/-- '(*sync/atomic.Bool).Store(true)', entered as a deferred call: the cell holds 1. -/
theorem store_deferred (a : Addr) (x : Value) (u : FrameMode) (w : World) (hc : w.cell? a = some x) (hz : w.frozen? a = false) :
    CallsD Tryz.prog 166 #[.pointer (some a), .bool true] u w fun e u' w' => u' = u ∧ (e = .returned (.tuple #[]) ∧ w' = w.drew.setCell a (.int .u32 1)) := by
  have hc' : w.drew.cell? a = some x := by go_simp
  have hz' : w.drew.frozen? a = false := by go_simp
  have hst := run_call_store (P := Tryz.prog) Tryz.func174 (by kernel_rfl) (by kernel_rfl) (by kernel_rfl) (by kernel_rfl) (k := .u32) (y := 1) hc' hz'
  go_enter_d Tryz.func166, Tryz.ntmps166
  go_wp2
  go_region_calls
  all_goals (go_end0; exact ⟨rfl, rfl⟩)

set_option maxRecDepth 100000 in
set_option maxHeartbeats 1600000 in
/-- '(*sync.Mutex).Unlock', entered as a deferred call, the lock held and nobody waiting (state 1): state 0. -/
theorem unlock_deferred (a : Addr) (u : FrameMode) (w : World) (hc : w.cell? a = some (.int .i32 1)) (hz : w.frozen? a = false) :
    CallsD Tryz.prog 165 #[.pointer (some a)] u w fun e u' w' => u' = u ∧ (e = .returned (.tuple #[]) ∧ w' = w.setCell a (.int .i32 0)) := by
  have hd := raceDisable
  have he := raceEnable
  have hr := raceRelease
  have hadd := run_call_add (P := Tryz.prog) Tryz.func184 (by kernel_rfl) (by kernel_rfl) (by kernel_rfl) .i32 (by kernel_rfl) (y := -1) (s := 0) hc hz (by simp [go_sem]; rfl)
  have hcv := run_convert_to_unsafe (P := Tryz.prog) (src := 226) (dst := 117) Tryz.underlying226 Tryz.underlying117 (by kernel_rfl) hc
  go_enter_d Tryz.func165, Tryz.ntmps165
  go_wp2
  go_end0
  go_wp2
  all_goals (go_end0; exact ⟨rfl, rfl⟩)

set_option maxRecDepth 100000 in
set_option maxHeartbeats 1600000 in
/-- '(*sync.Mutex).Lock', the lock free (state 0): state 1. -/
theorem lock_free (a : Addr) (w : World) (hc : w.cell? a = some (.int .i32 0)) (hz : w.frozen? a = false) :
    Calls Tryz.prog 164 #[.pointer (some a)] w fun e w' => e = .returned (.tuple #[]) ∧ w' = w.setCell a (.int .i32 1) := by
  have hd := raceDisable
  have he := raceEnable
  have ha := raceAcquire
  have hcas := run_call_cas_hit (P := Tryz.prog) Tryz.func179 (by kernel_rfl) (by kernel_rfl) (by kernel_rfl) .i32 (by kernel_rfl) (y := 1) hc hz
  have hc' : (w.setCell a (.int .i32 1)).cell? a = some (.int .i32 1) := World.cell?_setCell_same w a _ hc
  have hcv := run_convert_to_unsafe (P := Tryz.prog) (src := 226) (dst := 117) Tryz.underlying226 Tryz.underlying117 (by kernel_rfl) hc'
  go_enter Tryz.func164, Tryz.ntmps164
  go_wp2
  first | go_end0 | (simp only [Exit.inBlock, Exit.then]; refine bodyPost_ret (results_none rfl _ _ _) rfl ?_) | refine bodyPost_ret (results_none rfl _ _ _) rfl ?_
  go_wp2
  all_goals (go_end0; exact ⟨rfl, rfl⟩)

/-- what the function handed to Do leaves: the Once's cells as they were, and R -/
structure OnceKept (b off : Nat) (R : World → Prop) (w : World) : Prop where
  done : w.cell? ⟨b, off, none⟩ = some (.int .u32 0)
  state : w.cell? ⟨b, off + 1, none⟩ = some (.int .i32 1)
  f0 : w.frozen? ⟨b, off, none⟩ = false
  f1 : w.frozen? ⟨b, off + 1, none⟩ = false
  rest : R w

set_option maxRecDepth 100000 in
set_option maxHeartbeats 1600000 in
theorem slow_any (b off : Nat) (g : FuncId) (first : Array Value) (eg : ∀ args w, (callFunc g args).run Tryz.prog w = .ok (.enter g args) w) (w : World) (R : World → Prop)
    (h0 : w.cell? ⟨b, off, none⟩ = some (.int .u32 0)) (h1 : w.cell? ⟨b, off + 1, none⟩ = some (.int .i32 0))
    (f0 : w.frozen? ⟨b, off, none⟩ = false) (f1 : w.frozen? ⟨b, off + 1, none⟩ = false)
    (hg : Calls Tryz.prog g first (w.setCell ⟨b, off + 1, none⟩ (.int .i32 1)) fun e w' => e = .returned (.tuple #[]) ∧ OnceKept b off R w') :
    Calls Tryz.prog 157 #[.pointer (some ⟨b, off, none⟩), .func (.func g) first #[]] w fun e w' => e = .returned (.tuple #[]) ∧ ∃ w1, R w1 ∧ w' = (w1.drew.setCell ⟨b, off, none⟩ (.int .u32 1)).setCell ⟨b, off + 1, none⟩ (.int .i32 0) := by
  have hl := run_call_load (P := Tryz.prog) Tryz.func163 (by kernel_rfl) (by kernel_rfl) (by kernel_rfl) .u32 (by kernel_rfl) (w := w.setCell ⟨b, off + 1, none⟩ (.int .i32 1)) (a := ⟨b, off, none⟩) (x := 0) ((World.cell?_setCell_other _ ⟨b, off + 1, none⟩ ⟨b, off, none⟩ _ (by simp)).trans h0)
  have hnot : ∀ (x : Bool) (w : World), (Op.unary .not (.bool x)).run Tryz.prog w = .ok (.bool (!x)) w := fun _ _ => rfl
  have HG := hide hg
  clear hg
  go_enter_defers Tryz.func157, Tryz.ntmps157
  go_wp2_with (go_at_call 164; refine (lock_free ⟨b, off + 1, none⟩ _ (by go_simp) (by go_simp)).mono ?_; rintro e w' ⟨rfl, rfl⟩)
  go_wp2_with (first
    | (go_at_fn g; refine (unhide HG).mono ?_; rintro e w1 ⟨rfl, hk⟩; have HK := hide hk; clear hk)
    | (go_at_call 156; go_in))
  have hk := unhide HK
  refine leaves_cons (f := 166) (args := #[.pointer (some ⟨b, off, none⟩), .bool true]) (by simp) (by simp [go_sem]) ?_
  refine (store_deferred ⟨b, off, none⟩ (.int .u32 0) .returning _ hk.done hk.f0).mono ?_
  rintro e u' w'' ⟨rfl, rfl, rfl⟩
  refine leaves_cons (f := 165) (args := #[.pointer (some ⟨b, off + 1, none⟩)]) (by simp [settle]) (by simp [go_sem]) ?_
  refine (unlock_deferred ⟨b, off + 1, none⟩ _ _ ?_ ?_).mono ?_
  · refine (World.cell?_setCell_other _ ⟨b, off, none⟩ ⟨b, off + 1, none⟩ _ (by simp)).trans ?_
    rw [World.cell?_drew]
    exact hk.state
  · rw [World.frozen?_setCell]
    exact hk.f1
  rintro e u' w'' ⟨rfl, rfl, rfl⟩
  simp [Leaves, settle, results, Tryz.results157]
  exact ⟨w1, hk.rest, rfl⟩

set_option maxRecDepth 100000 in
set_option maxHeartbeats 1600000 in
theorem do_first (b off : Nat) (g : FuncId) (first : Array Value) (eg : ∀ args w, (callFunc g args).run Tryz.prog w = .ok (.enter g args) w) (w : World) (R : World → Prop)
    (h0 : w.cell? ⟨b, off, none⟩ = some (.int .u32 0)) (h1 : w.cell? ⟨b, off + 1, none⟩ = some (.int .i32 0))
    (f0 : w.frozen? ⟨b, off, none⟩ = false) (f1 : w.frozen? ⟨b, off + 1, none⟩ = false)
    (hg : Calls Tryz.prog g first (w.setCell ⟨b, off + 1, none⟩ (.int .i32 1)) fun e w' => e = .returned (.tuple #[]) ∧ OnceKept b off R w') :
    Calls Tryz.prog 148 #[.pointer (some ⟨b, off, none⟩), .func (.func g) first #[]] w fun e w' => e = .returned (.tuple #[]) ∧ ∃ w1, R w1 ∧ w' = (w1.drew.setCell ⟨b, off, none⟩ (.int .u32 1)).setCell ⟨b, off + 1, none⟩ (.int .i32 0) := by
  have hl := run_call_load (P := Tryz.prog) Tryz.func163 (by kernel_rfl) (by kernel_rfl) (by kernel_rfl) .u32 (by kernel_rfl) h0
  have hnot : ∀ (x : Bool) (w : World), (Op.unary .not (.bool x)).run Tryz.prog w = .ok (.bool (!x)) w := fun _ _ => rfl
  have HS := hide (slow_any b off g first eg w R h0 h1 f0 f1 hg)
  clear hg
  go_enter Tryz.func148, Tryz.ntmps148
  go_wp2_with (first
    | (go_at_call 157; refine (unhide HS).mono ?_; rintro e w' ⟨rfl, w1, hr, rfl⟩; have HR := hide hr; clear hr)
    | (go_at_call 156; go_in))
  go_end0
  exact ⟨rfl, w1, unhide HR, rfl⟩
end Go.Proofs.YtbpopmbabckojaaGreatDoor.Sp
end

/- Slices: what a slice reads as; one element more. -/
section
namespace Go.Proofs.YtbpopmbabckojaaGreatDoor.Sl
open Go.RowKit

/-- The slice value v, of n elements of sz cells each, reads in w as xs. -/
def Rd (w : World) (v : Value) (n sz : Nat) (xs : List Value) : Prop :=
  ∃ (ao : Option Addr) (cap : Nat), v = .slice ao n cap ∧ n ≤ cap ∧ (ao = none → cap = 0) ∧ xs.length = n * sz ∧ (xs ≠ [] → ∃ b off, ao = some ⟨b, off, none⟩ ∧ b < w.heap.size ∧ ∀ i u, xs[i]? = some u → w.cell? ⟨b, off + i, none⟩ = some u)

section
variable {w w' : World} {v : Value} {n sz : Nat} {xs : List Value}
theorem Rd.below (h : Rd w v n sz xs) (hb : Below w.heap.size w w') : Rd w' v n sz xs := by
  obtain ⟨ao, cap, e, hcp, hz, hl, hc⟩ := h
  refine ⟨ao, cap, e, hcp, hz, hl, fun hne => ?_⟩
  obtain ⟨b, off, e2, hlt, hc⟩ := hc hne
  exact ⟨b, off, e2, Nat.lt_of_lt_of_le hlt hb.size, fun i u hu => (hb.cell (p := ⟨b, off + i, none⟩) hlt).trans (hc i u hu)⟩
theorem Rd.alloc (h : Rd w v n sz xs) (o : Obj) : Rd (w.alloc o) v n sz xs := h.below ((Below.refl _ _).alloc (Nat.le_refl _) o)
theorem Rd.form (h : Rd w v n sz xs) : ∃ ao cap, v = .slice ao n cap := by obtain ⟨ao, cap, e, _⟩ := h; exact ⟨ao, cap, e⟩
theorem Rd.len (h : Rd w v n sz xs) : xs.length = n * sz := by obtain ⟨_, _, _, _, _, e, _⟩ := h; exact e
theorem Rd.nil (w : World) (sz : Nat) : Rd w (.slice none 0 0) 0 sz [] := ⟨none, 0, rfl, Nat.le_refl _, fun _ => rfl, by simp, fun h => absurd rfl h⟩
theorem Rd.own {base : Nat} {e : TypeId} (h : w.ownsRow base e sz v n xs) : Rd w v n sz xs := by
  rcases h with ⟨hl, ⟨rfl, rfl⟩ | ⟨g, cap, cur, rfl, hb, hh, hnc, hcm, hcs, ht⟩⟩
  · refine ⟨none, 0, rfl, Nat.le_refl _, fun _ => rfl, hl, fun hne => ?_⟩
    rw [Nat.zero_mul] at hl
    exact absurd (List.eq_nil_of_length_eq_zero hl) hne
  · refine ⟨some ⟨g, 0, none⟩, cap, rfl, hnc, (fun h => by cases h), hl, fun _ => ⟨g, 0, rfl, ?_, fun i u hu => ?_⟩⟩
    · rcases Nat.lt_or_ge g w.heap.size with h' | h'
      · exact h'
      · rw [Array.getElem?_eq_none h'] at hh; cases hh
    · rw [Nat.zero_add, cell_of_row w g i cur e (0, 0) hh]
      rw [← ht, List.getElem?_take] at hu
      split at hu
      · rw [← hu]; simp
      · cases hu
end

/-- A row of the call's own, not known to be new: what it reads as; what was there below base is as it was. -/
structure Own (w0 w : World) (base : Nat) (e : TypeId) (sz : Nat) (v : Value) (n : Nat) (xs : List Value) : Prop where
  own : w.ownsRow base e sz v n xs
  bel : Below base w0 w
  le : base ≤ w.heap.size

theorem Own.start (w0 : World) (base : Nat) (h : base ≤ w0.heap.size) (e : TypeId) (sz : Nat) : Own w0 w0 base e sz (.slice none 0 0) 0 [] := ⟨World.ownsRow_nil _ _ _ _, Below.refl _ _, h⟩
theorem Own.call {w0 w w' : World} {base : Nat} {e : TypeId} {sz : Nat} {v : Value} {n : Nat} {xs : List Value} (h : Own w0 w base e sz v n xs) (hb : Below w.heap.size w w') : Own w0 w' base e sz v n xs :=
  ⟨h.own.kept (row := none) ⟨hb.os, hb.tape, hb.output, hb.size, fun k hk _ => hb.block k hk⟩ (by
    cases hv : v.ownBlock with
    | none => exact .inl rfl
    | some g => exact .inr (by simp)), h.bel.trans (hb.mono h.le), Nat.le_trans h.le hb.size⟩
theorem Own.alloc {w0 w : World} {base : Nat} {e : TypeId} {sz : Nat} {v : Value} {n : Nat} {xs : List Value} (h : Own w0 w base e sz v n xs) (o : Obj) : Own w0 (w.alloc o) base e sz v n xs :=
  h.call ((Below.refl _ _).alloc (Nat.le_refl _) o)

theorem row_base {w : World} {base : Nat} {e : TypeId} {sz : Nat} {v : Value} {n : Nat} {xs : List Value} (h : w.ownsRow base e sz v n xs) : ∀ k, v.ownBlock = some k → base ≤ k := fun k hk => (h.lt k hk).1

variable {P : Program} {ops : Array Oper} {rest : List Oper} {o : Oper} {a : Act} {w : World} {Q : Exit → Act → World → Prop}

/-- append(out, u): u was laid in a new block just before. -/
theorem wpList_push {wr w0 : World} (hgd : o.guard = none) (s x : Operand) (t : TypeId) (ho : o.op = .call { callee := .builtin .append, args := #[s, x], argTypes := #[t, t] })
    (base : Nat) (e : TypeId) (i : TypeInfo) (z : Value) (size bytes : Nat) (ht : P.underlying t = some (.slice e)) (hi : P.info? e = some i) (hz : i.zero = some z) (hsize : i.size = size) (hby : i.bytes = bytes) (hzs : z.cells.size = size) (hsz : 0 < size)
    (v : Value) (n : Nat) (xs : List Value) (hs : a.eval s = v) (hown : Own w0 wr base e size v n xs) (us : List Value) (hw : w = wr.alloc (.cells us.toArray e)) (hlen : us.length = size) (h1 : ∀ u ∈ us, u.oneCell' = true)
    (c : Nat) (hx : a.eval x = .slice (some ⟨wr.heap.size, 0, none⟩) 1 c) (hn : (n + 1) * bytes ≤ 140737488355328) (hn2 : n + 1 ≤ maxLen)
    (h : ∀ v' w1, Own w0 w1 base e size v' (n + 1) (xs ++ us) → wpList P ops Q rest (a.put o.dst v') w1) : wpList P ops Q (o :: rest) a w := by
  subst hw
  have hA := hown.alloc (.cells us.toArray e)
  refine wpList_append_own _ hgd s x t ho base e i z size bytes ht hi hz hsize hby hzs hsz v n xs hs hA.own ⟨wr.heap.size, 0, none⟩ 1 c us hx (by omega) (fun j u hu => ?_) h1 hn2 hn hA.le (fun v' w' h2 h3 _ => ?_)
  · rw [Addr.add_mid, Nat.zero_add, World.cell?_alloc_at _ _ _ _ rfl]
    simpa using hu
  · refine h v' w' ⟨h2, hA.bel.grown h3 hA.le (row_base hA.own), Nat.le_trans hA.le h3.size⟩

/-- append(out, u...): u any slice that reads as news. -/
theorem wpList_pushAll {w0 : World} (hgd : o.guard = none) (s x : Operand) (t : TypeId) (ho : o.op = .call { callee := .builtin .append, args := #[s, x], argTypes := #[t, t] })
    (base : Nat) (e : TypeId) (i : TypeInfo) (z : Value) (size bytes : Nat) (ht : P.underlying t = some (.slice e)) (hi : P.info? e = some i) (hz : i.zero = some z) (hsize : i.size = size) (hby : i.bytes = bytes) (hzs : z.cells.size = size) (hsz : 0 < size)
    (v : Value) (n : Nat) (xs : List Value) (hs : a.eval s = v) (hown : Own w0 w base e size v n xs) (u : Value) (m : Nat) (news : List Value) (hr : Rd w u m size news) (hx : a.eval x = u) (h1 : ∀ y ∈ news, y.oneCell' = true)
    (hn : (n + m) * bytes ≤ 140737488355328) (hn2 : n + m ≤ maxLen)
    (h : ∀ v' w1, Own w0 w1 base e size v' (n + m) (xs ++ news) → wpList P ops Q rest (a.put o.dst v') w1) : wpList P ops Q (o :: rest) a w := by
  obtain ⟨ao, cap, rfl, hcp, hzr, hl, hc⟩ := hr
  cases ao with
  | none =>
    obtain rfl := hzr rfl
    obtain rfl : m = 0 := by omega
    have hnil : news = [] := List.eq_nil_of_length_eq_zero (by omega)
    subst hnil
    exact wpList_append_own_none hgd s x t ho base e i size ht hi v n xs hs hown.own hx (h v w (by simpa using hown))
  | some ad =>
    refine wpList_append_own _ hgd s x t ho base e i z size bytes ht hi hz hsize hby hzs hsz v n xs hs hown.own ad m cap news hx hl (fun j y hy => ?_) h1 hn2 hn hown.le (fun v' w' h2 h3 _ => ?_)
    · have hne : news ≠ [] := by intro e; subst e; simp at hy
      obtain ⟨b, off, e, _, hcc⟩ := hc hne
      cases e
      rw [Addr.add_mid]
      exact hcc j y hy
    · exact h v' w' ⟨h2, hown.bel.grown h3 hown.le (row_base hown.own), Nat.le_trans hown.le h3.size⟩
end Go.Proofs.YtbpopmbabckojaaGreatDoor.Sl
end
