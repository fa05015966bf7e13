/- Lemmas for the statement's proof, several texts in one: A0, A1, Cut, A5, A6, O1, Sl, SpPl, SpPl2, S0, O2, O3. -/
import Derived.Test.YtbpopmbabckojaaGreatDoorZ01
import Derived.Lib.IndexMore
import Derived.Tactics
import Derived.Tactics2
import Derived.Defers
import Derived.Laws.Pointers
import Derived.Laws.LoneSync
import Derived.RegionTactic
import Derived.RegionCalls
import Derived.WalkKit
import Derived.Maps.AppendAt
import Derived.Laws.AppendOwnNone
import Derived.Deep.MidRow
import Derived.Lib.SlTrimSet
import Derived.WalkSmall
import Derived.Deep.Onto
import Derived.Laws.Tables
import Derived.Deep.AppendLies
/- Small words of package start: digits, hosts' bytes. -/
namespace Go.Proofs.YtbpopmbabckojaaGreatDoor.Sp
open Go.RowKit


def digI (c : Int) : Bool := decide (48 ≤ c ∧ c ≤ 57)
def addrI (c : Int) : Bool := decide ((48 ≤ c ∧ c ≤ 57) ∨ (97 ≤ c ∧ c ≤ 102) ∨ (65 ≤ c ∧ c ≤ 70) ∨ c = 58 ∨ c = 46)
def hostSigns : List UInt8 := [45, 46, 95, 126, 33, 36, 38, 39, 40, 41, 42, 43, 44, 59, 61, 37]
def hostX (c : Int) : Int := Lib.indexByte hostSigns c.toNat.toUInt8
def hostI (c : Int) : Bool := decide ((48 ≤ c ∧ c ≤ 57) ∨ (97 ≤ c ∧ c ≤ 122) ∨ (65 ≤ c ∧ c ≤ 90) ∨ 0 ≤ hostX c)
theorem digI_t {c : Int} (h : digI c = true) : 48 ≤ c ∧ c ≤ 57 := of_decide_eq_true h
theorem digI_f {c : Int} (h : digI c = false) : ¬ (48 ≤ c ∧ c ≤ 57) := of_decide_eq_false h



theorem hostx_any (c : Int) (w : World) : Calls Tryz.prog 147 #[.string ⟨#[45, 46, 95, 126, 33, 36, 38, 39, 40, 41, 42, 43, 44, 59, 61, 37]⟩, .int .u8 c] w fun e w' => e = .returned (.int .i64 (hostX c)) ∧ w = w' := by
  refine (Tryz.strings_IndexByte _ _ _).mono ?_
  rintro e w' ⟨rfl, rfl⟩
  exact ⟨rfl, rfl⟩


end Go.Proofs.YtbpopmbabckojaaGreatDoor.Sp

/- start.run; Lower of the program and of the reference; Same. -/
namespace Go.Proofs.YtbpopmbabckojaaGreatDoor.Sp
open Go.RowKit

def byteP (p : Int → Bool) (c : UInt8) : Bool := p c.toNat
def runN (p : Int → Bool) (l : List UInt8) : Nat := (l.takeWhile (byteP p)).length

theorem run_yes {p : Int → Bool} {l : List UInt8} {c : UInt8} {t : List UInt8} (h : l = c :: t) (hp : p c.toNat = true) : runN p l = 1 + runN p t := by
  subst h; unfold runN; rw [List.takeWhile_cons_of_pos (by exact hp)]; simp; omega
theorem run_no {p : Int → Bool} {l : List UInt8} {c : UInt8} {t : List UInt8} (h : l = c :: t) (hp : p c.toNat = false) : runN p l = 0 := by
  subst h; unfold runN; rw [List.takeWhile_cons_of_neg (by unfold byteP; rw [hp]; decide)]; rfl
theorem run_end (p : Int → Bool) (s : ByteArray) (k : Nat) (h : s.size ≤ k) : runN p (s.data.toList.drop k) = 0 := by
  rw [List.drop_eq_nil_of_le (by simpa using h)]; rfl

end Go.Proofs.YtbpopmbabckojaaGreatDoor.Sp

/- strings.Cut at one byte. -/
namespace Go.Proofs.YtbpopmbabckojaaGreatDoor.Sp
open Go.RowKit

def cutS (c : UInt8) : List UInt8 → List UInt8 × List UInt8 × Bool
  | [] => ([], [], false)
  | b :: l => if b = c then ([], l, true) else (b :: (cutS c l).1, (cutS c l).2.1, (cutS c l).2.2)
theorem cut_one (c : UInt8) : ∀ l : List UInt8, Lib.cut l [c] = cutS c l
  | [] => rfl
  | b :: l => by
    have ih := cut_one c l
    have hg := Lib.index_ge l [c]
    unfold Lib.cut at ih ⊢
    unfold cutS Lib.index
    by_cases hb : b = c
    · subst hb
      simp
    · rw [if_neg hb]
      have hp : List.isPrefixOf [c] (b :: l) = false := by
        simp [List.isPrefixOf]
        exact fun h => hb h.symm
      rw [hp]
      simp only [Bool.false_eq_true, if_false]
      rw [← ih]
      by_cases hx : Lib.index l [c] = -1
      · simp [hx]
      · have h0 : 0 ≤ Lib.index l [c] := by omega
        have hx' : (Lib.index l [c] == -1) = false := by simpa using hx
        have h1 : 0 ≤ Lib.index l [c] + 1 := by omega
        rw [hx']
        simp only [Bool.false_eq_true, if_false]
        rw [if_pos h0, if_pos h1]
        have e1 : (Lib.index l [c] + 1).toNat = (Lib.index l [c]).toNat + 1 := by omega
        rw [e1]
        simp only [List.take_succ_cons, List.length_singleton, List.drop_succ_cons]
theorem cutS_len (c : UInt8) : ∀ l : List UInt8, (cutS c l).1.length ≤ l.length ∧ (cutS c l).2.1.length ≤ l.length
  | [] => ⟨Nat.le_refl _, Nat.le_refl _⟩
  | b :: l => by
    have ih := cutS_len c l
    unfold cutS
    split
    · simp
    · simp only [List.length_cons]; omega

/-- The library's variable MaxLen holds a number. -/
def MaxV (w : World) : Prop := ∃ m : Int, w.cell? ⟨1, 0, none⟩ = some (.int .i64 m)
theorem MaxV.below {w w' : World} (h : MaxV w) (hb : Below w.heap.size w w') : MaxV w' := by
  obtain ⟨m, hm⟩ := h
  exact ⟨m, (hb.cell (p := ⟨1, 0, none⟩) (World.block_lt_of_cell? w _ hm)).trans hm⟩


end Go.Proofs.YtbpopmbabckojaaGreatDoor.Sp

/- Same; start.seen; what strings.Cut and CutPrefix give; version. -/
namespace Go.Proofs.YtbpopmbabckojaaGreatDoor.Sp
open Go.RowKit


/-! ### seen -/
def seenB (c : UInt8) : Bool := decide (33 ≤ c.toNat) && decide (c.toNat ≤ 126)
def seenS (l : List UInt8) : Bool := !l.isEmpty && l.all seenB
def outV (r : Nat) : Bool := decide (r < 33) || decide (126 < r)

theorem decode_low (s : ByteArray) (i : Nat) (hi : i < s.size) (h : (Utf8.decode s i).1 < 128) : s[i].toNat < 128 := by
  rw [← get_bang s i hi]
  rcases Nat.lt_or_ge (s.get! i).toNat 128 with h1 | h1
  · exact h1
  · exfalso
    unfold Utf8.decode at h
    simp only [Nat.add_zero] at h
    rw [if_neg (by omega)] at h
    unfold Utf8.runeError at h
    repeat' split at h
    all_goals first | (simp at h; done) | (simp at *; omega)

theorem seen_f {c : UInt8} (h : ¬ (33 ≤ c.toNat ∧ c.toNat ≤ 126)) : seenB c = false := by unfold seenB; simp; omega
theorem seen_t {c : UInt8} (h : 33 ≤ c.toNat ∧ c.toNat ≤ 126) : seenB c = true := by unfold seenB; simp; omega
theorem out_t {n : Nat} (h : outV n = true) : n < 33 ∨ 126 < n := by unfold outV at h; simp at h; omega
theorem out_f {n : Nat} (h : ¬ outV n = true) : 33 ≤ n ∧ n ≤ 126 := by unfold outV at h; simp at h; omega

theorem idx_from (s : ByteArray) : ∀ (f pos : Nat), s.size ≤ pos + f → ((Lib.idxFuncFrom outV true s f pos = -1 ∧ (s.data.toList.drop pos).all seenB = true) ∨ (0 ≤ Lib.idxFuncFrom outV true s f pos ∧ (s.data.toList.drop pos).all seenB = false))
  | 0, pos, h => by
    refine .inl ⟨rfl, ?_⟩
    rw [List.drop_eq_nil_of_le (by simpa using h)]; rfl
  | f + 1, pos, h => by
    unfold Lib.idxFuncFrom
    by_cases hp : pos < s.size
    · rw [if_pos hp]
      have hd := drop_cons s pos hp
      by_cases hr : outV (Utf8.decode s pos).1 = true
      · rw [if_pos hr]
        refine .inr ⟨by omega, ?_⟩
        rw [hd, List.all_cons]
        have : seenB s[pos] = false := by
          refine seen_f fun hc => ?_
          rw [decode_ascii s pos hp (by omega)] at hr
          have := out_t hr
          simp at this
          omega
        rw [this]; rfl
      · rw [if_neg hr]
        have hlow := out_f hr
        have h1 := decode_low s pos hp (by omega)
        rw [decode_ascii s pos hp h1] at hr ⊢
        rw [hd, List.all_cons, seen_t (out_f hr), Bool.true_and]
        exact idx_from s f (pos + 1) (by omega)
    · rw [if_neg hp]
      refine .inl ⟨rfl, ?_⟩
      rw [List.drop_eq_nil_of_le (by simpa using hp)]; rfl

theorem idx_seen (s : ByteArray) : decide (Lib.idxFunc outV true s < 0) = s.data.toList.all seenB := by
  have := idx_from s s.size 0 (by omega)
  unfold Lib.idxFunc
  rw [List.drop_zero] at this
  rcases this with ⟨a, b⟩ | ⟨a, b⟩
  · rw [a, b]; rfl
  · rw [b]; simp; exact a

theorem out_pred (w : World) : PredAt Tryz.prog 112 #[] encR outV w := by
  intro W x _
  show Calls Tryz.prog 112 #[.int .i32 x] W _
  go_enter Tryz.func112, Tryz.ntmps112
  go_wp2
  all_goals go_ret
  all_goals refine ⟨ret_bool ?_, 0, rfl⟩
  all_goals (unfold outV; first | (have h : x < 33 := (by omega); simp [h]; done) | (have h : ¬ x < 33 := (by omega); simp [h]; omega))

theorem seenS_of (l : List UInt8) (h : l ≠ []) : seenS l = l.all seenB := by
  unfold seenS; cases l with
  | nil => exact absurd rfl h
  | cons c t => rfl
theorem seen_any (s : ByteArray) (w : World) :
    Calls Tryz.prog 90 #[.string s] w fun e w' => e = .returned (.bool (seenS s.data.toList)) ∧ Below w.heap.size w w' := by
  have hi := Lib.hid (idx_seen s)
  rcases empty_case s with ⟨he, he2⟩ | ⟨he, he2⟩
  · have HE := Lib.hid he2
    clear he2
    go_enter Tryz.func90, Tryz.ntmps90
    go_wp2_with fail
    go_ret
    exact ⟨ret_bool (by rw [HE.out]; rfl), Below.refl _ _⟩
  · have HE := Lib.hid he2
    clear he2
    go_enter Tryz.func90, Tryz.ntmps90
    go_wp2_with fail
    refine (Tryz.strings_IndexFunc 112 #[] (fun _ _ => by kernel_rfl) outV s _ (out_pred _)).mono ?_; rintro e w1 ⟨rfl, hb1⟩
    go_wp2_with fail
    go_ret
    exact ⟨ret_bool (by rw [seenS_of _ HE.out]; exact hi.out), hb1⟩

/-! ### cuts -/




/-! ### version -/
def verC (a b c : UInt8) : Int × Int :=
  if digI a.toNat = true ∧ b.toNat = 46 ∧ digI c.toNat = true then (if a.toNat ≠ 49 ∨ 49 < c.toNat then (0, 505) else ((c.toNat : Int) - 48, 0)) else (0, 400)
def verP : List UInt8 := [72, 84, 84, 80, 47]
def ver (l : List UInt8) : Int × Int := if Lib.hasPrefix l verP = true ∧ (l.drop 5).length = 3 then verC (l.getD 5 0) (l.getD 6 0) (l.getD 7 0) else (0, 400)

theorem verC_bad {a b c : UInt8} (h : ¬ (digI a.toNat = true ∧ b.toNat = 46 ∧ digI c.toNat = true)) : verC a b c = (0, 400) := by unfold verC; rw [if_neg h]
theorem verC_other {a b c : UInt8} (h : digI a.toNat = true ∧ b.toNat = 46 ∧ digI c.toNat = true) (h2 : a.toNat ≠ 49 ∨ 49 < c.toNat) : verC a b c = (0, 505) := by unfold verC; rw [if_pos h, if_pos h2]
theorem verC_ok {a b c : UInt8} (h : digI a.toNat = true ∧ b.toNat = 46 ∧ digI c.toNat = true) (h2 : ¬ (a.toNat ≠ 49 ∨ 49 < c.toNat)) : verC a b c = ((c.toNat : Int) - 48, 0) := by unfold verC; rw [if_pos h, if_neg h2]
theorem ret_pair {a b c d : Int} (h : (a, b) = (c, d)) : Ending.returned (.tuple #[.int .i64 a, .int .i64 b]) = .returned (.tuple #[.int .i64 c, .int .i64 d]) := by
  cases h; rfl
theorem getD_drop (l : List UInt8) (r : ByteArray) (h : r.data.toList = l.drop 5) (i : Nat) (hi : i < r.size) : l.getD (5 + i) 0 = r[i] := by
  have h1 : r.data.toList[i]? = some r[i] := by
    have : i < r.data.toList.length := by simpa using hi
    rw [List.getElem?_eq_getElem this]; rfl
  rw [h, List.getElem?_drop] at h1
  simp [List.getD, h1]

end Go.Proofs.YtbpopmbabckojaaGreatDoor.Sp

/- start.Request. -/
namespace Go.Proofs.YtbpopmbabckojaaGreatDoor.Sp
open Go.RowKit

def reqOK (l : List UInt8) : Bool := (cutS 32 l).2.2 && (cutS 32 (cutS 32 l).2.1).2.2 && tokenS (cutS 32 l).1 && seenS (cutS 32 (cutS 32 l).2.1).1
def reqV (l : List UInt8) : Int × Int := ver (cutS 32 (cutS 32 l).2.1).2.1
/-- the method, the target, the version's second number, the status -/
def req (l : List UInt8) : List UInt8 × List UInt8 × Int × Int :=
  if reqOK l = true then (if (reqV l).2 = 0 then ((cutS 32 l).1, (cutS 32 (cutS 32 l).2.1).1, reqV l) else ([], [], reqV l)) else ([], [], 0, 400)


def ReqPost (s : ByteArray) (w : World) (e : Ending) (w' : World) : Prop :=
  e = .returned (.tuple #[.string ⟨(req s.data.toList).1.toArray⟩, .string ⟨(req s.data.toList).2.1.toArray⟩, .int .i64 (req s.data.toList).2.2.1, .int .i64 (req s.data.toList).2.2.2]) ∧ Below w.heap.size w w'

theorem req_bad (s : ByteArray) (w w' : World) (h : reqOK s.data.toList = false) (hb : Below w.heap.size w w') : ReqPost s w (.returned (.tuple #[.string ⟨#[]⟩, .string ⟨#[]⟩, .int .i64 0, .int .i64 400])) w' := by
  unfold ReqPost req
  rw [h]
  exact ⟨rfl, hb⟩

theorem req_ok (s m t : ByteArray) (p : Int × Int) (w w' : World) (h : reqOK s.data.toList = true) (hv : reqV s.data.toList = p) (h0 : p.2 = 0) (hm : m.data.toList = (cutS 32 s.data.toList).1) (ht : t.data.toList = (cutS 32 (cutS 32 s.data.toList).2.1).1) (hb : Below w.heap.size w w') :
    ReqPost s w (.returned (.tuple #[.string m, .string t, .int .i64 p.1, .int .i64 p.2])) w' := by
  unfold ReqPost req
  rw [if_pos h, hv, if_pos h0, ← hm, ← ht]
  exact ⟨rfl, hb⟩
theorem req_ver (s : ByteArray) (p : Int × Int) (w w' : World) (h : reqOK s.data.toList = true) (hv : reqV s.data.toList = p) (h0 : ¬ p.2 = 0) (hb : Below w.heap.size w w') :
    ReqPost s w (.returned (.tuple #[.string ⟨#[]⟩, .string ⟨#[]⟩, .int .i64 p.1, .int .i64 p.2])) w' := by
  unfold ReqPost req
  rw [if_pos h, hv, if_neg h0]
  exact ⟨rfl, hb⟩

end Go.Proofs.YtbpopmbabckojaaGreatDoor.Sp

/- sync.Once, one goroutine, whatever function is handed to it: the lock, the two calls that doSlow defers, doSlow, Do. -/
namespace Go.Proofs.YtbpopmbabckojaaGreatDoor.Sp
open Go.RowKit

theorem raceDisable (w : World) : (callFunc 178 #[]).run Tryz.prog w = .ok (.value (.tuple #[])) w := run_call_mark0 Tryz.func178 (by kernel_rfl) (by kernel_rfl) (by kernel_rfl) .disable (by kernel_rfl) w
theorem raceEnable (w : World) : (callFunc 180 #[]).run Tryz.prog w = .ok (.value (.tuple #[])) w := run_call_mark0 Tryz.func180 (by kernel_rfl) (by kernel_rfl) (by kernel_rfl) .enable (by kernel_rfl) w
theorem raceAcquire (a : Addr) (w : World) : (callFunc 181 #[.pointer (some a)]).run Tryz.prog w = .ok (.value (.tuple #[])) w := run_call_marked Tryz.func181 (by kernel_rfl) (by kernel_rfl) (by kernel_rfl) .acquire (by kernel_rfl) a w
theorem raceRelease (a : Addr) (w : World) : (callFunc 183 #[.pointer (some a)]).run Tryz.prog w = .ok (.value (.tuple #[])) w := run_call_marked Tryz.func183 (by kernel_rfl) (by kernel_rfl) (by kernel_rfl) .releaseMerge (by kernel_rfl) a w

/-- '(*sync/atomic.Bool).Store(true)', entered as a deferred call: the cell holds 1. -/
theorem store_deferred (a : Addr) (x : Value) (u : FrameMode) (w : World) (hc : w.cell? a = some x) (hz : w.frozen? a = false) :
    CallsD Tryz.prog 166 #[.pointer (some a), .bool true] u w fun e u' w' => u' = u ∧ (e = .returned (.tuple #[]) ∧ w' = w.drew.setCell a (.int .u32 1)) := by
  have hc' : w.drew.cell? a = some x := by go_simp
  have hz' : w.drew.frozen? a = false := by go_simp
  have hst := run_call_store (P := Tryz.prog) Tryz.func174 (by kernel_rfl) (by kernel_rfl) (by kernel_rfl) (by kernel_rfl) (k := .u32) (y := 1) hc' hz'
  go_enter_d Tryz.func166, Tryz.ntmps166
  go_wp2
  go_region_calls
  all_goals (go_end0; exact ⟨rfl, rfl⟩)

set_option maxRecDepth 100000 in
set_option maxHeartbeats 1600000 in
/-- '(*sync.Mutex).Unlock', entered as a deferred call, the lock held and nobody waiting (state 1): state 0. -/
theorem unlock_deferred (a : Addr) (u : FrameMode) (w : World) (hc : w.cell? a = some (.int .i32 1)) (hz : w.frozen? a = false) :
    CallsD Tryz.prog 165 #[.pointer (some a)] u w fun e u' w' => u' = u ∧ (e = .returned (.tuple #[]) ∧ w' = w.setCell a (.int .i32 0)) := by
  have hd := raceDisable
  have he := raceEnable
  have hr := raceRelease
  have hadd := run_call_add (P := Tryz.prog) Tryz.func184 (by kernel_rfl) (by kernel_rfl) (by kernel_rfl) .i32 (by kernel_rfl) (y := -1) (s := 0) hc hz (by simp [go_sem]; rfl)
  have hcv := run_convert_to_unsafe (P := Tryz.prog) (src := 226) (dst := 117) Tryz.underlying226 Tryz.underlying117 (by kernel_rfl) hc
  go_enter_d Tryz.func165, Tryz.ntmps165
  go_wp2
  go_end0
  go_wp2
  all_goals (go_end0; exact ⟨rfl, rfl⟩)

set_option maxRecDepth 100000 in
set_option maxHeartbeats 1600000 in
/-- '(*sync.Mutex).Lock', the lock free (state 0): state 1. -/
theorem lock_free (a : Addr) (w : World) (hc : w.cell? a = some (.int .i32 0)) (hz : w.frozen? a = false) :
    Calls Tryz.prog 164 #[.pointer (some a)] w fun e w' => e = .returned (.tuple #[]) ∧ w' = w.setCell a (.int .i32 1) := by
  have hd := raceDisable
  have he := raceEnable
  have ha := raceAcquire
  have hcas := run_call_cas_hit (P := Tryz.prog) Tryz.func179 (by kernel_rfl) (by kernel_rfl) (by kernel_rfl) .i32 (by kernel_rfl) (y := 1) hc hz
  have hc' : (w.setCell a (.int .i32 1)).cell? a = some (.int .i32 1) := World.cell?_setCell_same w a _ hc
  have hcv := run_convert_to_unsafe (P := Tryz.prog) (src := 226) (dst := 117) Tryz.underlying226 Tryz.underlying117 (by kernel_rfl) hc'
  go_enter Tryz.func164, Tryz.ntmps164
  go_wp2
  first | go_end0 | (simp only [Exit.inBlock, Exit.then]; refine bodyPost_ret (results_none rfl _ _ _) rfl ?_) | refine bodyPost_ret (results_none rfl _ _ _) rfl ?_
  go_wp2
  all_goals (go_end0; exact ⟨rfl, rfl⟩)

/-- what the function handed to Do leaves: the Once's cells as they were, and R -/
structure OnceKept (b off : Nat) (R : World → Prop) (w : World) : Prop where
  done : w.cell? ⟨b, off, none⟩ = some (.int .u32 0)
  state : w.cell? ⟨b, off + 1, none⟩ = some (.int .i32 1)
  f0 : w.frozen? ⟨b, off, none⟩ = false
  f1 : w.frozen? ⟨b, off + 1, none⟩ = false
  rest : R w

set_option maxRecDepth 100000 in
set_option maxHeartbeats 1600000 in
theorem slow_any (b off : Nat) (g : FuncId) (first : Array Value) (eg : ∀ args w, (callFunc g args).run Tryz.prog w = .ok (.enter g args) w) (w : World) (R : World → Prop)
    (h0 : w.cell? ⟨b, off, none⟩ = some (.int .u32 0)) (h1 : w.cell? ⟨b, off + 1, none⟩ = some (.int .i32 0))
    (f0 : w.frozen? ⟨b, off, none⟩ = false) (f1 : w.frozen? ⟨b, off + 1, none⟩ = false)
    (hg : Calls Tryz.prog g first (w.setCell ⟨b, off + 1, none⟩ (.int .i32 1)) fun e w' => e = .returned (.tuple #[]) ∧ OnceKept b off R w') :
    Calls Tryz.prog 157 #[.pointer (some ⟨b, off, none⟩), .func (.func g) first #[]] w fun e w' => e = .returned (.tuple #[]) ∧ ∃ w1, R w1 ∧ w' = (w1.drew.setCell ⟨b, off, none⟩ (.int .u32 1)).setCell ⟨b, off + 1, none⟩ (.int .i32 0) := by
  have hl := run_call_load (P := Tryz.prog) Tryz.func163 (by kernel_rfl) (by kernel_rfl) (by kernel_rfl) .u32 (by kernel_rfl) (w := w.setCell ⟨b, off + 1, none⟩ (.int .i32 1)) (a := ⟨b, off, none⟩) (x := 0) ((World.cell?_setCell_other _ ⟨b, off + 1, none⟩ ⟨b, off, none⟩ _ (by simp)).trans h0)
  have hnot : ∀ (x : Bool) (w : World), (Op.unary .not (.bool x)).run Tryz.prog w = .ok (.bool (!x)) w := fun _ _ => rfl
  have HG := hide hg
  clear hg
  go_enter_defers Tryz.func157, Tryz.ntmps157
  go_wp2_with (go_at_call 164; refine (lock_free ⟨b, off + 1, none⟩ _ (by go_simp) (by go_simp)).mono ?_; rintro e w' ⟨rfl, rfl⟩)
  go_wp2_with (first
    | (go_at_fn g; refine (unhide HG).mono ?_; rintro e w1 ⟨rfl, hk⟩; have HK := hide hk; clear hk)
    | (go_at_call 156; go_in))
  have hk := unhide HK
  refine leaves_cons (f := 166) (args := #[.pointer (some ⟨b, off, none⟩), .bool true]) (by simp) (by simp [go_sem]) ?_
  refine (store_deferred ⟨b, off, none⟩ (.int .u32 0) .returning _ hk.done hk.f0).mono ?_
  rintro e u' w'' ⟨rfl, rfl, rfl⟩
  refine leaves_cons (f := 165) (args := #[.pointer (some ⟨b, off + 1, none⟩)]) (by simp [settle]) (by simp [go_sem]) ?_
  refine (unlock_deferred ⟨b, off + 1, none⟩ _ _ ?_ ?_).mono ?_
  · refine (World.cell?_setCell_other _ ⟨b, off, none⟩ ⟨b, off + 1, none⟩ _ (by simp)).trans ?_
    rw [World.cell?_drew]
    exact hk.state
  · rw [World.frozen?_setCell]
    exact hk.f1
  rintro e u' w'' ⟨rfl, rfl, rfl⟩
  simp [Leaves, settle, results, Tryz.results157]
  exact ⟨w1, hk.rest, rfl⟩

set_option maxRecDepth 100000 in
set_option maxHeartbeats 1600000 in
theorem do_first (b off : Nat) (g : FuncId) (first : Array Value) (eg : ∀ args w, (callFunc g args).run Tryz.prog w = .ok (.enter g args) w) (w : World) (R : World → Prop)
    (h0 : w.cell? ⟨b, off, none⟩ = some (.int .u32 0)) (h1 : w.cell? ⟨b, off + 1, none⟩ = some (.int .i32 0))
    (f0 : w.frozen? ⟨b, off, none⟩ = false) (f1 : w.frozen? ⟨b, off + 1, none⟩ = false)
    (hg : Calls Tryz.prog g first (w.setCell ⟨b, off + 1, none⟩ (.int .i32 1)) fun e w' => e = .returned (.tuple #[]) ∧ OnceKept b off R w') :
    Calls Tryz.prog 148 #[.pointer (some ⟨b, off, none⟩), .func (.func g) first #[]] w fun e w' => e = .returned (.tuple #[]) ∧ ∃ w1, R w1 ∧ w' = (w1.drew.setCell ⟨b, off, none⟩ (.int .u32 1)).setCell ⟨b, off + 1, none⟩ (.int .i32 0) := by
  have hl := run_call_load (P := Tryz.prog) Tryz.func163 (by kernel_rfl) (by kernel_rfl) (by kernel_rfl) .u32 (by kernel_rfl) h0
  have hnot : ∀ (x : Bool) (w : World), (Op.unary .not (.bool x)).run Tryz.prog w = .ok (.bool (!x)) w := fun _ _ => rfl
  have HS := hide (slow_any b off g first eg w R h0 h1 f0 f1 hg)
  clear hg
  go_enter Tryz.func148, Tryz.ntmps148
  go_wp2_with (first
    | (go_at_call 157; refine (unhide HS).mono ?_; rintro e w' ⟨rfl, w1, hr, rfl⟩; have HR := hide hr; clear hr)
    | (go_at_call 156; go_in))
  go_end0
  exact ⟨rfl, w1, unhide HR, rfl⟩
end Go.Proofs.YtbpopmbabckojaaGreatDoor.Sp

/- Slices: what a slice reads as; one element more. -/
namespace Go.Proofs.YtbpopmbabckojaaGreatDoor.Sl
open Go.RowKit

/-- The slice value v, of n elements of sz cells each, reads in w as xs. -/
def Rd (w : World) (v : Value) (n sz : Nat) (xs : List Value) : Prop :=
  ∃ (ao : Option Addr) (cap : Nat), v = .slice ao n cap ∧ n ≤ cap ∧ (ao = none → cap = 0) ∧ xs.length = n * sz ∧ (xs ≠ [] → ∃ b off, ao = some ⟨b, off, none⟩ ∧ b < w.heap.size ∧ ∀ i u, xs[i]? = some u → w.cell? ⟨b, off + i, none⟩ = some u)

section
variable {w w' : World} {v : Value} {n sz : Nat} {xs : List Value}
theorem Rd.below (h : Rd w v n sz xs) (hb : Below w.heap.size w w') : Rd w' v n sz xs := by
  obtain ⟨ao, cap, e, hcp, hz, hl, hc⟩ := h
  refine ⟨ao, cap, e, hcp, hz, hl, fun hne => ?_⟩
  obtain ⟨b, off, e2, hlt, hc⟩ := hc hne
  exact ⟨b, off, e2, Nat.lt_of_lt_of_le hlt hb.size, fun i u hu => (hb.cell (p := ⟨b, off + i, none⟩) hlt).trans (hc i u hu)⟩
theorem Rd.alloc (h : Rd w v n sz xs) (o : Obj) : Rd (w.alloc o) v n sz xs := h.below ((Below.refl _ _).alloc (Nat.le_refl _) o)
theorem Rd.form (h : Rd w v n sz xs) : ∃ ao cap, v = .slice ao n cap := by obtain ⟨ao, cap, e, _⟩ := h; exact ⟨ao, cap, e⟩
theorem Rd.len (h : Rd w v n sz xs) : xs.length = n * sz := by obtain ⟨_, _, _, _, _, e, _⟩ := h; exact e
theorem Rd.nil (w : World) (sz : Nat) : Rd w (.slice none 0 0) 0 sz [] := ⟨none, 0, rfl, Nat.le_refl _, fun _ => rfl, by simp, fun h => absurd rfl h⟩
theorem Rd.own {base : Nat} {e : TypeId} (h : w.ownsRow base e sz v n xs) : Rd w v n sz xs := by
  rcases h with ⟨hl, ⟨rfl, rfl⟩ | ⟨g, cap, cur, rfl, hb, hh, hnc, hcm, hcs, ht⟩⟩
  · refine ⟨none, 0, rfl, Nat.le_refl _, fun _ => rfl, hl, fun hne => ?_⟩
    rw [Nat.zero_mul] at hl
    exact absurd (List.eq_nil_of_length_eq_zero hl) hne
  · refine ⟨some ⟨g, 0, none⟩, cap, rfl, hnc, (fun h => by cases h), hl, fun _ => ⟨g, 0, rfl, ?_, fun i u hu => ?_⟩⟩
    · rcases Nat.lt_or_ge g w.heap.size with h' | h'
      · exact h'
      · rw [Array.getElem?_eq_none h'] at hh; cases hh
    · rw [Nat.zero_add, cell_of_row w g i cur e (0, 0) hh]
      rw [← ht, List.getElem?_take] at hu
      split at hu
      · rw [← hu]; simp
      · cases hu
end

/-- A row of the call's own, not known to be new: what it reads as; what was there below base is as it was. -/
structure Own (w0 w : World) (base : Nat) (e : TypeId) (sz : Nat) (v : Value) (n : Nat) (xs : List Value) : Prop where
  own : w.ownsRow base e sz v n xs
  bel : Below base w0 w
  le : base ≤ w.heap.size

theorem Own.start (w0 : World) (base : Nat) (h : base ≤ w0.heap.size) (e : TypeId) (sz : Nat) : Own w0 w0 base e sz (.slice none 0 0) 0 [] := ⟨World.ownsRow_nil _ _ _ _, Below.refl _ _, h⟩
theorem Own.call {w0 w w' : World} {base : Nat} {e : TypeId} {sz : Nat} {v : Value} {n : Nat} {xs : List Value} (h : Own w0 w base e sz v n xs) (hb : Below w.heap.size w w') : Own w0 w' base e sz v n xs :=
  ⟨h.own.kept (row := none) ⟨hb.os, hb.tape, hb.output, hb.size, fun k hk _ => hb.block k hk⟩ (by
    cases hv : v.ownBlock with
    | none => exact .inl rfl
    | some g => exact .inr (by simp)), h.bel.trans (hb.mono h.le), Nat.le_trans h.le hb.size⟩
theorem Own.alloc {w0 w : World} {base : Nat} {e : TypeId} {sz : Nat} {v : Value} {n : Nat} {xs : List Value} (h : Own w0 w base e sz v n xs) (o : Obj) : Own w0 (w.alloc o) base e sz v n xs :=
  h.call ((Below.refl _ _).alloc (Nat.le_refl _) o)

theorem row_base {w : World} {base : Nat} {e : TypeId} {sz : Nat} {v : Value} {n : Nat} {xs : List Value} (h : w.ownsRow base e sz v n xs) : ∀ k, v.ownBlock = some k → base ≤ k := fun k hk => (h.lt k hk).1

variable {P : Program} {ops : Array Oper} {rest : List Oper} {o : Oper} {a : Act} {w : World} {Q : Exit → Act → World → Prop}

/-- append(out, u): u was laid in a new block just before. -/
theorem wpList_push {wr w0 : World} (hgd : o.guard = none) (s x : Operand) (t : TypeId) (ho : o.op = .call { callee := .builtin .append, args := #[s, x], argTypes := #[t, t] })
    (base : Nat) (e : TypeId) (i : TypeInfo) (z : Value) (size bytes : Nat) (ht : P.underlying t = some (.slice e)) (hi : P.info? e = some i) (hz : i.zero = some z) (hsize : i.size = size) (hby : i.bytes = bytes) (hzs : z.cells.size = size) (hsz : 0 < size)
    (v : Value) (n : Nat) (xs : List Value) (hs : a.eval s = v) (hown : Own w0 wr base e size v n xs) (us : List Value) (hw : w = wr.alloc (.cells us.toArray e)) (hlen : us.length = size) (h1 : ∀ u ∈ us, u.oneCell' = true)
    (c : Nat) (hx : a.eval x = .slice (some ⟨wr.heap.size, 0, none⟩) 1 c) (hn : (n + 1) * bytes ≤ 140737488355328) (hn2 : n + 1 ≤ maxLen)
    (h : ∀ v' w1, Own w0 w1 base e size v' (n + 1) (xs ++ us) → wpList P ops Q rest (a.put o.dst v') w1) : wpList P ops Q (o :: rest) a w := by
  subst hw
  have hA := hown.alloc (.cells us.toArray e)
  refine wpList_append_own _ hgd s x t ho base e i z size bytes ht hi hz hsize hby hzs hsz v n xs hs hA.own ⟨wr.heap.size, 0, none⟩ 1 c us hx (by omega) (fun j u hu => ?_) h1 hn2 hn hA.le (fun v' w' h2 h3 _ => ?_)
  · rw [Addr.add_mid, Nat.zero_add, World.cell?_alloc_at _ _ _ _ rfl]
    simpa using hu
  · refine h v' w' ⟨h2, hA.bel.grown h3 hA.le (row_base hA.own), Nat.le_trans hA.le h3.size⟩

/-- append(out, u...): u any slice that reads as news. -/
theorem wpList_pushAll {w0 : World} (hgd : o.guard = none) (s x : Operand) (t : TypeId) (ho : o.op = .call { callee := .builtin .append, args := #[s, x], argTypes := #[t, t] })
    (base : Nat) (e : TypeId) (i : TypeInfo) (z : Value) (size bytes : Nat) (ht : P.underlying t = some (.slice e)) (hi : P.info? e = some i) (hz : i.zero = some z) (hsize : i.size = size) (hby : i.bytes = bytes) (hzs : z.cells.size = size) (hsz : 0 < size)
    (v : Value) (n : Nat) (xs : List Value) (hs : a.eval s = v) (hown : Own w0 w base e size v n xs) (u : Value) (m : Nat) (news : List Value) (hr : Rd w u m size news) (hx : a.eval x = u) (h1 : ∀ y ∈ news, y.oneCell' = true)
    (hn : (n + m) * bytes ≤ 140737488355328) (hn2 : n + m ≤ maxLen)
    (h : ∀ v' w1, Own w0 w1 base e size v' (n + m) (xs ++ news) → wpList P ops Q rest (a.put o.dst v') w1) : wpList P ops Q (o :: rest) a w := by
  obtain ⟨ao, cap, rfl, hcp, hzr, hl, hc⟩ := hr
  cases ao with
  | none =>
    obtain rfl := hzr rfl
    obtain rfl : m = 0 := by omega
    have hnil : news = [] := List.eq_nil_of_length_eq_zero (by omega)
    subst hnil
    exact wpList_append_own_none hgd s x t ho base e i size ht hi v n xs hs hown.own hx (h v w (by simpa using hown))
  | some ad =>
    refine wpList_append_own _ hgd s x t ho base e i z size bytes ht hi hz hsize hby hzs hsz v n xs hs hown.own ad m cap news hx hl (fun j y hy => ?_) h1 hn2 hn hown.le (fun v' w' h2 h3 _ => ?_)
    · have hne : news ≠ [] := by intro e; subst e; simp at hy
      obtain ⟨b, off, e, _, hcc⟩ := hc hne
      cases e
      rw [Addr.add_mid]
      exact hcc j y hy
    · exact h v' w' ⟨h2, hown.bel.grown h3 hown.le (row_base hown.own), Nat.le_trans hown.le h3.size⟩
end Go.Proofs.YtbpopmbabckojaaGreatDoor.Sl

/- Plain: the parts of a text between commas. -/
namespace Go.Proofs.YtbpopmbabckojaaGreatDoor.Sp
open Go.RowKit

/-- a part without white at its ends -/
def trimW (l : List UInt8) : List UInt8 := Lib.trimS l [32, 9]
/-- the pieces between commas: cur the one under way, q: inside quotes -/
def pieces (q : Bool) (cur : List UInt8) : List UInt8 → List (List UInt8)
  | [] => [cur]
  | [c] => if (q && c == 92) = true then [cur ++ [c]] else if (c == 44 && !q) = true then [cur, []] else [cur ++ [c]]
  | c :: d :: t => if (q && c == 92) = true then pieces q (cur ++ [c, d]) t else if (c == 34) = true then pieces (!q) (cur ++ [c]) (d :: t) else if (c == 44 && !q) = true then cur :: pieces q [] (d :: t) else pieces q (cur ++ [c]) (d :: t)
def keep (ps : List (List UInt8)) : List (List UInt8) := (ps.map trimW).filter fun p => !p.isEmpty
def splitS (l : List UInt8) : List (List UInt8) := keep (pieces false [] l)

theorem keep_app (a b : List (List UInt8)) : keep (a ++ b) = keep a ++ keep b := by unfold keep; rw [List.map_append, List.filter_append]
theorem keep_one (p : List UInt8) : keep [p] = if (trimW p).isEmpty = true then [] else [trimW p] := by
  unfold keep
  cases h : (trimW p).isEmpty <;> simp [h]

theorem pieces_esc {q : Bool} {cur t : List UInt8} {c d : UInt8} (h : (q && c == 92) = true) : pieces q cur (c :: d :: t) = pieces q (cur ++ [c, d]) t := by
  rw [pieces, if_pos h]
theorem pieces_esc_end {q : Bool} {cur : List UInt8} {c : UInt8} (h : (q && c == 92) = true) : pieces q cur [c] = [cur ++ [c]] := by
  rw [pieces, if_pos h]
theorem pieces_quote {q : Bool} {cur t : List UInt8} {c : UInt8} (h : ¬ (q && c == 92) = true) (h2 : (c == 34) = true) : pieces q cur (c :: t) = pieces (!q) (cur ++ [c]) t := by
  cases t with
  | nil =>
    have h3 : ¬ (c == 44 && !q) = true := by
      rw [beq_iff_eq] at h2
      subst h2
      simp
    rw [pieces, pieces, if_neg h, if_neg h3]
  | cons d t => rw [pieces, if_neg h, if_pos h2]
theorem pieces_comma {q : Bool} {cur t : List UInt8} {c : UInt8} (h : ¬ (q && c == 92) = true) (h2 : ¬ (c == 34) = true) (h3 : (c == 44 && !q) = true) : pieces q cur (c :: t) = cur :: pieces q [] t := by
  cases t with
  | nil => rw [pieces, pieces, if_neg h, if_pos h3]
  | cons d t => rw [pieces, if_neg h, if_neg h2, if_pos h3]
theorem pieces_else {q : Bool} {cur t : List UInt8} {c : UInt8} (h : ¬ (q && c == 92) = true) (h2 : ¬ (c == 34) = true) (h3 : ¬ (c == 44 && !q) = true) : pieces q cur (c :: t) = pieces q (cur ++ [c]) t := by
  cases t with
  | nil => rw [pieces, pieces, if_neg h, if_neg h3]
  | cons d t => rw [pieces, if_neg h, if_neg h2, if_neg h3]

/-- Where a reader of parts stands: from where the piece under way begins, i how far it is, q whether inside quotes, done the pieces behind it. -/
structure At (l : List UInt8) (fr i : Nat) (q : Bool) (done : List (List UInt8)) : Prop where
  le : fr ≤ i
  lt : i ≤ l.length
  eq : pieces false [] l = done ++ pieces q ((l.drop fr).take (i - fr)) (l.drop i)

theorem At.start (l : List UInt8) : At l 0 0 false [] := ⟨Nat.le_refl _, Nat.zero_le _, by simp⟩
theorem At.stop {l : List UInt8} {fr : Nat} {q : Bool} {done : List (List UInt8)} (h : At l fr l.length q done) : pieces false [] l = done ++ [l.drop fr] := by
  rw [h.eq, List.drop_length, pieces, List.take_of_length_le (by rw [List.length_drop]; exact Nat.le_refl _)]
theorem cur_snoc {l : List UInt8} {fr i : Nat} (h : fr ≤ i) (hi : i < l.length) : (l.drop fr).take (i - fr) ++ [l[i]] = (l.drop fr).take (i + 1 - fr) := by
  have e : i + 1 - fr = (i - fr) + 1 := by omega
  have hd : i - fr < (l.drop fr).length := by rw [List.length_drop]; omega
  rw [e, List.take_succ_eq_append_getElem hd, List.getElem_drop]
  congr 2
  congr 1
  omega
theorem drop_at {l : List UInt8} {i : Nat} (hi : i < l.length) : l.drop i = l[i] :: l.drop (i + 1) := List.drop_eq_getElem_cons hi

theorem At.esc {l : List UInt8} {fr i : Nat} {q : Bool} {done : List (List UInt8)} (h : At l fr i q done) (hi : i + 1 < l.length) (hc : (q && l[i] == 92) = true) : At l fr (i + 2) q done := by
  refine ⟨by have := h.le; omega, by omega, ?_⟩
  rw [h.eq, drop_at (by omega : i < l.length), drop_at hi, pieces_esc hc]
  congr 2
  rw [show ((l.drop fr).take (i - fr) ++ [l[i], l[i + 1]]) = ((l.drop fr).take (i - fr) ++ [l[i]]) ++ [l[i + 1]] by simp, cur_snoc h.le (by omega), cur_snoc (by have := h.le; omega) hi]
theorem At.esc_end {l : List UInt8} {fr i : Nat} {q : Bool} {done : List (List UInt8)} (h : At l fr i q done) (hi : i < l.length) (he : i + 1 = l.length) (hc : (q && l[i] == 92) = true) : pieces false [] l = done ++ [l.drop fr] := by
  rw [h.eq, drop_at hi, List.drop_eq_nil_of_le (show l.length ≤ i + 1 by omega), pieces_esc_end hc, cur_snoc h.le hi, List.take_of_length_le (by rw [List.length_drop]; omega)]
theorem At.quote {l : List UInt8} {fr i : Nat} {q : Bool} {done : List (List UInt8)} (h : At l fr i q done) (hi : i < l.length) (hc : ¬ (q && l[i] == 92) = true) (h2 : (l[i] == 34) = true) : At l fr (i + 1) (!q) done := by
  refine ⟨by have := h.le; omega, by omega, ?_⟩
  rw [h.eq, drop_at hi, pieces_quote hc h2, cur_snoc h.le hi]
theorem At.comma {l : List UInt8} {fr i : Nat} {q : Bool} {done : List (List UInt8)} (h : At l fr i q done) (hi : i < l.length) (hc : ¬ (q && l[i] == 92) = true) (h2 : ¬ (l[i] == 34) = true) (h3 : (l[i] == 44 && !q) = true) :
    At l (i + 1) (i + 1) q (done ++ [(l.drop fr).take (i - fr)]) := by
  refine ⟨Nat.le_refl _, by omega, ?_⟩
  rw [h.eq, drop_at hi, pieces_comma hc h2 h3]
  simp
theorem At.other {l : List UInt8} {fr i : Nat} {q : Bool} {done : List (List UInt8)} (h : At l fr i q done) (hi : i < l.length) (hc : ¬ (q && l[i] == 92) = true) (h2 : ¬ (l[i] == 34) = true) (h3 : ¬ (l[i] == 44 && !q) = true) : At l fr (i + 1) q done := by
  refine ⟨by have := h.le; omega, by omega, ?_⟩
  rw [h.eq, drop_at hi, pieces_else hc h2 h3, cur_snoc h.le hi]
/-- no more pieces than bytes -/
theorem pieces_len (l : List UInt8) : ∀ (n : Nat) (q : Bool) (cur : List UInt8) (l : List UInt8), l.length ≤ n → (pieces q cur l).length ≤ l.length + 1 := by
  intro n
  induction n with
  | zero =>
    intro q cur l h
    have : l = [] := List.eq_nil_of_length_eq_zero (by omega)
    subst this
    simp [pieces]
  | succ n ih =>
    intro q cur l h
    match l with
    | [] => simp [pieces]
    | [c] => rw [pieces]; repeat' split
             all_goals simp
    | c :: d :: t =>
      rw [pieces]
      simp only [List.length_cons] at h ⊢
      split
      · have := ih q (cur ++ [c, d]) t (by omega); omega
      · split
        · have := ih (!q) (cur ++ [c]) (d :: t) (by simp; omega); simp at this; omega
        · split
          · have := ih q [] (d :: t) (by simp; omega); simp at this ⊢; omega
          · have := ih q (cur ++ [c]) (d :: t) (by simp; omega); simp at this; omega
end Go.Proofs.YtbpopmbabckojaaGreatDoor.Sp

/- Plain: trimming from either end first; fields by name. -/
namespace Go.Proofs.YtbpopmbabckojaaGreatDoor.Sp
open Go.RowKit

/-! ### trimming -/
def whiteB (c : UInt8) : Bool := ([32, 9] : List UInt8).contains c
theorem right_cons (c : UInt8) (t : List UInt8) : Lib.trimRightS (c :: t) [32, 9] = if (Lib.trimRightS t [32, 9]).isEmpty = true then (if whiteB c = true then [] else [c]) else c :: Lib.trimRightS t [32, 9] := by
  unfold Lib.trimRightS
  rw [List.reverse_cons, List.dropWhile_append]
  cases h : (t.reverse.dropWhile fun x => ([32, 9] : List UInt8).contains x) with
  | nil =>
    simp only [List.isEmpty_nil, if_true, List.reverse_nil]
    by_cases hc : whiteB c = true
    · rw [if_pos hc, List.dropWhile_cons_of_pos (by exact hc)]; rfl
    · rw [if_neg hc, List.dropWhile_cons_of_neg (by exact hc)]; rfl
  | cons b r =>
    simp
theorem trim_comm : ∀ l : List UInt8, Lib.trimRightS (Lib.trimLeftS l [32, 9]) [32, 9] = trimW l
  | [] => rfl
  | c :: t => by
    have ih := trim_comm t
    unfold trimW Lib.trimS at ih ⊢
    by_cases hc : whiteB c = true
    · have h1 : Lib.trimLeftS (c :: t) [32, 9] = Lib.trimLeftS t [32, 9] := List.dropWhile_cons_of_pos (by exact hc)
      rw [h1, ih, right_cons, if_pos hc]
      cases h : Lib.trimRightS t [32, 9] with
      | nil => rfl
      | cons b r =>
        show _ = Lib.trimLeftS (c :: b :: r) [32, 9]
        exact (List.dropWhile_cons_of_pos (by exact hc)).symm
    · have h1 : Lib.trimLeftS (c :: t) [32, 9] = c :: t := List.dropWhile_cons_of_neg (by exact hc)
      rw [h1, right_cons, if_neg hc]
      cases h : Lib.trimRightS t [32, 9] with
      | nil => exact (List.dropWhile_cons_of_neg (by exact hc)).symm
      | cons b r => exact (List.dropWhile_cons_of_neg (by exact hc)).symm
theorem trim_len (l : List UInt8) : (trimW l).length ≤ l.length := by
  have h1 : ∀ m : List UInt8, (Lib.trimLeftS m [32, 9]).length ≤ m.length := fun m => (List.dropWhile_sublist _).length_le
  have h2 : ∀ m : List UInt8, (Lib.trimRightS m [32, 9]).length ≤ m.length := fun m => by
    unfold Lib.trimRightS
    rw [List.length_reverse]
    have := (List.dropWhile_sublist (fun x => ([32, 9] : List UInt8).contains x) (l := m.reverse)).length_le
    rwa [List.length_reverse] at this
  exact Nat.le_trans (h1 _) (h2 _)

/-! ### texts and fields -/
abbrev Fld := ByteArray × ByteArray
def ofL (l : List UInt8) : ByteArray := ⟨l.toArray⟩
theorem ofL_data (l : List UInt8) : (ofL l).data.toList = l := rfl
theorem ofL_of (x : ByteArray) : ofL x.data.toList = x := rfl
def strV (L : List ByteArray) : List Value := L.map .string
def fldV (L : List Fld) : List Value := L.flatMap fun f => [.string f.1, .string f.2]
theorem strV_len (L : List ByteArray) : (strV L).length = L.length * 1 := by simp [strV]
theorem fldV_len (L : List Fld) : (fldV L).length = L.length * 2 := by
  induction L with
  | nil => rfl
  | cons f t ih => unfold fldV at ih ⊢; rw [List.flatMap_cons, List.length_append, ih]; simp; omega
theorem strV_app (A B : List ByteArray) : strV (A ++ B) = strV A ++ strV B := by simp [strV]
theorem fldV_app (A B : List Fld) : fldV (A ++ B) = fldV A ++ fldV B := by simp [fldV]
theorem strV_get (L : List ByteArray) (i : Nat) (h : i < L.length) : (strV L)[i]? = some (.string L[i]) := by simp [strV, h]
theorem fldV_get : ∀ (L : List Fld) (i : Nat) (h : i < L.length), (fldV L)[i * 2]? = some (.string L[i].1) ∧ (fldV L)[i * 2 + 1]? = some (.string L[i].2)
  | [], _, h => absurd h (Nat.not_lt_zero _)
  | f :: t, 0, _ => ⟨rfl, rfl⟩
  | f :: t, i + 1, h => by
    have ih := fldV_get t i (by simp at h; omega)
    have e1 : (i + 1) * 2 = i * 2 + 2 := by omega
    rw [e1]
    show ([Value.string f.1, Value.string f.2] ++ fldV t)[i * 2 + 2]? = _ ∧ ([Value.string f.1, Value.string f.2] ++ fldV t)[i * 2 + 2 + 1]? = _
    exact ih
theorem strV_one (L : List ByteArray) : ∀ u ∈ strV L, u.oneCell' = true := by
  intro u hu
  obtain ⟨x, _, rfl⟩ := List.mem_map.1 hu
  rfl
theorem fldV_one (L : List Fld) : ∀ u ∈ fldV L, u.oneCell' = true := by
  intro u hu
  unfold fldV at hu
  obtain ⟨x, _, h⟩ := List.mem_flatMap.1 hu
  simp at h
  rcases h with rfl | rfl <;> rfl

def splitB (s : ByteArray) : List ByteArray := (splitS s.data.toList).map ofL
end Go.Proofs.YtbpopmbabckojaaGreatDoor.Sp

/- Slices of texts: one more, more; an element; small words. -/
namespace Go.Proofs.YtbpopmbabckojaaGreatDoor.Sp
open Go.RowKit Sl

section
variable {P : Program} {ops : Array Oper} {rest : List Oper} {o : Oper} {a : Act} {w : World} {Q : Exit → Act → World → Prop}
theorem wpList_pushS {wr w0 : World} (hgd : o.guard = none) (s x : Operand) (ho : o.op = .call { callee := .builtin .append, args := #[s, x], argTypes := #[51, 51] })
    (base : Nat) (v : Value) (n : Nat) (xs : List Value) (hs : a.eval s = v) (hown : Own w0 wr base 9 1 v n xs) (p : ByteArray) (hw : w = wr.alloc (.cells #[.string p] 9))
    (c : Nat) (hx : a.eval x = .slice (some ⟨wr.heap.size, 0, none⟩) 1 c) (hn : n ≤ 1000000)
    (h : ∀ v' w1, Own w0 w1 base 9 1 v' (n + 1) (xs ++ [.string p]) → wpList Tryz.prog ops Q rest (a.put o.dst v') w1) : wpList Tryz.prog ops Q (o :: rest) a w := by
  obtain ⟨i, hi, hz, h1, h2⟩ := info_parts (P := Tryz.prog) (e := 9) (z := .string ⟨#[]⟩) (size := 1) (bytes := 16) (by kernel_rfl)
  exact wpList_push hgd s x 51 ho base 9 i _ 1 16 Tryz.underlying51 hi hz h1 h2 rfl (by decide) v n xs hs hown [.string p] (by rw [hw]) rfl (by intro u hu; simp at hu; subst hu; rfl) c hx (by omega) (by unfold maxLen; omega) h
theorem wpList_pushAllS {w0 : World} (hgd : o.guard = none) (s x : Operand) (ho : o.op = .call { callee := .builtin .append, args := #[s, x], argTypes := #[51, 51] })
    (base : Nat) (v : Value) (n : Nat) (xs : List Value) (hs : a.eval s = v) (hown : Own w0 w base 9 1 v n xs) (u : Value) (L : List ByteArray) (hr : Rd w u L.length 1 (strV L)) (hx : a.eval x = u) (hn : n + L.length ≤ 1000000)
    (h : ∀ v' w1, Own w0 w1 base 9 1 v' (n + L.length) (xs ++ strV L) → wpList Tryz.prog ops Q rest (a.put o.dst v') w1) : wpList Tryz.prog ops Q (o :: rest) a w := by
  obtain ⟨i, hi, hz, h1, h2⟩ := info_parts (P := Tryz.prog) (e := 9) (z := .string ⟨#[]⟩) (size := 1) (bytes := 16) (by kernel_rfl)
  exact wpList_pushAll hgd s x 51 ho base 9 i _ 1 16 Tryz.underlying51 hi hz h1 h2 rfl (by decide) v n xs hs hown u L.length (strV L) hr hx (strV_one L) (by omega) (by unfold maxLen; omega) h
end

theorem str_cell {w : World} {ao : Option Addr} {n cap : Nat} {L : List ByteArray} (h : Rd w (.slice ao n cap) n 1 (strV L)) (k : Nat) (hk : k < L.length) :
    ∃ b off, ao = some ⟨b, off, none⟩ ∧ b < w.heap.size ∧ w.cell? ⟨b, off + k, none⟩ = some (.string L[k]) := by
  obtain ⟨ao', cap', e, _, _, _, hc⟩ := h
  cases e
  have hg := strV_get L k hk
  obtain ⟨b, off, rfl, hlt, hcc⟩ := hc (by intro e; rw [e] at hg; simp at hg)
  exact ⟨b, off, rfl, hlt, hcc _ _ hg⟩
theorem u8_ne {c : UInt8} {n : Nat} (hn : n < 256) (h : ¬ (c.toNat : Int) = n) : c ≠ UInt8.ofNat n := by
  intro e
  apply h
  rw [e]
  simp [Nat.mod_eq_of_lt hn]
theorem u8_eq {c : UInt8} {n : Nat} (h : (c.toNat : Int) = n) : c = UInt8.ofNat n := by
  have : c.toNat = n := by omega
  rw [← this, UInt8.ofNat_toNat]
theorem alloc_at (w : World) (o : Obj) : (w.alloc o).heap[w.heap.size]? = some o := by
  show (w.heap.push o)[w.heap.size]? = _
  simp
theorem run_slice_cell {w : World} {ad : Addr} {v : Value} (h : w.cell? ad = some v) : (loadVar 51 ad).run Tryz.prog w = .ok v w := by
  simp [loadVar, Tryz.underlying51, go_sem, h]
theorem rd_litS (w : World) (A : List ByteArray) (n : Nat) (hn : A.length = n) : Rd (w.alloc (.cells (strV A).toArray 9)) (.slice (some ⟨w.heap.size, 0, none⟩) n n) n 1 (strV A) := by
  subst hn
  refine ⟨_, _, rfl, Nat.le_refl _, (fun h => by cases h), (by unfold strV; rw [List.length_map, Nat.mul_one]), fun _ => ⟨w.heap.size, 0, rfl, by simp, fun i u hu => ?_⟩⟩
  rw [World.cell?_alloc_at _ _ _ _ rfl]
  simpa using hu
theorem u8_back (n : Int) (h : 0 ≤ n ∧ n ≤ 255) : ((UInt8.ofNat n.toNat).toNat : Int) = n := by
  have : n.toNat < 256 := by omega
  simp [Nat.mod_eq_of_lt this]
  omega
end Go.Proofs.YtbpopmbabckojaaGreatDoor.Sp

/- strings.NewReplacer at two single bytes that become two bytes each: made, built. -/
namespace Go.Proofs.YtbpopmbabckojaaGreatDoor.Sp
open Go.RowKit Sl

def repA : List ByteArray := [⟨#[34]⟩, ⟨#[92, 34]⟩, ⟨#[92]⟩, ⟨#[92, 92]⟩]
def nilS : Value := .slice none 0 0
/-- a replacer that is not yet built, in block b -/
structure RepNew (w : World) (b : Nat) (v : Value) : Prop where
  H : Reg.Has w b [.int .u32 0, .int .i32 0, .int .u32 0, .nilIface, v]
  R : Rd w v 4 1 (strV repA)

theorem newRep_any (v : Value) (w : World) (hv : Rd w v 4 1 (strV repA)) :
    Calls Tryz.prog 133 #[v] w fun e w' => ∃ b u, e = .returned (.pointer (some ⟨b, 0, none⟩)) ∧ w.heap.size ≤ b ∧ RepNew w' b u ∧ Below w.heap.size w w' := by
  obtain ⟨ao, cap, rfl⟩ := hv.form
  have HV := hide hv
  clear hv
  go_enter Tryz.func133, Tryz.ntmps133
  go_wp2_with (at_builtin; refine wpList_pushAllS (w0 := w) rfl _ _ rfl w.heap.size _ 0 [] rfl (Own.start w w.heap.size (Nat.le_refl _) _ _) _ repA (unhide HV) rfl (by decide) ?_; intro v1 w1 h1; obtain ⟨ao1, cp1, rfl⟩ := (Rd.own h1.own).form; have H1 := hide h1; clear h1)
  go_ret
  refine ⟨w1.heap.size, _, rfl, (unhide H1).le, ⟨Reg.Has.new w1 [.int .u32 0, .int .i32 0, .int .u32 0, .nilIface, _] 183, ?_⟩, (unhide H1).bel.alloc (unhide H1).le _⟩
  exact (Rd.own (unhide H1).own).alloc _
end Go.Proofs.YtbpopmbabckojaaGreatDoor.Sp

/- strings.NewReplacer: the table of a byteStringReplacer in memory. -/
namespace Go.Proofs.YtbpopmbabckojaaGreatDoor.Sp
open Go.RowKit Sl

/-- what the table holds: at the quote A, at the backslash B, and the list of what is replaced -/
def tabL (A B sl : Value) : List Value := ((List.replicate 256 nilS).set 34 A).set 92 B ++ [sl]
def tab0 (sl : Value) : Array Value := (Array.replicate 256 nilS).push sl
def tabZ : Array Value := (Array.replicate 256 nilS).push nilS
theorem tab0_eq (sl : Value) : (tab0 sl).toList = tabL nilS nilS sl := by kernel_rfl
theorem tabL_setA (A B sl u : Value) : (tabL A B sl).set 34 u = tabL u B sl := by kernel_rfl
theorem tabL_setB (A B sl u : Value) : (tabL A B sl).set 92 u = tabL A u sl := by kernel_rfl
theorem tabL_setS (A B sl u : Value) : (tabL A B sl).set 256 u = tabL A B u := by kernel_rfl
theorem tabL_S (A B sl : Value) : (tabL A B sl)[256]? = some sl := by kernel_rfl
theorem tabL_A (A B sl : Value) : (tabL A B sl)[34]? = some A := by kernel_rfl
theorem tabL_B (A B sl : Value) : (tabL A B sl)[92]? = some B := by kernel_rfl
theorem tabL_0 (A B sl : Value) : (tabL A B sl)[0]? = some nilS := by kernel_rfl
theorem tabL_len (A B sl : Value) : (tabL A B sl).length = 257 := by kernel_rfl
theorem tabL_no (A B sl : Value) (c : Nat) (h : c < 256) (h1 : c ≠ 34) (h2 : c ≠ 92) : (tabL A B sl)[c]? = some nilS := by
  unfold tabL
  rw [List.getElem?_append_left (by rw [List.length_set, List.length_set, List.length_replicate]; exact h), List.getElem?_set_ne (by omega), List.getElem?_set_ne (by omega), List.getElem?_replicate, if_pos h]

theorem built_tab (ao : Option Addr) (n c : Nat) : Tryz.prog.built 206 [(1, .slice ao n c)] = some (tab0 (.slice ao n c)) := by kernel_rfl
theorem zero_tab (w : World) : (zeroValue 206).run Tryz.prog w = .ok (.agg tabZ) w := by kernel_rfl

section
variable {ops : Array Oper} {rest : List Oper} {o : Oper} {a : Act} {w : World} {Q : Exit → Act → World → Prop}
theorem wpList_tabBuild (hgd : o.guard = none) (x : Operand) (ho : o.op = .build 206 #[(1, x)]) (ao : Option Addr) (n c : Nat) (hx : a.eval x = .slice ao n c)
    (h : wpList Tryz.prog ops Q rest (a.put o.dst (.agg (tab0 (.slice ao n c)))) w) : wpList Tryz.prog ops Q (o :: rest) a w := by
  refine wpList_plain hgd fun K hK => ?_
  have hc : Tryz.prog.built 206 ((#[(1, x)] : Array (Nat × Operand)).map fun (i, x) => (i, a.eval x)).toList = some (tab0 (.slice ao n c)) := by
    simp [hx]; exact built_tab ao n c
  unfold Oper.wp execOp
  simp only [ho, Sem.run_bind, run_build w _ _ _ hc, Result.andThen_ok]
  exact hK _ _ h
theorem run_tabAlloc (w : World) : (Instr.alloc 206 true (.tuple #[])).run Tryz.prog w = .ok (.pointer (some ⟨w.heap.size, 0, none⟩)) (w.alloc (.cells tabZ 206)) := by
  unfold Instr.alloc
  simp only [Sem.run_bind, zero_tab, Result.andThen_ok]
  simp [newVar, newRow, Value.cells]
theorem wpList_tabAlloc (hgd : o.guard = none) (ho : o.op = .alloc 206)
    (h : wpList Tryz.prog ops Q rest (a.put o.dst (.pointer (some ⟨w.heap.size, 0, none⟩))) (w.alloc (.cells tabZ 206))) : wpList Tryz.prog ops Q (o :: rest) a w := by
  refine wpList_plain hgd fun K hK => ?_
  unfold Oper.wp execOp
  simp only [ho, Sem.run_bind, run_tabAlloc, Result.andThen_ok]
  exact hK _ _ h
end

theorem has_tab0 (w : World) (v : Value) : Reg.Has ((w.alloc (.cells tabZ 206)).setRow w.heap.size (tab0 v)) w.heap.size (tabL nilS nilS v) := by
  have hg := alloc_at w (.cells tabZ 206)
  have hh := setRow_heap _ _ _ (tab0 v) _ _ hg
  refine ⟨fun i u hu => ?_, fun i hi => ?_, ?_⟩
  · rw [cell_setRow_same _ _ _ _ _ _ _ hg]
    rw [← tab0_eq] at hu
    simpa using hu
  · simp only [World.frozen?, hh]
    simp
  · exact (Array.getElem?_eq_some_iff.1 hh).1
theorem below_tab0 (w : World) (v : Value) : Below w.heap.size w ((w.alloc (.cells tabZ 206)).setRow w.heap.size (tab0 v)) := by
  have h := (Below.refl w.heap.size w).alloc (Nat.le_refl _) (.cells tabZ 206)
  refine ⟨h.os, h.tape, h.output, ?_, fun k hk => ?_⟩
  · simp [World.setRow]
  · rw [setRow_other _ _ _ _ (by omega)]
    exact h.block k hk
theorem tab0_one (ao : Option Addr) (n c : Nat) : (tab0 (.slice ao n c)).all (·.oneCell') = true := by kernel_rfl
theorem tab_info (v : Value) : (Tryz.prog.info? 206).map (·.size) = some (tab0 v).size := by kernel_rfl
theorem nil_eql (w : World) : (binOp .eql 66 (.slice none 0 0) (.slice none 0 0)).run Tryz.prog w = .ok (.bool true) w := by
  first | kernel_rfl | (simp [binOp, go_sem]; done)
theorem nil_eql_no (ad : Addr) (n c : Nat) (w : World) : (binOp .eql 66 (.slice (some ad) n c) (.slice none 0 0)).run Tryz.prog w = .ok (.bool false) w := by
  first | kernel_rfl | (simp [binOp, go_sem]; done)
theorem nil_neq (w : World) : (binOp .neq 66 (.slice none 0 0) (.slice none 0 0)).run Tryz.prog w = .ok (.bool false) w := by
  first | kernel_rfl | (simp [binOp, go_sem]; done)
theorem nil_neq_no (ad : Addr) (n c : Nat) (w : World) : (binOp .neq 66 (.slice (some ad) n c) (.slice none 0 0)).run Tryz.prog w = .ok (.bool true) w := by
  first | kernel_rfl | (simp [binOp, go_sem]; done)
end Go.Proofs.YtbpopmbabckojaaGreatDoor.Sp
