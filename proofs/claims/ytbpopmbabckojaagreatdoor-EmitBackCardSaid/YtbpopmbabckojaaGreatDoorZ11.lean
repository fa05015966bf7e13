/- Lemmas for the statement's proof, several texts in one: A5, A6, T1, T2, S1, T6. -/
import Derived.Test.YtbpopmbabckojaaGreatDoorZ10
import Derived.Test.YtbpopmbabckojaaGreatDoorZ01
import Derived.Lib.ParseIntBCases
import Derived.Lib.SlTrimSet
import Derived.Shelf.Strings.SlTrimAscii
import Derived.Test.YtbpopmbabckojaaGreatDoorZ02
import Derived.Test.YtbpopmbabckojaaGreatDoorZ07
import Derived.Lib.AppendIntMem
import Derived.Lib.LaidTab
set_option linter.unusedVariables false
set_option linter.unusedSimpArgs false
/- Same; start.seen; what strings.Cut and CutPrefix give; version. -/
section
namespace Go.Proofs.YtbpopmbabckojaaGreatDoor.Sp
open Go.RowKit


/-! ### seen -/
def seenB (c : UInt8) : Bool := decide (33 ≤ c.toNat) && decide (c.toNat ≤ 126)
def seenS (l : List UInt8) : Bool := !l.isEmpty && l.all seenB
def outV (r : Nat) : Bool := decide (r < 33) || decide (126 < r)

theorem decode_low (s : ByteArray) (i : Nat) (hi : i < s.size) (h : (Utf8.decode s i).1 < 128) : s[i].toNat < 128 := by
  rw [← get_bang s i hi]
  rcases Nat.lt_or_ge (s.get! i).toNat 128 with h1 | h1
  · exact h1
  · exfalso
    unfold Utf8.decode at h
    simp only [Nat.add_zero] at h
    rw [if_neg (by omega)] at h
    unfold Utf8.runeError at h
    repeat' split at h
    all_goals first | (simp at h; done) | (simp at *; omega)

theorem seen_f {c : UInt8} (h : ¬ (33 ≤ c.toNat ∧ c.toNat ≤ 126)) : seenB c = false := by unfold seenB; simp; omega
theorem seen_t {c : UInt8} (h : 33 ≤ c.toNat ∧ c.toNat ≤ 126) : seenB c = true := by unfold seenB; simp; omega
theorem out_t {n : Nat} (h : outV n = true) : n < 33 ∨ 126 < n := by unfold outV at h; simp at h; omega
theorem out_f {n : Nat} (h : ¬ outV n = true) : 33 ≤ n ∧ n ≤ 126 := by unfold outV at h; simp at h; omega

theorem idx_from (s : ByteArray) : ∀ (f pos : Nat), s.size ≤ pos + f → ((Lib.idxFuncFrom outV true s f pos = -1 ∧ (s.data.toList.drop pos).all seenB = true) ∨ (0 ≤ Lib.idxFuncFrom outV true s f pos ∧ (s.data.toList.drop pos).all seenB = false))
  | 0, pos, h => by
    refine .inl ⟨rfl, ?_⟩
    rw [List.drop_eq_nil_of_le (by simpa using h)]; rfl
  | f + 1, pos, h => by
    unfold Lib.idxFuncFrom
    by_cases hp : pos < s.size
    · rw [if_pos hp]
      have hd := drop_cons s pos hp
      by_cases hr : outV (Utf8.decode s pos).1 = true
      · rw [if_pos hr]
        refine .inr ⟨by omega, ?_⟩
        rw [hd, List.all_cons]
        have : seenB s[pos] = false := by
          refine seen_f fun hc => ?_
          rw [decode_ascii s pos hp (by omega)] at hr
          have := out_t hr
          simp at this
          omega
        rw [this]; rfl
      · rw [if_neg hr]
        have hlow := out_f hr
        have h1 := decode_low s pos hp (by omega)
        rw [decode_ascii s pos hp h1] at hr ⊢
        rw [hd, List.all_cons, seen_t (out_f hr), Bool.true_and]
        exact idx_from s f (pos + 1) (by omega)
    · rw [if_neg hp]
      refine .inl ⟨rfl, ?_⟩
      rw [List.drop_eq_nil_of_le (by simpa using hp)]; rfl

theorem idx_seen (s : ByteArray) : decide (Lib.idxFunc outV true s < 0) = s.data.toList.all seenB := by
  have := idx_from s s.size 0 (by omega)
  unfold Lib.idxFunc
  rw [List.drop_zero] at this
  rcases this with ⟨a, b⟩ | ⟨a, b⟩
  · rw [a, b]; rfl
  · rw [b]; simp; exact a

theorem out_pred (w : World) : PredAt Tryz.prog 112 #[] encR outV w := by
  intro W x _
  show Calls Tryz.prog 112 #[.int .i32 x] W _
  go_enter Tryz.func112, Tryz.ntmps112
  go_wp2
  all_goals go_ret
  all_goals refine ⟨ret_bool ?_, 0, rfl⟩
  all_goals (unfold outV; first | (have h : x < 33 := (by omega); simp [h]; done) | (have h : ¬ x < 33 := (by omega); simp [h]; omega))

theorem seenS_of (l : List UInt8) (h : l ≠ []) : seenS l = l.all seenB := by
  unfold seenS; cases l with
  | nil => exact absurd rfl h
  | cons c t => rfl
theorem seen_any (s : ByteArray) (w : World) :
    Calls Tryz.prog 90 #[.string s] w fun e w' => e = .returned (.bool (seenS s.data.toList)) ∧ Below w.heap.size w w' := by
  have hi := Lib.hid (idx_seen s)
  rcases empty_case s with ⟨he, he2⟩ | ⟨he, he2⟩
  · have HE := Lib.hid he2
    clear he2
    go_enter Tryz.func90, Tryz.ntmps90
    go_wp2_with fail
    go_ret
    exact ⟨ret_bool (by rw [HE.out]; rfl), Below.refl _ _⟩
  · have HE := Lib.hid he2
    clear he2
    go_enter Tryz.func90, Tryz.ntmps90
    go_wp2_with fail
    refine (Tryz.strings_IndexFunc 112 #[] (fun _ _ => by kernel_rfl) outV s _ (out_pred _)).mono ?_; rintro e w1 ⟨rfl, hb1⟩
    go_wp2_with fail
    go_ret
    exact ⟨ret_bool (by rw [seenS_of _ HE.out]; exact hi.out), hb1⟩

/-! ### cuts -/




/-! ### version -/
def verC (a b c : UInt8) : Int × Int :=
  if digI a.toNat = true ∧ b.toNat = 46 ∧ digI c.toNat = true then (if a.toNat ≠ 49 ∨ 49 < c.toNat then (0, 505) else ((c.toNat : Int) - 48, 0)) else (0, 400)
def verP : List UInt8 := [72, 84, 84, 80, 47]
def ver (l : List UInt8) : Int × Int := if Lib.hasPrefix l verP = true ∧ (l.drop 5).length = 3 then verC (l.getD 5 0) (l.getD 6 0) (l.getD 7 0) else (0, 400)

theorem verC_bad {a b c : UInt8} (h : ¬ (digI a.toNat = true ∧ b.toNat = 46 ∧ digI c.toNat = true)) : verC a b c = (0, 400) := by unfold verC; rw [if_neg h]
theorem verC_other {a b c : UInt8} (h : digI a.toNat = true ∧ b.toNat = 46 ∧ digI c.toNat = true) (h2 : a.toNat ≠ 49 ∨ 49 < c.toNat) : verC a b c = (0, 505) := by unfold verC; rw [if_pos h, if_pos h2]
theorem verC_ok {a b c : UInt8} (h : digI a.toNat = true ∧ b.toNat = 46 ∧ digI c.toNat = true) (h2 : ¬ (a.toNat ≠ 49 ∨ 49 < c.toNat)) : verC a b c = ((c.toNat : Int) - 48, 0) := by unfold verC; rw [if_pos h, if_neg h2]
theorem ret_pair {a b c d : Int} (h : (a, b) = (c, d)) : Ending.returned (.tuple #[.int .i64 a, .int .i64 b]) = .returned (.tuple #[.int .i64 c, .int .i64 d]) := by
  cases h; rfl
theorem getD_drop (l : List UInt8) (r : ByteArray) (h : r.data.toList = l.drop 5) (i : Nat) (hi : i < r.size) : l.getD (5 + i) 0 = r[i] := by
  have h1 : r.data.toList[i]? = some r[i] := by
    have : i < r.data.toList.length := by simpa using hi
    rw [List.getElem?_eq_getElem this]; rfl
  rw [h, List.getElem?_drop] at h1
  simp [List.getD, h1]

end Go.Proofs.YtbpopmbabckojaaGreatDoor.Sp
end

/- start.Request. -/
section
namespace Go.Proofs.YtbpopmbabckojaaGreatDoor.Sp
open Go.RowKit

def reqOK (l : List UInt8) : Bool := (cutS 32 l).2.2 && (cutS 32 (cutS 32 l).2.1).2.2 && tokenS (cutS 32 l).1 && seenS (cutS 32 (cutS 32 l).2.1).1
def reqV (l : List UInt8) : Int × Int := ver (cutS 32 (cutS 32 l).2.1).2.1
/-- the method, the target, the version's second number, the status -/
def req (l : List UInt8) : List UInt8 × List UInt8 × Int × Int :=
  if reqOK l = true then (if (reqV l).2 = 0 then ((cutS 32 l).1, (cutS 32 (cutS 32 l).2.1).1, reqV l) else ([], [], reqV l)) else ([], [], 0, 400)


def ReqPost (s : ByteArray) (w : World) (e : Ending) (w' : World) : Prop :=
  e = .returned (.tuple #[.string ⟨(req s.data.toList).1.toArray⟩, .string ⟨(req s.data.toList).2.1.toArray⟩, .int .i64 (req s.data.toList).2.2.1, .int .i64 (req s.data.toList).2.2.2]) ∧ Below w.heap.size w w'

theorem req_bad (s : ByteArray) (w w' : World) (h : reqOK s.data.toList = false) (hb : Below w.heap.size w w') : ReqPost s w (.returned (.tuple #[.string ⟨#[]⟩, .string ⟨#[]⟩, .int .i64 0, .int .i64 400])) w' := by
  unfold ReqPost req
  rw [h]
  exact ⟨rfl, hb⟩

theorem req_ok (s m t : ByteArray) (p : Int × Int) (w w' : World) (h : reqOK s.data.toList = true) (hv : reqV s.data.toList = p) (h0 : p.2 = 0) (hm : m.data.toList = (cutS 32 s.data.toList).1) (ht : t.data.toList = (cutS 32 (cutS 32 s.data.toList).2.1).1) (hb : Below w.heap.size w w') :
    ReqPost s w (.returned (.tuple #[.string m, .string t, .int .i64 p.1, .int .i64 p.2])) w' := by
  unfold ReqPost req
  rw [if_pos h, hv, if_pos h0, ← hm, ← ht]
  exact ⟨rfl, hb⟩
theorem req_ver (s : ByteArray) (p : Int × Int) (w w' : World) (h : reqOK s.data.toList = true) (hv : reqV s.data.toList = p) (h0 : ¬ p.2 = 0) (hb : Below w.heap.size w w') :
    ReqPost s w (.returned (.tuple #[.string ⟨#[]⟩, .string ⟨#[]⟩, .int .i64 p.1, .int .i64 p.2])) w' := by
  unfold ReqPost req
  rw [if_pos h, hv, if_neg h0]
  exact ⟨rfl, hb⟩

end Go.Proofs.YtbpopmbabckojaaGreatDoor.Sp
end

/- Plain: the number of digits; what Trim and ParseInt make of digits. -/
section
namespace Go.Proofs.YtbpopmbabckojaaGreatDoor.Sp
open Go.RowKit

def digB (c : UInt8) : Bool := decide (48 ≤ c.toNat) && decide (c.toNat ≤ 57)
theorem digB_t {c : UInt8} (h : digB c = true) : 48 ≤ c.toNat ∧ c.toNat ≤ 57 := by unfold digB at h; simpa using h
theorem digB_f {c : UInt8} (h : digB c = false) : ¬ (48 ≤ c.toNat ∧ c.toNat ≤ 57) := by unfold digB at h; simp at h; omega
theorem digB_of {c : UInt8} (h : 48 ≤ c.toNat ∧ c.toNat ≤ 57) : digB c = true := by unfold digB; simpa using h
theorem digB_no {c : UInt8} (h : ¬ (48 ≤ c.toNat ∧ c.toNat ≤ 57)) : digB c = false := by unfold digB; simp; omega
/-- digits alone, one at least -/
def digsS (l : List UInt8) : Bool := !l.isEmpty && l.all digB
def valF (a : Nat) (l : List UInt8) : Nat := l.foldl (fun a c => a * 10 + (c.toNat - 48)) a
def valN (l : List UInt8) : Nat := valF 0 l
theorem valF_cons (a : Nat) (c : UInt8) (r : List UInt8) : valF a (c :: r) = valF (a * 10 + (c.toNat - 48)) r := by unfold valF; rw [List.foldl_cons]
theorem valF_nil (a : Nat) : valF a [] = a := by unfold valF; rfl
theorem valF_app (a : Nat) (x y : List UInt8) : valF a (x ++ y) = valF (valF a x) y := by unfold valF; rw [List.foldl_append]
theorem valF_ge : ∀ (l : List UInt8) (a : Nat), a ≤ valF a l
  | [], a => Nat.le_refl _
  | c :: r, a => by
    rw [valF_cons]
    have := valF_ge r (a * 10 + (c.toNat - 48))
    omega
theorem parseM_digs : ∀ (l : List UInt8) (a : Nat), l.all digB = true → a ≤ 18446744073709551615 → Lib.parseUintM 18446744073709551615 a l = if valF a l ≤ 18446744073709551615 then .ok (valF a l) else .range
  | [], a, _, h => by unfold Lib.parseUintM; rw [show valF a [] = a by unfold valF; rfl, if_pos h]
  | c :: r, a, hd, ha => by
    rw [List.all_cons, Bool.and_eq_true] at hd
    have hc := digB_t hd.1
    have hge := valF_ge r (a * 10 + (c.toNat - 48))
    unfold Lib.parseUintM
    rw [if_pos hc, valF_cons]
    by_cases h1 : 1844674407370955162 ≤ a
    · rw [if_pos h1, if_neg (by omega)]
    · rw [if_neg h1]
      by_cases h2 : 18446744073709551615 < a * 10 + (c.toNat - 48)
      · rw [if_pos h2, if_neg (by omega)]
      · rw [if_neg h2]
        exact parseM_digs r _ hd.2 (by omega)
theorem digsS_cons {l : List UInt8} (h : digsS l = true) : ∃ c r, l = c :: r ∧ digB c = true ∧ l.all digB = true := by
  unfold digsS at h
  cases l with
  | nil => simp at h
  | cons c r =>
    rw [Bool.and_eq_true] at h
    refine ⟨c, r, rfl, ?_, h.2⟩
    have := h.2
    rw [List.all_cons, Bool.and_eq_true] at this
    exact this.1
theorem parse_digs {l : List UInt8} (h : digsS l = true) : Lib.parseIntB 64 l = if valN l ≤ 9223372036854775807 then .ok (valN l) else .range := by
  obtain ⟨c, r, rfl, hc, ha⟩ := digsS_cons h
  have hc := digB_t hc
  rw [Lib.parseIntB_plain 64 c r (by omega) (by omega)]
  unfold Lib.parseUintB
  rw [if_neg (by simp), show (2 ^ 64 - 1 : Nat) = 18446744073709551615 from rfl, parseM_digs _ 0 ha (by decide)]
  show Lib.signlessC 9223372036854775808 _ = _
  unfold valN
  by_cases h1 : valF 0 (c :: r) ≤ 18446744073709551615
  · rw [if_pos h1]
    unfold Lib.signlessC
    by_cases h2 : valF 0 (c :: r) ≤ 9223372036854775807
    · rw [if_pos h2]; simp only; rw [if_neg (by omega)]
    · rw [if_neg h2]; simp only; rw [if_pos (by omega)]
  · rw [if_neg h1, if_neg (by omega)]
    rfl
attribute [irreducible] valF
/-- what token.Number gives -/
def numS (l : List UInt8) : Int × Int := if digsS l = true then (if valN l ≤ 9007199254740991 then ((valN l : Int), 0) else (0, 3)) else (0, 4)
theorem numS_bad {l : List UInt8} (h : digsS l = false) : numS l = (0, 4) := by unfold numS; rw [if_neg (by rw [h]; decide)]
theorem numS_ok {l : List UInt8} (h : digsS l = true) (hv : valN l ≤ 9007199254740991) : numS l = ((valN l : Int), 0) := by unfold numS; rw [if_pos h, if_pos hv]
theorem numS_long {l : List UInt8} (h : digsS l = true) (hv : ¬ valN l ≤ 9007199254740991) : numS l = (0, 3) := by unfold numS; rw [if_pos h, if_neg hv]

def tenD : List UInt8 := [48, 49, 50, 51, 52, 53, 54, 55, 56, 57]
theorem tenD_eq (c : UInt8) : tenD.contains c = digB c := by
  have := byte_all (fun c => tenD.contains c == digB c) (by decide +kernel) c
  simpa using this
theorem dropW_nil (p : UInt8 → Bool) : ∀ l : List UInt8, l.all p = true → l.dropWhile p = []
  | [], _ => rfl
  | c :: r, h => by
    rw [List.all_cons, Bool.and_eq_true] at h
    rw [List.dropWhile_cons_of_pos h.1]
    exact dropW_nil p r h.2
theorem dropW_ne (p : UInt8 → Bool) : ∀ l : List UInt8, l.all p = false → ∃ c r, l.dropWhile p = c :: r ∧ p c = false
  | [], h => by simp at h
  | c :: r, h => by
    cases hc : p c
    · exact ⟨c, r, by rw [List.dropWhile_cons_of_neg (by rw [hc]; decide)], hc⟩
    · rw [List.all_cons, hc, Bool.true_and] at h
      rw [List.dropWhile_cons_of_pos hc]
      exact dropW_ne p r h
theorem trim_digs {l : List UInt8} (h : l.all digB = true) : Lib.trimS l tenD = [] := by
  have hp : (fun x => tenD.contains x) = digB := funext tenD_eq
  unfold Lib.trimS Lib.trimRightS Lib.trimLeftS
  rw [hp, dropW_nil digB l.reverse (by rw [List.all_reverse]; exact h)]
  rfl
theorem trim_nodigs {l : List UInt8} (h : l.all digB = false) : Lib.trimS l tenD ≠ [] := by
  have hp : (fun x => tenD.contains x) = digB := funext tenD_eq
  unfold Lib.trimS Lib.trimRightS Lib.trimLeftS
  rw [hp]
  obtain ⟨c, r, hd, hc⟩ := dropW_ne digB l.reverse (by rw [List.all_reverse]; exact h)
  rw [hd]
  have hall : (c :: r).reverse.all digB = false := by rw [List.all_reverse, List.all_cons, hc]; rfl
  obtain ⟨c2, r2, hd2, _⟩ := dropW_ne digB _ hall
  rw [hd2]
  simp
end Go.Proofs.YtbpopmbabckojaaGreatDoor.Sp
end

/- token.Number. -/
section
namespace Go.Proofs.YtbpopmbabckojaaGreatDoor.Sp
open Go.RowKit

/-! ### plain -/
def outD (r : Nat) : Bool := decide (r < 48) || decide (57 < r)
theorem idx_digs (s : ByteArray) : ∀ (f pos : Nat), (s.data.toList.drop pos).all digB = true → Lib.idxFuncFrom outD true s f pos = -1
  | 0, _, _ => rfl
  | f + 1, pos, h => by
    unfold Lib.idxFuncFrom
    by_cases hp : pos < s.size
    · rw [if_pos hp]
      rw [drop_cons s pos hp, List.all_cons, Bool.and_eq_true] at h
      have hc := digB_t h.1
      rw [decode_ascii s pos hp (by omega)]
      have ho : outD s[pos].toNat = false := by unfold outD; simp; omega
      rw [if_neg (by rw [ho]; decide)]
      exact idx_digs s f (pos + 1) h.2
    · rw [if_neg hp]
theorem idx_digits (s : ByteArray) (h : s.data.toList.all digB = true) : Lib.idxFunc outD true s = -1 := by
  unfold Lib.idxFunc
  exact idx_digs s s.size 0 (by rw [List.drop_zero]; exact h)




end Go.Proofs.YtbpopmbabckojaaGreatDoor.Sp
end

/- start.value, Status. -/
section
namespace Go.Proofs.YtbpopmbabckojaaGreatDoor.Sp
open Go.RowKit Sl

theorem svalue_any (s : ByteArray) (hs : s.size ≤ 1000000) (w : World) :
    Calls Tryz.prog 91 #[.string s] w fun e w' => e = .returned (.bool (allS chr s.data.toList)) ∧ Below w.heap.size w w' := by
  cases h : allS chr s.data.toList
  · have hc := hide (fun w => quote_no s hs h w)
    clear h
    go_enter Tryz.func91, Tryz.ntmps91
    go_wp2_with (go_at_call 113; refine (unhide hc _).mono ?_; rintro e w1 ⟨rfl, hb1⟩; have HB := hide hb1; clear hb1)
    go_ret
    exact ⟨rfl, unhide HB⟩
  · have hc := hide (fun w => quote_ok s hs h w)
    clear h
    go_enter Tryz.func91, Tryz.ntmps91
    go_wp2_with (go_at_call 113; refine (unhide hc _).mono ?_; rintro e w1 ⟨rfl, hb1⟩; have HB := hide hb1; clear hb1)
    go_ret
    exact ⟨rfl, unhide HB⟩

/-! ### plain -/
def stV (l : List UInt8) : List UInt8 := (cutS 32 l).1
def stRest (l : List UInt8) : List UInt8 := (cutS 32 l).2.1
def stDig (l : List UInt8) : List UInt8 := (cutS 32 (stRest l)).1
def stWhy (l : List UInt8) : List UInt8 := (cutS 32 (stRest l)).2.1
def stOK (l : List UInt8) : Prop := (cutS 32 l).2.2 = true ∧ (cutS 32 (stRest l)).2.2 = true ∧ (ver (stV l)).2 = 0 ∧ (numS (stDig l)).2 = 0 ∧ (stDig l).length = 3 ∧ 100 ≤ (numS (stDig l)).1 ∧ (numS (stDig l)).1 ≤ 599 ∧ allS chr (stWhy l) = true
instance (l : List UInt8) : Decidable (stOK l) := by unfold stOK; infer_instance
/-- what Status gives: minor, status, reason, error -/
def stS (l : List UInt8) : Int × Int × List UInt8 × Int := if stOK l then ((ver (stV l)).1, (numS (stDig l)).1, stWhy l, 0) else (0, 0, [], 4)
theorem stS_ok {l : List UInt8} (h : stOK l) : stS l = ((ver (stV l)).1, (numS (stDig l)).1, stWhy l, 0) := by unfold stS; rw [if_pos h]
theorem stS_no {l : List UInt8} (h : ¬ stOK l) : stS l = (0, 0, [], 4) := by unfold stS; rw [if_neg h]
def StPost (s : ByteArray) (w : World) (e : Ending) (w' : World) : Prop :=
  e = .returned (.tuple #[.int .i64 (stS s.data.toList).1, .int .i64 (stS s.data.toList).2.1, .string (ofL (stS s.data.toList).2.2.1), .int .i64 (stS s.data.toList).2.2.2]) ∧ Below w.heap.size w w'
theorem stp_no (s : ByteArray) (w w' : World) (h : ¬ stOK s.data.toList) (hb : Below w.heap.size w w') : StPost s w (.returned (.tuple #[.int .i64 0, .int .i64 0, .string ⟨#[]⟩, .int .i64 4])) w' := by
  unfold StPost
  rw [stS_no h]
  exact ⟨rfl, hb⟩
theorem stp_ok (s y : ByteArray) (a n : Int) (w w' : World) (h : stOK s.data.toList) (ha : a = (ver (stV s.data.toList)).1) (hn : n = (numS (stDig s.data.toList)).1) (hy : y.data.toList = stWhy s.data.toList) (hb : Below w.heap.size w w') :
    StPost s w (.returned (.tuple #[.int .i64 a, .int .i64 n, .string y, .int .i64 0])) w' := by
  unfold StPost
  rw [stS_ok h, ← ha, ← hn, ← hy]
  exact ⟨rfl, hb⟩

end Go.Proofs.YtbpopmbabckojaaGreatDoor.Sp
end

/- Plain: the digits of a number; strconv.Itoa of any number. -/
section
namespace Go.Proofs.YtbpopmbabckojaaGreatDoor.Sp
open Go.RowKit

def decB (u : Nat) : ByteArray := ⟨(Lib.decDigits u).toArray⟩
def itoaB (n : Int) : ByteArray := ⟨(Lib.itoa n).toArray⟩
def tenB : ByteArray := ⟨#[48, 49, 50, 51, 52, 53, 54, 55, 56, 57]⟩
theorem dec_small (u : Nat) (h : u < 10) : tenB.extract u (u + 1) = decB u := by
  have h1 : ∀ i, i < 10 → (tenB.extract i (i + 1)).data.toList = Lib.decDigits i := by decide +kernel
  exact ba_eq (h1 u h)
theorem dec_more (u : Nat) (h : 10 ≤ u) : decB u = decB (u / 10) ++ decB (u % 10) := by
  have e : Lib.decDigits u = Lib.decDigits (u / 10) ++ Lib.decDigits (u % 10) := by
    conv => lhs; rw [Lib.decDigits, dif_neg (by omega)]
    have e2 : Lib.decDigits (u % 10) = [UInt8.ofNat (48 + u % 10)] := by rw [Lib.decDigits, dif_pos (by omega)]
    rw [e2]
  have h2 : (decB (u / 10) ++ decB (u % 10)).data.toList = Lib.decDigits u := by rw [app_data, e]; rfl
  exact (ba_eq h2).symm
theorem decB_size (u : Nat) : (decB u).size ≤ u + 1 := by
  have h : ∀ n u, u ≤ n → (Lib.decDigits u).length ≤ u + 1 := by
    intro n
    induction n with
    | zero => intro u hu; obtain rfl : u = 0 := by omega
              decide +kernel
    | succ n ih =>
      intro u hu
      rw [Lib.decDigits]
      split
      · simp
      · have := ih (u / 10) (by omega)
        rw [List.length_append]; simp; omega
  have := h u u (Nat.le_refl _)
  rw [show (decB u).size = (Lib.decDigits u).length from size_list rfl]
  exact this
theorem decB_20 (u : Nat) (h : u < 10000000000000000000) : (decB u).size ≤ 19 := by
  have step : ∀ (k u : Nat), u < 10 ^ k → 0 < k → (Lib.decDigits u).length ≤ k := by
    intro k
    induction k with
    | zero => intro u h h0; omega
    | succ k ih =>
      intro u h _
      rw [Lib.decDigits]
      split
      · simp
      · rcases Nat.eq_zero_or_pos k with h0 | h0
        · subst h0; simp at h; omega
        · have := ih (u / 10) (by rw [Nat.pow_succ] at h; omega) h0
          rw [List.length_append]; simp; omega
  rw [show (decB u).size = (Lib.decDigits u).length from size_list rfl]
  exact step 19 u h (by omega)

theorem itoa_size (n : Int) (h0 : -9223372036854775808 ≤ n) (h1 : n ≤ 9223372036854775807) : (itoaB n).size ≤ 20 := by
  rw [show (itoaB n).size = (Lib.itoa n).length from size_list rfl]
  unfold Lib.itoa
  split
  · have := decB_20 n.natAbs (by omega)
    rw [show (decB n.natAbs).size = (Lib.decDigits n.natAbs).length from size_list rfl] at this
    simp; omega
  · have := decB_20 n.toNat (by omega)
    rw [show (decB n.toNat).size = (Lib.decDigits n.toNat).length from size_list rfl] at this
    omega
theorem itoa_neg (n : Int) (h : n < 0) : (⟨#[45]⟩ : ByteArray) ++ decB n.natAbs = itoaB n := by
  unfold itoaB Lib.itoa
  rw [if_pos h]
  have : ((⟨#[45]⟩ : ByteArray) ++ decB n.natAbs).data.toList = 45 :: Lib.decDigits n.natAbs := by rw [app_data]; rfl
  exact ba_eq this
theorem itoa_pos (n : Int) (h : 0 ≤ n) : decB n.toNat = itoaB n := by
  unfold itoaB Lib.itoa
  rw [if_neg (by omega)]; rfl

/-! ### the table of powers of ten -/
abbrev Pow10 (w : World) : Prop := Lib.TabIs Tryz.prog w "internal/strconv.uint64pow10" .u64 Lib.pow10Tab
theorem Pow10.below {w w' : World} (h : Pow10 w) (hb : Below w.heap.size w w') : Pow10 w' := by
  have hgn : Tryz.prog.globalNamed "internal/strconv.uint64pow10" = some 0 := by kernel_rfl
  unfold Pow10 Lib.TabIs World.var? at h ⊢
  rw [hgn] at h ⊢
  simp only [Option.bind_some] at h ⊢
  have hlt : 0 < w.heap.size := by
    rcases Nat.lt_or_ge 0 w.heap.size with h' | h'
    · exact h'
    · rw [Array.getElem?_eq_none h'] at h; cases h
  rw [hb.block 0 hlt]
  exact h
theorem itoa_any (n : Int) (h0 : -9223372036854775808 ≤ n) (h1 : n ≤ 9223372036854775807) (w : World) (ht : Pow10 w) : Calls Tryz.prog 40 #[.int .i64 n] w fun e w' => e = .returned (.string (itoaB n)) ∧ Below w.heap.size w w' := by
  refine (Tryz.strconv_Itoa n h0 h1 w ht).mono ?_
  rintro e w' ⟨rfl, k, os, rfl⟩
  exact ⟨rfl, Lib.below_grow _ w (Nat.le_refl _) k os⟩
end Go.Proofs.YtbpopmbabckojaaGreatDoor.Sp
end
