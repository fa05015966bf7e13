/- Same; start.seen; what strings.Cut and CutPrefix give; version. -/
import Derived.Test.YtfkobhagdjaleaaGreatDoorA1
import Derived.Test.YtfkobhagdjaleaaGreatDoorCut
namespace Go.Proofs.YtfkobhagdjaleaaGreatDoor.Sp
open Go.RowKit


/-! ### seen -/
def seenB (c : UInt8) : Bool := decide (33 ≤ c.toNat) && decide (c.toNat ≤ 126)
def seenS (l : List UInt8) : Bool := !l.isEmpty && l.all seenB
def outR (r : Nat) : Bool := decide (r < 33) || decide (126 < r)

theorem decode_low (s : ByteArray) (i : Nat) (hi : i < s.size) (h : (Utf8.decode s i).1 < 128) : s[i].toNat < 128 := by
  rw [← get_bang s i hi]
  rcases Nat.lt_or_ge (s.get! i).toNat 128 with h1 | h1
  · exact h1
  · exfalso
    unfold Utf8.decode at h
    simp only [Nat.add_zero] at h
    rw [if_neg (by omega)] at h
    unfold Utf8.runeError at h
    repeat' split at h
    all_goals first | (simp at h; done) | (simp at *; omega)

theorem seen_f {c : UInt8} (h : ¬ (33 ≤ c.toNat ∧ c.toNat ≤ 126)) : seenB c = false := by unfold seenB; simp; omega
theorem seen_t {c : UInt8} (h : 33 ≤ c.toNat ∧ c.toNat ≤ 126) : seenB c = true := by unfold seenB; simp; omega
theorem out_t {n : Nat} (h : outR n = true) : n < 33 ∨ 126 < n := by unfold outR at h; simp at h; omega
theorem out_f {n : Nat} (h : ¬ outR n = true) : 33 ≤ n ∧ n ≤ 126 := by unfold outR at h; simp at h; omega

theorem idx_from (s : ByteArray) : ∀ (f pos : Nat), s.size ≤ pos + f → ((Lib.idxFuncFrom outR true s f pos = -1 ∧ (s.data.toList.drop pos).all seenB = true) ∨ (0 ≤ Lib.idxFuncFrom outR true s f pos ∧ (s.data.toList.drop pos).all seenB = false))
  | 0, pos, h => by
    refine .inl ⟨rfl, ?_⟩
    rw [List.drop_eq_nil_of_le (by simpa using h)]; rfl
  | f + 1, pos, h => by
    unfold Lib.idxFuncFrom
    by_cases hp : pos < s.size
    · rw [if_pos hp]
      have hd := drop_cons s pos hp
      by_cases hr : outR (Utf8.decode s pos).1 = true
      · rw [if_pos hr]
        refine .inr ⟨by omega, ?_⟩
        rw [hd, List.all_cons]
        have : seenB s[pos] = false := by
          refine seen_f fun hc => ?_
          rw [decode_ascii s pos hp (by omega)] at hr
          have := out_t hr
          simp at this
          omega
        rw [this]; rfl
      · rw [if_neg hr]
        have hlow := out_f hr
        have h1 := decode_low s pos hp (by omega)
        rw [decode_ascii s pos hp h1] at hr ⊢
        rw [hd, List.all_cons, seen_t (out_f hr), Bool.true_and]
        exact idx_from s f (pos + 1) (by omega)
    · rw [if_neg hp]
      refine .inl ⟨rfl, ?_⟩
      rw [List.drop_eq_nil_of_le (by simpa using hp)]; rfl

theorem idx_seen (s : ByteArray) : decide (Lib.idxFunc outR true s < 0) = s.data.toList.all seenB := by
  have := idx_from s s.size 0 (by omega)
  unfold Lib.idxFunc
  rw [List.drop_zero] at this
  rcases this with ⟨a, b⟩ | ⟨a, b⟩
  · rw [a, b]; rfl
  · rw [b]; simp; exact a

theorem out_pred (w : World) : PredAt Tryz.prog 52 #[] encR outR w := by
  intro W x _
  show Calls Tryz.prog 52 #[.int .i32 x] W _
  go_enter Tryz.func52, Tryz.ntmps52
  go_wp2
  all_goals go_ret
  all_goals refine ⟨ret_bool ?_, 0, rfl⟩
  all_goals (unfold outR; first | (have h : x < 33 := (by omega); simp [h]; done) | (have h : ¬ x < 33 := (by omega); simp [h]; omega))

theorem seenS_of (l : List UInt8) (h : l ≠ []) : seenS l = l.all seenB := by
  unfold seenS; cases l with
  | nil => exact absurd rfl h
  | cons c t => rfl
theorem seen_any (s : ByteArray) (w : World) :
    Calls Tryz.prog 26 #[.string s] w fun e w' => e = .returned (.bool (seenS s.data.toList)) ∧ Below w.heap.size w w' := by
  have hi := Lib.hid (idx_seen s)
  rcases empty_case s with ⟨he, he2⟩ | ⟨he, he2⟩
  · have HE := Lib.hid he2
    clear he2
    go_enter Tryz.func26, Tryz.ntmps26
    go_wp2_with fail
    go_ret
    exact ⟨ret_bool (by rw [HE.out]; rfl), Below.refl _ _⟩
  · have HE := Lib.hid he2
    clear he2
    go_enter Tryz.func26, Tryz.ntmps26
    go_wp2_with fail
    refine (Tryz.strings_IndexFunc 52 #[] (fun _ _ => by kernel_rfl) outR s _ (out_pred _)).mono ?_; rintro e w1 ⟨rfl, hb1⟩
    go_wp2_with fail
    go_ret
    exact ⟨ret_bool (by rw [seenS_of _ HE.out]; exact hi.out), hb1⟩

/-! ### cuts -/



theorem cutp_any (s p r : ByteArray) (b : Bool) (hr : r.data.toList = Lib.trimPrefix s.data.toList p.data.toList) (hb : b = Lib.hasPrefix s.data.toList p.data.toList) (w : World) :
    Calls Tryz.prog 44 #[.string s, .string p] w fun e w' => e = .returned (.tuple #[.string r, .bool b]) ∧ w = w' := by
  refine (Tryz.strings_CutPrefix s p w).mono ?_
  rintro e w' ⟨rfl, rfl⟩
  exact ⟨by rw [← hr, ← hb], rfl⟩

/-! ### version -/
def verC (a b c : UInt8) : Int × Int :=
  if digI a.toNat = true ∧ b.toNat = 46 ∧ digI c.toNat = true then (if a.toNat ≠ 49 ∨ 49 < c.toNat then (0, 505) else ((c.toNat : Int) - 48, 0)) else (0, 400)
def verP : List UInt8 := [72, 84, 84, 80, 47]
def ver (l : List UInt8) : Int × Int := if Lib.hasPrefix l verP = true ∧ (l.drop 5).length = 3 then verC (l.getD 5 0) (l.getD 6 0) (l.getD 7 0) else (0, 400)

theorem verC_bad {a b c : UInt8} (h : ¬ (digI a.toNat = true ∧ b.toNat = 46 ∧ digI c.toNat = true)) : verC a b c = (0, 400) := by unfold verC; rw [if_neg h]
theorem verC_other {a b c : UInt8} (h : digI a.toNat = true ∧ b.toNat = 46 ∧ digI c.toNat = true) (h2 : a.toNat ≠ 49 ∨ 49 < c.toNat) : verC a b c = (0, 505) := by unfold verC; rw [if_pos h, if_pos h2]
theorem verC_ok {a b c : UInt8} (h : digI a.toNat = true ∧ b.toNat = 46 ∧ digI c.toNat = true) (h2 : ¬ (a.toNat ≠ 49 ∨ 49 < c.toNat)) : verC a b c = ((c.toNat : Int) - 48, 0) := by unfold verC; rw [if_pos h, if_neg h2]
theorem ret_pair {a b c d : Int} (h : (a, b) = (c, d)) : Ending.returned (.tuple #[.int .i64 a, .int .i64 b]) = .returned (.tuple #[.int .i64 c, .int .i64 d]) := by
  cases h; rfl
theorem getD_drop (l : List UInt8) (r : ByteArray) (h : r.data.toList = l.drop 5) (i : Nat) (hi : i < r.size) : l.getD (5 + i) 0 = r[i] := by
  have h1 : r.data.toList[i]? = some r[i] := by
    have : i < r.data.toList.length := by simpa using hi
    rw [List.getElem?_eq_getElem this]; rfl
  rw [h, List.getElem?_drop] at h1
  simp [List.getD, h1]

set_option maxHeartbeats 800000 in
theorem version_any (s : ByteArray) (w : World) :
    Calls Tryz.prog 22 #[.string s] w fun e w' => e = .returned (.tuple #[.int .i64 (ver s.data.toList).1, .int .i64 (ver s.data.toList).2]) ∧ w = w' := by
  cases hp : Lib.hasPrefix s.data.toList verP
  · have hv : ver s.data.toList = (0, 400) := by unfold ver; rw [if_neg (by rw [hp]; simp)]
    have HV := Lib.hid hv
    have hc := fun w => cutp_any s ⟨#[72, 84, 84, 80, 47]⟩ s false (by unfold Lib.trimPrefix; rw [if_neg]; rw [show (⟨#[72, 84, 84, 80, 47]⟩ : ByteArray).data.toList = verP from rfl, hp]; decide) hp.symm w
    have HC := hide hc
    clear hv hp hc
    go_enter Tryz.func22, Tryz.ntmps22
    go_wp2_with (go_at_call 44; refine (unhide HC _).mono ?_; rintro e w' ⟨rfl, rfl⟩)
    go_ret2
    exact ⟨by rw [HV.out]; rfl, rfl⟩
  · obtain ⟨r, hr⟩ : ∃ r : ByteArray, r.data.toList = s.data.toList.drop 5 := ⟨⟨(s.data.toList.drop 5).toArray⟩, rfl⟩
    have hc := fun w => cutp_any s ⟨#[72, 84, 84, 80, 47]⟩ r true (by unfold Lib.trimPrefix; rw [if_pos (by exact hp), hr]; rfl) hp.symm w
    have HC := hide hc
    have hsz : r.size = (s.data.toList.drop 5).length := by rw [← hr]; simp
    by_cases h3 : r.size = 3
    · have k0 : 0 < r.size := by rw [h3]; decide
      have k1 : 1 < r.size := by rw [h3]; decide
      have k2 : 2 < r.size := by rw [h3]; decide
      have hv : ver s.data.toList = verC (r[0]'k0) (r[1]'k1) (r[2]'k2) := by
        unfold ver
        rw [if_pos ⟨hp, by rw [← hsz]; exact h3⟩, ← getD_drop _ r hr 0 (by omega), ← getD_drop _ r hr 1 (by omega), ← getD_drop _ r hr 2 (by omega)]
      have HV := Lib.hid hv
      clear hv hp hc hr hsz
      cases h0d : digI (r[0]'k0).toNat <;> cases h2d : digI (r[2]'k2).toNat
      all_goals (try have hD2 := digI_t h2d)
      all_goals
        go_enter Tryz.func22, Tryz.ntmps22
        go_wp2_with (first | (go_at_call 44; refine (unhide HC _).mono ?_; rintro e w' ⟨rfl, rfl⟩) | (go_at_call 45; refine (digit_any _ _).mono ?_; rintro e w' ⟨rfl, rfl⟩))
        all_goals
          go_ret2
          rw [HV.out]
          first
            | (rw [verC_bad (by rintro ⟨h1, h2, h3⟩; first | (simp_all; done) | omega)]; exact ⟨rfl, rfl⟩)
            | (rw [verC_other ⟨h0d, by omega, h2d⟩ (by omega)]; exact ⟨rfl, rfl⟩)
            | (rw [verC_ok ⟨h0d, by omega, h2d⟩ (by omega)]; exact ⟨rfl, rfl⟩)
    · have hv : ver s.data.toList = (0, 400) := by unfold ver; rw [if_neg]; rw [← hsz]; exact fun h => h3 h.2
      have HV := Lib.hid hv
      have h3' : ((r.size : Int) != 3) = true := by rw [bne_iff_ne]; omega
      clear hv hp hc h3 hr hsz
      go_enter Tryz.func22, Tryz.ntmps22
      go_wp2_with (go_at_call 44; refine (unhide HC _).mono ?_; rintro e w' ⟨rfl, rfl⟩)
      go_ret2
      exact ⟨by rw [HV.out]; rfl, rfl⟩
end Go.Proofs.YtfkobhagdjaleaaGreatDoor.Sp
