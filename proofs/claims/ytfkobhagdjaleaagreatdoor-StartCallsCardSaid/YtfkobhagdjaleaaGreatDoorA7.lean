/- start.port, Host. -/
import Derived.Test.YtfkobhagdjaleaaGreatDoorA6
import Derived.Lib.IndexBytes
namespace Go.Proofs.YtfkobhagdjaleaaGreatDoor.Sp
open Go.RowKit

def tailP (l : List UInt8) (n : Nat) : Int × Bool :=
  if n = 0 then (0, false) else if n = l.length then (0, true) else
    (((Lib.trimPrefix (l.drop n) [58]).length : Int), Lib.hasPrefix (l.drop n) [58] && decide ((Lib.trimPrefix (l.drop n) [58]).length ≤ 5) && decide (runN digI (Lib.trimPrefix (l.drop n) [58]) = (Lib.trimPrefix (l.drop n) [58]).length))
def brackOK (r : List UInt8) : Prop := runN addrI r ≠ 0 ∧ runN addrI r < r.length ∧ r.getD (runN addrI r) 0 = 93
instance (r : List UInt8) : Decidable (brackOK r) := inferInstanceAs (Decidable (_ ∧ _ ∧ _))
def portS (l : List UInt8) : Int × Bool :=
  if Lib.hasPrefix l [91] = true then (if brackOK (l.drop 1) then tailP l (runN addrI (l.drop 1) + 2) else (0, false)) else tailP l (runN hostI l)

theorem runN_le (p : Int → Bool) (l : List UInt8) : runN p l ≤ l.length := by
  unfold runN; exact (List.takeWhile_sublist _).length_le
theorem prefix_pos {l : List UInt8} {c : UInt8} (h : Lib.hasPrefix l [c] = true) : ∃ t, l = c :: t := by
  cases l with
  | nil => simp [Lib.hasPrefix, List.isPrefixOf] at h
  | cons b t => simp [Lib.hasPrefix, List.isPrefixOf] at h; exact ⟨t, by rw [h]⟩

theorem ret_pb {a c : Int} {b d : Bool} (h : (a, b) = (c, d)) : Ending.returned (.tuple #[.int .i64 a, .bool b]) = .returned (.tuple #[.int .i64 c, .bool d]) := by cases h; rfl

set_option maxHeartbeats 1000000 in
theorem port_any (s : ByteArray) (hs : s.size ≤ 9223372036854775807) (w : World) :
    Calls Tryz.prog 28 #[.string s] w fun e w' => e = .returned (.tuple #[.int .i64 (portS s.data.toList).1, .bool (portS s.data.toList).2]) ∧ w = w' := by
  obtain ⟨r, hr⟩ := of_list (Lib.trimPrefix s.data.toList [91])
  obtain ⟨br, hbr⟩ : ∃ b, b = Lib.hasPrefix s.data.toList [91] := ⟨_, rfl⟩
  obtain ⟨n, hn⟩ : ∃ n, n = runN hostI s.data.toList := ⟨_, rfl⟩
  obtain ⟨k, hk⟩ : ∃ k, k = runN addrI r.data.toList := ⟨_, rfl⟩
  have zs : s.data.toList.length = s.size := by simp
  have zr : r.data.toList.length = r.size := by simp
  have ln := runN_le hostI s.data.toList
  have lk := runN_le addrI r.data.toList
  rw [← hn, zs] at ln
  rw [← hk, zr] at lk
  have lr : br = true → r.size + 1 = s.size := fun h => by
    rw [hbr] at h
    rw [← zs, ← zr, hr]
    unfold Lib.trimPrefix
    rw [if_pos h]
    obtain ⟨t, ht⟩ := prefix_pos h
    rw [ht]; simp
  have rs : r.size ≤ 9223372036854775807 := by
    have : r.data.toList.length ≤ s.data.toList.length := by rw [hr]; unfold Lib.trimPrefix; split <;> simp
    omega
  have c0 := hide (fun w => cutp_any s ⟨#[91]⟩ r br hr hbr w)
  have c1 := hide (fun w => run_any 55 hostI (fun c w => hostByte_any c w) (fun _ _ => by kernel_rfl) s hs w)
  have c2 := hide (fun w => run_any 56 addrI (fun c w => address_any c w) (fun _ _ => by kernel_rfl) r rs w)
  rw [← hn] at c1
  rw [← hk] at c2
  have HN := Lib.hid hn
  have HK := Lib.hid hk
  have HR := Lib.hid hr
  have HB := Lib.hid hbr
  have LR := hide lr
  have ZS := Lib.hid zs
  have ZR := Lib.hid zr
  clear hn hk hr hbr lr zs zr
  go_enter Tryz.func28, Tryz.ntmps28
  go_wp2_with fail
  refine (unhide c1 _).mono ?_; rintro e w' ⟨rfl, rfl⟩
  go_wp2_with fail
  refine (unhide c0 _).mono ?_; rintro e w' ⟨rfl, rfl⟩
  clear c0 c1
  go_upto_if 17 with fail
  go_cut [4] (fun v wc => ∃ m : Nat, m ≤ s.size ∧ v = .int .i64 m ∧ w = wc ∧ portS s.data.toList = tailP s.data.toList m)
  case first =>
    cases br
    · go_wp2_with fail
      go_meet
      exact ⟨n, ln, rfl, rfl, by unfold portS; rw [← HB.out]; simp only [Bool.false_eq_true, if_false]; rw [← HN.out]⟩
    · have hlr := unhide LR rfl
      clear LR
      have hd : r.data.toList = s.data.toList.drop 1 := by rw [HR.out]; unfold Lib.trimPrefix; rw [if_pos HB.out.symm]; rfl
      have HD := Lib.hid hd
      clear hd
      have hz : ((k : Int) == 0) = decide (k = 0) := beq_cast k 0
      have he : ((k : Int) == (r.size : Int)) = decide (k = r.size) := beq_cast k _
      by_cases k0 : k = 0
      · have hz' : ((k : Int) == 0) = true := by rw [hz]; simp [k0]
        clear hz he
        have hP : portS s.data.toList = (0, false) := by unfold portS; rw [← HB.out, if_pos rfl, ← HD.out, if_neg]; rintro ⟨h, _⟩; rw [← HK.out] at h; exact h k0
        have HP := Lib.hid hP
        clear hP k0
        go_wp2_with (go_at_call 54; refine (unhide c2 _).mono ?_; rintro e w' ⟨rfl, rfl⟩)
        go_ret2
        exact ⟨by rw [HP.out]; rfl, rfl⟩
      have hz' : ((k : Int) == 0) = false := by rw [hz]; simp [k0]
      by_cases ke : k = r.size
      · have he' : ((k : Int) == (r.size : Int)) = true := by rw [he]; simp [ke]
        clear hz he
        have hP : portS s.data.toList = (0, false) := by unfold portS; rw [← HB.out, if_pos rfl, ← HD.out, if_neg]; rintro ⟨_, h, _⟩; rw [← HK.out, ZR.out] at h; omega
        have HP := Lib.hid hP
        clear hP k0 ke
        go_wp2_with (go_at_call 54; refine (unhide c2 _).mono ?_; rintro e w' ⟨rfl, rfl⟩)
        go_ret2
        exact ⟨by rw [HP.out]; rfl, rfl⟩
      have he' : ((k : Int) == (r.size : Int)) = false := by rw [he]; simp [ke]
      clear hz he
      have klt : k < r.size := by omega
      clear ke lk
      have hg : r.data.toList.getD k 0 = r[k] := by
        have : k < r.data.toList.length := by rw [ZR.out]; exact klt
        rw [List.getD_eq_getElem?_getD, List.getElem?_eq_getElem this]
        rfl
      by_cases hq : r[k].toNat = 93
      · have hP : portS s.data.toList = tailP s.data.toList (k + 2) := by
          unfold portS
          rw [← HB.out, if_pos rfl, ← HD.out, if_pos, ← HK.out]
          refine ⟨by rw [← HK.out]; exact k0, by rw [← HK.out, ZR.out]; exact klt, ?_⟩
          rw [← HK.out, hg]
          exact UInt8.toNat_inj.1 hq
        have HP := Lib.hid hP
        have hq' : ((r[k].toNat : Int) != 93) = false := by rw [hq]; rfl
        clear hP hq hg k0
        go_wp2_with (go_at_call 54; refine (unhide c2 _).mono ?_; rintro e w' ⟨rfl, rfl⟩)
        go_meet
        exact ⟨k + 2, by omega, by go_num, rfl, HP.out⟩
      · have hP : portS s.data.toList = (0, false) := by
          unfold portS
          rw [← HB.out, if_pos rfl, ← HD.out, if_neg]
          rintro ⟨_, _, h⟩
          rw [← HK.out, hg] at h
          exact hq (by rw [h]; rfl)
        have HP := Lib.hid hP
        have hq' : ((r[k].toNat : Int) != 93) = true := by rw [bne_iff_ne]; omega
        clear hP hq hg k0
        go_wp2_with (go_at_call 54; refine (unhide c2 _).mono ?_; rintro e w' ⟨rfl, rfl⟩)
        go_ret2
        exact ⟨by rw [HP.out]; rfl, rfl⟩
  case rest =>
    obtain ⟨m, hm, rfl, rfl, hP⟩ := hcut
    have HP := Lib.hid hP
    clear hP c2 HN HK HR HB LR ln lk rs ZR
    by_cases m0 : m = 0
    · subst m0
      go_wp2_with fail
      go_ret2
      exact ⟨by rw [HP.out]; rfl, rfl⟩
    have mz : ((m : Int) == 0) = false := by simp; omega
    have mp : 0 < m := by omega
    by_cases me : m = s.size
    · have hT : tailP s.data.toList m = (0, true) := by unfold tailP; rw [if_neg m0, if_pos (by rw [ZS.out]; exact me)]
      have HT := Lib.hid hT
      have me' : ((m : Int) == (s.size : Int)) = true := by rw [me]; simp
      clear hT m0 me
      go_wp2_with fail
      go_ret2
      exact ⟨by rw [HP.out, HT.out]; rfl, rfl⟩
    have me' : ((m : Int) == (s.size : Int)) = false := by simp; omega
    have mlt : m < s.size := by omega
    obtain ⟨q, hq⟩ := of_list (Lib.trimPrefix (s.data.toList.drop m) [58])
    obtain ⟨co, hco⟩ : ∃ b, b = Lib.hasPrefix (s.data.toList.drop m) [58] := ⟨_, rfl⟩
    have hT : tailP s.data.toList m = ((q.size : Int), co && decide (q.size ≤ 5) && decide (runN digI q.data.toList = q.size)) := by
      unfold tailP
      rw [if_neg m0, if_neg (by rw [ZS.out]; exact me), ← hq, ← hco]
      simp
    have hx : (s.extract m s.size).data.toList = s.data.toList.drop m := Lib.extract_to_end s m
    have qs : q.size ≤ 9223372036854775807 := by
      have : q.data.toList.length ≤ s.data.toList.length := by rw [hq]; unfold Lib.trimPrefix; split <;> simp <;> omega
      have e : q.data.toList.length = q.size := by simp
      have := ZS.out
      omega
    have c3 := hide (fun w => cutp_any (s.extract m s.size) ⟨#[58]⟩ q co (by rw [hx]; exact hq) (by rw [hx]; exact hco) w)
    have c4 := hide (fun w => run_any 45 digI (fun c w => digit_any c w) (fun _ _ => by kernel_rfl) q qs w)
    have HT := Lib.hid hT
    clear hT m0 me hq hco hx
    go_wp2_with fail
    refine (unhide c3 _).mono ?_; rintro e w' ⟨rfl, rfl⟩
    clear c3
    cases co
    · go_wp2_with fail
      go_ret2
      exact ⟨by rw [HP.out, HT.out]; rfl, rfl⟩
    by_cases h5 : q.size ≤ 5
    · have h5i : decide ((q.size : Int) ≤ 5) = true := decide_eq_true (by omega)
      go_wp2_with (go_at_call 54; refine (unhide c4 _).mono ?_; rintro e w' ⟨rfl, rfl⟩)
      go_ret2
      exact ⟨by rw [HP.out, HT.out]; exact ret_pb (by rw [beq_cast, decide_eq_true h5]; rfl), rfl⟩
    · have h5i : decide ((q.size : Int) ≤ 5) = false := decide_eq_false (by omega)
      go_wp2_with fail
      go_ret2
      exact ⟨by rw [HP.out, HT.out]; exact ret_pb (by rw [decide_eq_false h5]; rfl), rfl⟩

theorem host_any (s : ByteArray) (hs : s.size ≤ 9223372036854775807) (w : World) :
    Calls Tryz.prog 13 #[.string s] w fun e w' => e = .returned (.bool (portS s.data.toList).2) ∧ w = w' := by
  go_enter Tryz.func13, Tryz.ntmps13
  go_wp2_with (go_at_call 28; refine (port_any s hs _).mono ?_; rintro e w' ⟨rfl, rfl⟩)
  go_ret
  exact ⟨rfl, rfl⟩
end Go.Proofs.YtfkobhagdjaleaaGreatDoor.Sp
