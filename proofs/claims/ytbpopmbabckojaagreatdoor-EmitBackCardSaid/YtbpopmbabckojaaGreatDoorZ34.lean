/- Lemmas for the statement's proof, several texts in one: Dg, M13, E26. -/
import Derived.Test.YtbpopmbabckojaaGreatDoorZ11
import Derived.Test.YtbpopmbabckojaaGreatDoorZ02
import Derived.Test.YtbpopmbabckojaaGreatDoorZ32
import Derived.Test.YtbpopmbabckojaaGreatDoorZ20
import Derived.Test.YtbpopmbabckojaaGreatDoorZ10
set_option linter.unusedVariables false
set_option linter.unusedSimpArgs false
/- The reference's Digits. -/
section
namespace Go.Proofs.YtbpopmbabckojaaGreatDoor.Sp
open Go.RowKit

set_option maxRecDepth 100000 in
set_option maxHeartbeats 1000000 in
theorem digits_low (u : Nat) (hlt : u < 10) (w : World) : Calls Tryz.prog 52 #[.int .i64 u] w fun e w' => e = .returned (.string (decB u)) ∧ w = w' := by
  have hs := Lib.hid (dec_small u hlt)
  unfold tenB at hs
  go_enter Tryz.func52, Tryz.ntmps52
  go_wp2_with fail
  go_ret
  exact ⟨congrArg (fun x => Ending.returned (.string x)) hs.out, rfl⟩
set_option maxRecDepth 100000 in
set_option maxHeartbeats 1000000 in
theorem digits_nat (n : Nat) : ∀ (u : Nat), u ≤ n → u ≤ 9223372036854775807 → ∀ w : World, Calls Tryz.prog 52 #[.int .i64 u] w fun e w' => e = .returned (.string (decB u)) ∧ w = w' := by
  induction n with
  | zero =>
    intro u hu hm w
    exact digits_low u (by omega) w
  | succ n ih =>
    intro u hu hm w
    rcases Nat.lt_or_ge u 10 with hlt | hge
    · exact digits_low u hlt w
    · have i1 := hide (ih (u / 10) (by omega) (by omega))
      have i2 := hide (ih (u % 10) (by omega) (by omega))
      have hm := Lib.hid (dec_more u hge)
      have z1 := decB_20 (u / 10) (by omega)
      have z2 := decB_20 (u % 10) (by omega)
      obtain ⟨a, ha⟩ : ∃ a, u / 10 = a := ⟨_, rfl⟩
      obtain ⟨b, hb⟩ : ∃ b, u % 10 = b := ⟨_, rfl⟩
      rw [ha] at i1 hm z1
      rw [hb] at i2 hm z2
      have hd : Int.tdiv (u : Int) 10 = (a : Int) := by rw [Int.tdiv_eq_ediv_of_nonneg (by omega)]; omega
      have hr : Int.tmod (u : Int) 10 = (b : Int) := by rw [Int.tmod_eq_emod_of_nonneg (by omega)]; omega
      have hd2 : (u : Int) / 10 = (a : Int) := by omega
      have hr2 : (u : Int) % 10 = (b : Int) := by omega
      clear ha hb
      go_enter Tryz.func52, Tryz.ntmps52
      go_wp2_with (first | (have h7 := firstDone; go_at_call 52; refine (unhide i2 _).mono ?_; rintro e w1 ⟨rfl, rfl⟩) | (go_at_call 52; refine (unhide i1 _).mono ?_; rintro e w1 ⟨rfl, rfl⟩; have firstDone := True.intro))
      go_ret
      exact ⟨by rw [hm.out] <;> rfl, rfl⟩

set_option maxRecDepth 100000 in
set_option maxHeartbeats 1000000 in
theorem digits_any (n : Int) (h0 : -9223372036854775808 ≤ n) (h1 : n ≤ 9223372036854775807) (w : World) : Calls Tryz.prog 52 #[.int .i64 n] w fun e w' => e = .returned (.string (itoaB n)) ∧ w = w' := by
  rcases Int.lt_or_le n 0 with hneg | hpos
  · by_cases hmin : n = -9223372036854775808
    · have hlit : (⟨#[45, 57, 50, 50, 51, 51, 55, 50, 48, 51, 54, 56, 53, 52, 55, 55, 53, 56, 48, 56]⟩ : ByteArray) = itoaB n := by
        rw [hmin]
        have h : Lib.itoa (-9223372036854775808) = [45, 57, 50, 50, 51, 51, 55, 50, 48, 51, 54, 56, 53, 52, 55, 55, 53, 56, 48, 56] := by decide +kernel
        unfold itoaB
        rw [h]
      have HL := Lib.hid hlit
      have hw : IntKind.i64.wrap (-n) = n := by rw [hmin, IntKind.wrap_i64]; decide
      clear hlit hmin
      go_enter Tryz.func52, Tryz.ntmps52
      go_wp2_with fail
      go_ret
      exact ⟨by rw [← HL.out] <;> rfl, rfl⟩
    · have hi := hide (digits_nat n.natAbs n.natAbs (Nat.le_refl _) (by omega))
      have e : ((n.natAbs : Nat) : Int) = -n := by omega
      rw [e] at hi
      have hw : IntKind.i64.wrap (-n) = -n := IntWalk.i64_in _ (by omega)
      have hne : (n == -n) = false := by rw [beq_eq_false_iff_ne]; omega
      have HN := Lib.hid (itoa_neg n hneg)
      have hz := decB_20 n.natAbs (by omega)
      obtain ⟨d, hd⟩ : ∃ d, decB n.natAbs = d := ⟨_, rfl⟩
      rw [hd] at hi HN hz
      clear e hd
      go_enter Tryz.func52, Tryz.ntmps52
      go_wp2_with (go_at_call 52; refine (unhide hi _).mono ?_; rintro e w1 ⟨rfl, rfl⟩)
      go_ret
      exact ⟨by rw [← HN.out] <;> rfl, rfl⟩
  · have := digits_nat n.toNat n.toNat (Nat.le_refl _) (by omega) w
    rw [show ((n.toNat : Nat) : Int) = n by omega, itoa_pos n hpos] at this
    exact this

end Go.Proofs.YtbpopmbabckojaaGreatDoor.Sp
end

/- halfwayhouse/halfwayhouseref08.Request. -/
section
namespace Go.Proofs.YtbpopmbabckojaaGreatDoor.Sp
open Go.RowKit Sl

/-- the world's part of a message that may be told -/
theorem rput_of (me ta re bo : ByteArray) (st mi : Int) (F T : List Fld) (h1 : me.size ≤ 1000000) (h2 : ta.size ≤ 1000000) (h3 : re.size ≤ 1000000) (hF : Few F) (ao bo' : Option Addr) (c1 n2 c2 : Nat) (w : World)
    (hv : Rd w (.slice ao F.length c1) F.length 2 (fldV F)) (hok : (lineS me ta re st mi).2 = 0 ∧ F.all chkS = true ∧ T.all chkS = true) (more body : ByteArray) (zm : more.size ≤ 1000000) (zb : body.size ≤ 1000000) (zl : (ofL (lineS me ta re st mi).1).size ≤ 100000000)
    (w1 : World) (hb1 : Below w.heap.size w w1) :
    Calls Tryz.prog 53 #[.agg (msgV me ta st re mi (.slice ao F.length c1) bo (.slice bo' n2 c2)), .string more, .string body] w1 fun e w' => e = .returned (.string (headM me ta re st mi F more body)) ∧ Below w1.heap.size w1 w' := by
  have hl1 := linesL_len 4004 F (fun f hf => by have := hF.2 f hf; omega)
  have hl2 : (linesL F).length ≤ 400400 := by have := hF.1; omega
  have hl3 : (ofL (linesL F)).size ≤ 100000000 := by
    have e : (ofL (linesL F)).size = (linesL F).length := by simp [ofL, ByteArray.size]
    omega
  refine rput_any me ta re bo more body _ _ st mi 0 0 ao bo' F.length c1 n2 c2 w1 (fun w2 => ?_) (fun w2 hb2 => ?_) zl hl3 zm zb
  · refine (r8line_any me ta re bo st mi ao bo' F.length c1 n2 c2 h1 h2 h3 w2).mono ?_
    rintro e w3 ⟨rfl, hb3⟩
    rw [hok.1]
    exact ⟨rfl, hb3⟩
  · refine (rbytes_any _ F (by have := hF.1; omega) (fun f hf => by have := hF.2 f hf; omega) w2 (hv.below (hb1.trans (hb2.mono hb1.size)))).mono ?_
    rintro e w3 ⟨he, hb3⟩
    unfold BytesO errI at he
    rw [hok.2.1] at he
    exact ⟨he, hb3⟩

set_option maxRecDepth 100000 in
set_option maxHeartbeats 4000000 in
theorem rreq_any (me ta re bo : ByteArray) (st mi : Int) (fs tr : Value) (F T : List Fld) (h1 : me.size ≤ 1000000) (h2 : ta.size ≤ 1000000) (h3 : re.size ≤ 1000000)  (h4 : bo.size ≤ 1000000) (zl : (ofL (lineS me ta re st mi).1).size ≤ 100000000) (hF : Few F) (hTr : Few T) (w : World)
    (hv : Rd w fs F.length 2 (fldV F)) (hu : Rd w tr T.length 2 (fldV T)) :
    Calls Tryz.prog 30 #[.agg (msgV me ta st re mi fs bo tr)] w (OutS (reqS me ta re bo st mi F T) w) := by
  obtain ⟨ao, c1, rfl⟩ := hv.form
  obtain ⟨bo', c2, rfl⟩ := hu.form
  have q0 := hide (fun w1 (hb : Below w.heap.size w w1) => rcheck8_any me ta re bo st mi _ _ F T h1 h2 h3 hF hTr w1 (hv.below hb) (hu.below hb))
  have qd := hide (fun w => digits_any bo.size (by omega) (by omega) w)
  have qt := hide (fun hok more body zm zb w1 hb1 => rput_of me ta re bo st mi F T h1 h2 h3 hF ao bo' c1 T.length c2 w hv hok more body zm zb zl w1 hb1)
  have hi20 := itoa_size bo.size (by omega) (by omega)
  clear hv hu
  have HB := hide ((Below.refl w.heap.size w).alloc (Nat.le_refl _) (.cells #[.string me, .string ta, .int .i64 st, .string re, .int .i64 mi, .slice ao F.length c1, .string bo, .slice bo' T.length c2] 24))
  have H := hide (Reg.Has.at w w.heap.size [.string me, .string ta, .int .i64 st, .string re, .int .i64 mi, .slice ao F.length c1, .string bo, .slice bo' T.length c2] 24 rfl)
  unfold msgV at q0 qt ⊢
  by_cases hem : emC me ta re st mi F T = 0
  rotate_left
  · have hE := Lib.hid (show reqS me ta re bo st mi F T = (⟨#[]⟩, emC me ta re st mi F T) by unfold reqS; rw [if_neg hem])
    have hne : (emC me ta re st mi F T != 0) = true := by rw [bne_iff_ne]; exact hem
    have hne2 : (emC me ta re st mi F T == 0) = false := by rw [beq_eq_false_iff_ne]; exact hem
    generalize emC me ta re st mi F T = em at *
    clear hem
    go_enter Tryz.func30, Tryz.ntmps30
    go_wp2_with fail
    refine (unhide q0 _ (unhide HB)).mono ?_; rintro e w1 ⟨rfl, hb1⟩
    have HB1 := hide ((unhide HB).trans (hb1.mono (unhide HB).size))
    clear hb1
    go_wp2_with fail
    go_ret2
    exact out_at hE.out (unhide HB1)
  have hok := hide (emC_line hem)
  have hE := Lib.hid (show reqS me ta re bo st mi F T = if me.toList.isEmpty = true then (⟨#[]⟩, 4) else (headM me ta re st mi F (if postM me = true ∨ bo.toList.isEmpty = false then clN bo else ⟨#[]⟩) bo, 0) by unfold reqS; rw [if_pos hem])
  rw [hem] at q0
  clear hem
  cases em : me.toList.isEmpty
  rotate_left
  · have hE2 := Lib.hid (show reqS me ta re bo st mi F T = (⟨#[]⟩, 4) by rw [hE.out, if_pos em])
    go_enter Tryz.func30, Tryz.ntmps30
    go_wp2_with fail
    refine (unhide q0 _ (unhide HB)).mono ?_; rintro e w1 ⟨rfl, hb1⟩
    have HB1 := hide ((unhide HB).trans (hb1.mono (unhide HB).size))
    have H1 := (unhide H).call hb1
    clear hb1
    have pq0 := H1.cell 0 _ rfl; have pq1 := H1.cell 1 _ rfl; have pq2 := H1.cell 2 _ rfl; have pq3 := H1.cell 3 _ rfl; have pq4 := H1.cell 4 _ rfl; have pq5 := H1.cell 5 _ rfl; have pq6 := H1.cell 6 _ rfl; have pq7 := H1.cell 7 _ rfl; have zq := H1.lt
    go_wp2_with fail
    go_ret2
    exact out_at hE2.out (unhide HB1)
  have hE2 := Lib.hid (show reqS me ta re bo st mi F T = (headM me ta re st mi F (if postM me = true ∨ bo.toList.isEmpty = false then clN bo else ⟨#[]⟩) bo, 0) by rw [hE.out, if_neg (by rw [em]; decide)])
  clear hE
  have q2a := hide (unhide qt (unhide hok))
  clear qt hok
  have hcases : ((me.toList == [80, 79, 83, 84]) = true) ∨ ((me.toList == [80, 79, 83, 84]) = false ∧ (me.toList == [80, 85, 84]) = true) ∨ ((me.toList == [80, 79, 83, 84]) = false ∧ (me.toList == [80, 85, 84]) = false ∧ (me.toList == [80, 65, 84, 67, 72]) = true) ∨ ((me.toList == [80, 79, 83, 84]) = false ∧ (me.toList == [80, 85, 84]) = false ∧ (me.toList == [80, 65, 84, 67, 72]) = false) := by
    cases me.toList == [80, 79, 83, 84] <;> cases me.toList == [80, 85, 84] <;> cases me.toList == [80, 65, 84, 67, 72] <;> simp
  by_cases hN : postM me = true ∨ bo.toList.isEmpty = false
  · have hE3 := Lib.hid (show reqS me ta re bo st mi F T = (headM me ta re st mi F (⟨#[67, 111, 110, 116, 101, 110, 116, 45, 76, 101, 110, 103, 116, 104, 58, 32]⟩ ++ itoaB bo.size) bo, 0) by rw [hE2.out, if_pos hN]; rfl)
    have hN2 : (postM me = false ∧ bo.toList.isEmpty = true) → False := by rintro ⟨a, b⟩; rw [a, b] at hN; simp at hN
    clear hE2 hN
    unfold postM at hN2
    rcases hcases with g1 | ⟨g1, g2⟩ | ⟨g1, g2, g3⟩ | ⟨g1, g2, g3⟩
    all_goals cases eb : bo.toList.isEmpty
    rotate_right
    · exact absurd ⟨by rw [g1, g2, g3]; rfl, eb⟩ hN2
    all_goals clear hN2
    all_goals
      go_enter Tryz.func30, Tryz.ntmps30
      go_wp2_with fail
      refine (unhide q0 _ (unhide HB)).mono ?_; rintro e w1 ⟨rfl, hb1⟩
      have HB1 := hide ((unhide HB).trans (hb1.mono (unhide HB).size))
      have H1 := (unhide H).call hb1
      clear hb1
      have pq0 := H1.cell 0 _ rfl; have pq1 := H1.cell 1 _ rfl; have pq2 := H1.cell 2 _ rfl; have pq3 := H1.cell 3 _ rfl; have pq4 := H1.cell 4 _ rfl; have pq5 := H1.cell 5 _ rfl; have pq6 := H1.cell 6 _ rfl; have pq7 := H1.cell 7 _ rfl; have zq := H1.lt
      go_wp2_with fail
      refine (unhide qd _).mono ?_; rintro e w' ⟨rfl, rfl⟩
      have hcl : (⟨#[67, 111, 110, 116, 101, 110, 116, 45, 76, 101, 110, 103, 116, 104, 58, 32]⟩ : ByteArray).size = 16 := rfl
      go_wp2_with fail
      refine (unhide q2a _ _ (by rw [ByteArray.size_append]; omega) h4 _ (unhide HB1)).mono ?_; rintro e w5 ⟨rfl, hb5⟩
      have HB5 := hide ((unhide HB1).trans (hb5.mono (unhide HB1).size))
      clear hb5
      go_wp2_with fail
      go_ret2
      exact out_at hE3.out (unhide HB5)
  · have hE3 := Lib.hid (show reqS me ta re bo st mi F T = (headM me ta re st mi F ⟨#[]⟩ bo, 0) by rw [hE2.out, if_neg hN])
    have g : ((me.toList == [80, 79, 83, 84]) = false ∧ (me.toList == [80, 85, 84]) = false ∧ (me.toList == [80, 65, 84, 67, 72]) = false) ∧ bo.toList.isEmpty = true := by
      rw [not_or] at hN
      obtain ⟨a, c⟩ := hN
      unfold postM at a
      refine ⟨?_, by simpa using c⟩
      rcases hcases with g1 | ⟨g1, g2⟩ | ⟨g1, g2, g3⟩ | ⟨g1, g2, g3⟩
      · rw [g1] at a; simp at a
      · rw [g2] at a; simp at a
      · rw [g3] at a; simp at a
      · exact ⟨g1, g2, g3⟩
    obtain ⟨⟨g1, g2, g3⟩, eb⟩ := g
    clear hE2 hN hcases
    go_enter Tryz.func30, Tryz.ntmps30
    go_wp2_with fail
    refine (unhide q0 _ (unhide HB)).mono ?_; rintro e w1 ⟨rfl, hb1⟩
    have HB1 := hide ((unhide HB).trans (hb1.mono (unhide HB).size))
    have H1 := (unhide H).call hb1
    clear hb1
    have pq0 := H1.cell 0 _ rfl; have pq1 := H1.cell 1 _ rfl; have pq2 := H1.cell 2 _ rfl; have pq3 := H1.cell 3 _ rfl; have pq4 := H1.cell 4 _ rfl; have pq5 := H1.cell 5 _ rfl; have pq6 := H1.cell 6 _ rfl; have pq7 := H1.cell 7 _ rfl; have zq := H1.lt
    go_wp2_with fail
    refine (unhide q2a _ _ (by decide) h4 _ (unhide HB1)).mono ?_; rintro e w5 ⟨rfl, hb5⟩
    have HB5 := hide ((unhide HB1).trans (hb5.mono (unhide HB1).size))
    clear hb5
    go_wp2_with fail
    go_ret2
    exact out_at hE3.out (unhide HB5)
end Go.Proofs.YtbpopmbabckojaaGreatDoor.Sp
end

/- The reference's Same of fields. -/
section
namespace Go.Proofs.YtbpopmbabckojaaGreatDoor.Sp
open Go.RowKit Sl

def samePF (p : Fld × Fld) : Bool := same p.1.1.data.toList p.2.1.data.toList && p.1.2.toList == p.2.2.toList
/-- the fields are the same, names small or not -/
def sameFs (A B : List Fld) : Bool := decide (A.length = B.length) && (A.zip B).all samePF
theorem zip_step {A B : List Fld} (hl : A.length = B.length) {k : Nat} (h : k < A.length) (h2 : k < B.length) : ((A.zip B).take (k + 1)).all samePF = (((A.zip B).take k).all samePF && samePF (A[k], B[k])) := by
  have hz : k < (A.zip B).length := by rw [List.length_zip]; omega
  rw [List.take_succ_eq_append_getElem hz, List.all_append, List.getElem_zip]
  simp
theorem zip_all {A B : List Fld} (hl : A.length = B.length) : ((A.zip B).take A.length).all samePF = sameFs A B := by
  have hz : (A.zip B).length ≤ A.length := by rw [List.length_zip]; omega
  unfold sameFs
  rw [List.take_of_length_le hz, decide_eq_true hl, Bool.true_and]
theorem zip_no {A B : List Fld} {k : Nat} (h : k < A.length) (h2 : k < B.length) (hn : samePF (A[k], B[k]) = false) : sameFs A B = false := by
  have hz : k < (A.zip B).length := by rw [List.length_zip]; omega
  unfold sameFs
  rw [Bool.and_eq_false_iff]
  refine .inr ?_
  rw [List.all_eq_false]
  refine ⟨(A.zip B)[k], List.getElem_mem hz, ?_⟩
  rw [List.getElem_zip, hn]
  decide

set_option maxRecDepth 100000 in
set_option maxHeartbeats 2000000 in
theorem rsameF_any (u v : Value) (A B : List Fld) (hA : A.length ≤ 100000000) (hB : B.length ≤ 100000000) (hsA : ∀ f ∈ A, f.1.size ≤ 100000) (hsB : ∀ f ∈ B, f.1.size ≤ 100000) (w : World) (hu : Rd w u A.length 2 (fldV A)) (hv : Rd w v B.length 2 (fldV B)) :
    Calls Tryz.prog 44 #[u, v] w fun e w' => e = .returned (.bool (sameFs A B)) ∧ Below w.heap.size w w' := by
  obtain ⟨ao, cap, rfl⟩ := hu.form
  obtain ⟨bo, caq, rfl⟩ := hv.form
  have HU := hide hu
  have HV := hide hv
  have HSA := hide hsA
  have HSB := hide hsB
  clear hu hv hsA hsB
  by_cases hl : A.length = B.length
  · have HL := Lib.hid hl
    clear hl
    have hlen : (((A.length : Nat) : Int) != ((B.length : Nat) : Int)) = false := by rw [HL.out]; simp
    go_enter Tryz.func44, Tryz.ntmps44
    go_wp2_with fail
    go_loopw [5] (fun i wr => ∃ k : Nat, i = .int .i64 k ∧ k ≤ A.length ∧ ((A.zip B).take k).all samePF = true ∧ Below w.heap.size w wr) (fun i _ => A.length - (intOf i).toNat)
    case atStart => exact ⟨0, rfl, Nat.zero_le _, by simp, Below.refl _ _⟩
    case round =>
      obtain ⟨k, rfl, hk, hall, hbel⟩ := hrel
      have HA := Lib.hid hall
      have HB := hide hbel
      clear hall
      rcases Nat.lt_or_ge k A.length with hlt | hge
      · have hlt2 : k < B.length := by rw [← HL.out]; exact hlt
        obtain ⟨b, off, rfl, hb, d1, d3⟩ := fld_cells ((unhide HU).below hbel) rfl k hlt
        obtain ⟨b2, off2, rfl, hb2, d2, d4⟩ := fld_cells ((unhide HV).below hbel) rfl k hlt2
        have hzA := (unhide HSA) A[k] (List.getElem_mem _)
        have hzB := (unhide HSB) B[k] (List.getElem_mem _)
        have hst := zip_step HL.out hlt hlt2
        have hno := fun h => zip_no (A := A) (B := B) hlt hlt2 h
        obtain ⟨⟨x, x'⟩, hx⟩ : ∃ x, A[k] = x := ⟨_, rfl⟩
        obtain ⟨⟨y, y'⟩, hy⟩ : ∃ y, B[k] = y := ⟨_, rfl⟩
        rw [hx] at d1 d3 hzA hst hno
        rw [hy] at d2 d4 hzB hst hno
        rw [HA.out, Bool.true_and] at hst
        have hp : samePF ((x, x'), (y, y')) = (same x.data.toList y.data.toList && (x'.toList == y'.toList)) := rfl
        rw [hp] at hst hno
        have hc := fun w => rsame_any x y (show x.size ≤ 9223372036854775807 by have h9 : x.size ≤ 100000 := hzA; omega) (show y.size ≤ 9223372036854775807 by have h9 : y.size ≤ 100000 := hzB; omega) w
        obtain ⟨sm, hsm⟩ : ∃ sm, same x.data.toList y.data.toList = sm := ⟨_, rfl⟩
        rw [hsm] at hc hst hno
        have HC := hide hc
        have HST := Lib.hid hst
        have HNO := hide hno
        clear hbel hx hy hsm hc hst hno hp hzA hzB
        cases sm
        · have hF := (unhide HNO) rfl
          have HF := Lib.hid hF
          clear hF
          go_wp2_with fail
          refine Reg.region_more (by kernel_rfl) (by kernel_rfl) ?_
          repeat (go_big_quiet_step ((go_at_call 49; exact Reg.Calls.more (unhide HC _))))
          refine wpQuiet_nil ?_
          intro w9 hb9; obtain ⟨hc9, hf9, hz9⟩ := bcell hb9; (try simp at hz9)
          have HB9 := hide ((unhide HB).trans (hb9.mono (unhide HB).size))
          clear hb9 hc9 hf9
          go_wp2_with fail
          go_ret
          exact ⟨by rw [HF.out] <;> rfl, unhide HB9⟩
        · go_wp2_with fail
          refine Reg.region_more (by kernel_rfl) (by kernel_rfl) ?_
          repeat (go_big_quiet_step ((go_at_call 49; exact Reg.Calls.more (unhide HC _))))
          refine wpQuiet_nil ?_
          intro w9 hb9; obtain ⟨hc9, hf9, hz9⟩ := bcell hb9; (try simp at hz9)
          have HB9 := hide ((unhide HB).trans (hb9.mono (unhide HB).size))
          clear hb9 hc9 hf9
          cases hxy : (x'.toList == y'.toList)
          · have hF := (unhide HNO) (by rw [hxy]; rfl)
            have HF := Lib.hid hF
            clear hF
            go_wp2_with fail
            go_ret
            exact ⟨by rw [HF.out] <;> rfl, unhide HB9⟩
          · have hT := HST.out
            rw [hxy] at hT
            have HT := Lib.hid hT
            clear hT
            go_wp2_with fail
            go_roundw
            case rel => exact ⟨k + 1, by go_num, by omega, HT.out, unhide HB9⟩
            case measure => simp [intOf]; omega
      · have hT : sameFs A B = true := by
          have h1 := HA.out
          have h2 := zip_all HL.out
          rw [List.take_of_length_le (by rw [List.length_zip]; omega)] at h1 h2
          rw [← h2, h1]
        have HT := Lib.hid hT
        clear hT hbel
        go_wp2_with fail
        go_ret
        exact ⟨by rw [HT.out] <;> rfl, unhide HB⟩
  · have hT : sameFs A B = false := by unfold sameFs; rw [decide_eq_false hl]; rfl
    have HT := Lib.hid hT
    clear hT
    have hlen : (((A.length : Nat) : Int) != ((B.length : Nat) : Int)) = true := by rw [bne_iff_ne]; omega
    go_enter Tryz.func44, Tryz.ntmps44
    go_wp2_with fail
    go_ret
    exact ⟨by rw [HT.out] <;> rfl, Below.refl _ _⟩
end Go.Proofs.YtbpopmbabckojaaGreatDoor.Sp
end
