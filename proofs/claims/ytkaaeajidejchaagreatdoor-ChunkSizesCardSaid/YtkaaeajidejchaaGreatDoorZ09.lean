/- Lemmas for the statement's proof, several texts in one: P17, T6, L1, Frame. -/
import Derived.Test.YtkaaeajidejchaaGreatDoorZ05
import Derived.Test.YtkaaeajidejchaaGreatDoorZ08
import Derived.Test.YtkaaeajidejchaaGreatDoorZ01
import Derived.Lib.AppendIntMem
import Derived.Lib.LaidTab
import Derived.Test.YtkaaeajidejchaaGreatDoorZ04
import Derived.LaidSub
import Derived.LaidLaws
import Derived.Lib.TrailingZeros
import Derived.Test.YtkaaeajidejchaaGreatDoorRows
import Derived.WalkKit
import Derived.ProofKit
import Derived.OpenShut
import Derived.Below
import Derived.Carry
/- The walk of the law ChunkSizes. -/
namespace Go.Proofs.YtkaaeajidejchaaGreatDoor.Sp
open Go.RowKit Sl

theorem hexD_same (d1 d2 : Nat → UInt8) (n : Nat) : (hexD d1 n).length = (hexD d2 n).length := by
  induction n using Nat.strongRecOn with
  | _ n ih =>
    unfold hexD
    split
    · rfl
    · rw [List.length_append, List.length_append, ih (n / 16) (by omega)]; rfl
theorem sizeF_hex (x y : List UInt8) (hx : x.all hexB = true) (h1 : 1 ≤ x.length) (h2 : x.length ≤ 16) (hy : hexP y = 0) (hN : hexN x ≤ 9007199254740991) (hg : y = [] ∨ (y.head? = some 59 ∧ allS chr y = true)) : sizeF (x ++ y) = (hexN x, 0) := by
  have hp : hexP (x ++ y) = x.length := by rw [hexP_app x y hx, hy, Nat.add_zero]
  rw [sizeF_good (by rw [hp]; omega) (by rw [hp, List.drop_left]; exact hg), hp, List.take_left, if_neg (by omega)]
theorem sizeF_hexbad (x y : List UInt8) (hx : x.all hexB = true) (hy : hexP y = 0) (hne : y ≠ []) (hg : y.head? ≠ some 59 ∨ allS chr y = false) : sizeF (x ++ y) = (0, 400) := by
  have hp : hexP (x ++ y) = x.length := by rw [hexP_app x y hx, hy, Nat.add_zero]
  exact sizeF_bad2 (by rw [hp, List.drop_left]; exact hne) (by rw [hp, List.drop_left]; exact hg)
theorem all_rep (m : Nat) : (List.replicate m (48 : UInt8)).all hexB = true := by
  rw [List.all_eq_true]; intro c hc; rw [(List.mem_replicate.1 hc).2]; decide
def fineI (c : Int) : Bool := decide (c = 9 ∨ (32 ≤ c ∧ c ≠ 127))
theorem fineI_B (c : UInt8) : fineI c.toNat = chr c := by
  have := byte_all (fun c => fineI c.toNat == chr c) (by decide +kernel) c
  simpa using this

set_option maxRecDepth 100000 in
set_option maxHeartbeats 8000000 in
theorem csizes_any (n k : Int) (ext : ByteArray) (hn0 : -9223372036854775808 ≤ n) (hn1 : n ≤ 9223372036854775807) (hk0 : -9223372036854775808 ≤ k) (hk1 : k ≤ 9223372036854775807) (he : ext.size ≤ 9223372036854775807) (w : World) (hM : MaxV w) :
    Calls Tryz.prog 4 #[.int .i64 n, .int .i64 k, .string ext] w fun e w' => e = .returned (.bool true) ∧ Below w.heap.size w w' := by
  have c0 := hide (lives5_any w hM)
  clear hM
  rcases Int.lt_or_le n 0 with hneg | hpos
  · have t1 : decide (n < 0) = true := decide_eq_true hneg
    go_enter Tryz.func4, Tryz.ntmps4
    go_wp2_with (go_at_call 9; refine (unhide c0).mono ?_; rintro e w1 ⟨rfl, hb1⟩; have HB1 := hide hb1; clear hb1)
    go_ret
    exact ⟨rfl, unhide HB1⟩
  have t0 : ¬ n < 0 := by omega
  have t1 : decide (n < 0) = false := decide_eq_false t0
  by_cases hbig : 4503599627370496 < n
  · have t2 : decide ((4503599627370496 : Int) < n) = true := decide_eq_true hbig
    go_enter Tryz.func4, Tryz.ntmps4
    go_wp2_with (go_at_call 9; refine (unhide c0).mono ?_; rintro e w1 ⟨rfl, hb1⟩; have HB1 := hide hb1; clear hb1)
    go_ret
    exact ⟨rfl, unhide HB1⟩
  have t2 : decide ((4503599627370496 : Int) < n) = false := decide_eq_false hbig
  by_cases hex : 100 < ext.size
  · have t3 : (100 : Int) < ext.size := by omega
    have t3b : decide ((100 : Int) < ext.size) = true := decide_eq_true t3
    clear hex
    go_enter Tryz.func4, Tryz.ntmps4
    go_wp2_with (go_at_call 9; refine (unhide c0).mono ?_; rintro e w1 ⟨rfl, hb1⟩; have HB1 := hide hb1; clear hb1)
    go_ret
    exact ⟨rfl, unhide HB1⟩
  have t3 : ¬ (100 : Int) < ext.size := by omega
  have t3b : decide ((100 : Int) < ext.size) = false := decide_eq_false t3
  obtain ⟨N, rfl⟩ : ∃ N : Nat, n = N := ⟨n.toNat, by omega⟩
  have hN : N ≤ 4503599627370496 := by omega
  obtain ⟨S, hS⟩ : ∃ S : ByteArray, ofL (hexD hxC N) = S := ⟨_, rfl⟩
  obtain ⟨G, hG⟩ : ∃ S : ByteArray, ofL (hexD dgU N) = S := ⟨_, rfl⟩
  have hSd : S.data.toList = hexD hxC N := by rw [← hS]; rfl
  have hGd : G.data.toList = hexD dgU N := by rw [← hG]; rfl
  obtain ⟨len, hlen⟩ : ∃ len, (hexD hxC N).length = len := ⟨_, rfl⟩
  have hl1 : 1 ≤ len := by rw [← hlen]; exact (hexD_len N).1
  have hl2 : len ≤ 14 := by rw [← hlen]; exact (hexD_len N).2 13 (by omega)
  have hSs : S.size = len := by rw [size_list hSd, hlen]
  have hGs : G.size = len := by rw [size_list hGd, hexD_same dgU hxC, hlen]
  have CS := hide (fun w' => hexd_any ⟨#[48, 49, 50, 51, 52, 53, 54, 55, 56, 57, 97, 98, 99, 100, 101, 102]⟩ hxC (fun k h => hex16_at k h) rfl N hN w')
  have CG := hide (fun w' => hexd_any ⟨#[48, 49, 50, 51, 52, 53, 54, 55, 56, 57, 65, 66, 67, 68, 69, 70]⟩ dgU (fun k h => by
    have h1 : ∀ k : Fin 16, ((⟨#[48, 49, 50, 51, 52, 53, 54, 55, 56, 57, 65, 66, 67, 68, 69, 70]⟩ : ByteArray).extract k.val (k.val + 1)).data.toList = [dgU k.val] := by decide +kernel
    exact ba_eq (h1 ⟨k, h⟩)) rfl N hN w')
  rw [hS] at CS
  rw [hG] at CG
  obtain ⟨z, hz0, hz⟩ : ∃ z : Nat, pick k ((17 : Int) - len) = (z : Int) ∧ z + len ≤ 16 := by
    have h1 := pick_bd k ((17 : Int) - len) (by omega)
    exact ⟨(pick k ((17 : Int) - len)).toNat, by omega, by omega⟩
  have CP := hide (fun w' => pick_any k ((17 : Int) - len) w' (by omega))
  rw [hz0] at CP
  obtain ⟨Z, hZ⟩ : ∃ Z : ByteArray, ofL (List.replicate z 48) = Z := ⟨_, rfl⟩
  obtain ⟨Y, hY⟩ : ∃ Z : ByteArray, ofL (List.replicate (17 - len) 48) = Z := ⟨_, rfl⟩
  have CZ := hide (fun w' => times_any 48 z (by omega) w')
  have CY := times_any 48 (17 - len)
  rw [show ((17 - len : Nat) : Int) = (17 : Int) - len by omega] at CY
  replace CY := hide (fun w' => CY (by omega) w')
  rw [hZ] at CZ
  rw [hY] at CY
  have hZd : Z.data.toList = List.replicate z 48 := by rw [← hZ]; rfl
  have hYd : Y.data.toList = List.replicate (17 - len) 48 := by rw [← hY]; rfl
  have hZs : Z.size = z := by rw [size_list hZd]; simp
  have hYs : Y.size = 17 - len := by rw [size_list hYd]; simp
  have RA : sizeF (Z ++ S).data.toList = (N, 0) := by
    rw [app_data, hZd, hSd]
    have := sizeF_hex (List.replicate z 48 ++ hexD hxC N) [] (by rw [List.all_append, all_rep, hexD_all dgL_ok]; rfl) (by rw [List.length_append, hlen]; omega) (by rw [List.length_append, hlen]; simp; omega) rfl (by rw [hexN_zero, hexD_val dgL_ok]; omega) (.inl rfl)
    rw [List.append_nil, hexN_zero, hexD_val dgL_ok] at this
    exact this
  have RB : sizeF (Z ++ G ++ ⟨#[59]⟩).data.toList = (N, 0) := by
    rw [app_data, app_data, hZd, hGd]
    have := sizeF_hex (List.replicate z 48 ++ hexD dgU N) [59] (by rw [List.all_append, all_rep, hexD_all dgU_ok]; rfl) (by rw [List.length_append, hexD_same dgU hxC, hlen]; omega) (by rw [List.length_append, hexD_same dgU hxC, hlen]; simp; omega) rfl (by rw [hexN_zero, hexD_val dgU_ok]; omega) (.inr ⟨rfl, by decide⟩)
    rw [hexN_zero, hexD_val dgU_ok] at this
    exact this
  have RG : sizeF (Y ++ S).data.toList = (0, 400) := by
    rw [app_data, hYd, hSd]
    refine sizeF_bad1 (.inr ?_)
    have := hexP_app (List.replicate (17 - len) 48 ++ hexD hxC N) [] (by rw [List.all_append, all_rep, hexD_all dgL_ok]; rfl)
    rw [List.append_nil] at this
    rw [this, List.length_append, hlen]
    simp; omega
  have RH : sizeF (S ++ ⟨#[32]⟩).data.toList = (0, 400) := by
    rw [app_data, hSd]
    exact sizeF_hexbad (hexD hxC N) [32] (hexD_all dgL_ok N) rfl (by simp) (.inl (by simp))
  obtain ⟨fine, hfine⟩ : ∃ fine, allS chr ext.data.toList = fine := ⟨_, rfl⟩
  have RI : sizeF (S ++ ⟨#[59]⟩ ++ ext).data.toList = if fine = true then (N, 0) else (0, 400) := by
    rw [app_data, app_data, hSd, List.append_assoc]
    have h59 : allS chr ([59] ++ ext.data.toList) = fine := by rw [← hfine]; unfold allS; rw [List.all_append]; rfl
    cases fine
    · exact sizeF_hexbad (hexD hxC N) ([59] ++ ext.data.toList) (hexD_all dgL_ok N) rfl (by simp) (.inr h59)
    · have := sizeF_hex (hexD hxC N) ([59] ++ ext.data.toList) (hexD_all dgL_ok N) (by omega) (by omega) rfl (by rw [hexD_val dgL_ok]; omega) (.inr ⟨rfl, h59⟩)
      rw [hexD_val dgL_ok] at this
      exact this
  have app_s : ∀ a b : ByteArray, (a ++ b).size = a.size + b.size := fun a b => by simp
  have h1s : (⟨#[59]⟩ : ByteArray).size = 1 := rfl
  have h2s : (⟨#[32]⟩ : ByteArray).size = 1 := rfl
  have QA := fun w' => size_any (Z ++ S) (by rw [app_s]; omega) w'
  have QB := fun w' => size_any (Z ++ G ++ ⟨#[59]⟩) (by rw [app_s, app_s]; omega) w'
  have QG := fun w' => size_any (Y ++ S) (by rw [app_s]; omega) w'
  have QH := fun w' => size_any (S ++ ⟨#[32]⟩) (by rw [app_s]; omega) w'
  have QI := fun w' => size_any (S ++ ⟨#[59]⟩ ++ ext) (by rw [app_s, app_s]; omega) w'
  unfold sizeE at QA QB QG QH QI
  rw [RA] at QA
  rw [RB] at QB
  rw [RG] at QG
  rw [RH] at QH
  rw [RI] at QI
  obtain ⟨si, hsi⟩ : ∃ si : Nat, (if fine = true then (N, 0) else ((0, 400) : Nat × Nat)).2 = si := ⟨_, rfl⟩
  obtain ⟨ni, hni⟩ : ∃ si : Nat, (if fine = true then (N, 0) else ((0, 400) : Nat × Nat)).1 = si := ⟨_, rfl⟩
  rw [hsi, hni] at QI
  simp only at QA QB QG QH
  replace QA := hide QA
  replace QB := hide QB
  replace QG := hide QG
  replace QH := hide QH
  replace QI := hide QI
  have HSI := Lib.hid hsi
  have HFI := Lib.hid hfine
  have b1 : S.size ≤ 100 := by omega
  have b2 : G.size ≤ 100 := by omega
  have b3 : Z.size ≤ 100 := by omega
  have b4 : Y.size ≤ 100 := by omega
  have b5 : ext.size ≤ 100 := by omega
  have HLN := Lib.hid hSs
  have hli : ((17 : Int) - (S.size : Int)) = (17 : Int) - len := by omega
  clear RA RB RG RH RI app_s h1s h2s hsi hni hfine hS hG hSd hGd hlen hl1 hl2 hSs hGs hz0 hz hZ hY hZd hYd hZs hYs t3b hex hbig hpos t0
  go_enter Tryz.func4, Tryz.ntmps4
  go_wp2_with fail
  refine (unhide c0).mono ?_; rintro e w1 ⟨rfl, hb⟩
  have HB1 := hide hb
  clear hb c0
  go_wp2_with fail
  refine (unhide CS _).mono ?_; rintro e w2 ⟨rfl, hb⟩
  have HB2 := hide ((unhide HB1).trans (hb.mono (unhide HB1).size))
  clear hb HB1
  go_wp2_with fail
  refine (unhide CG _).mono ?_; rintro e w3 ⟨rfl, hb⟩
  have HB3 := hide ((unhide HB2).trans (hb.mono (unhide HB2).size))
  clear hb HB2
  go_wp2_with fail
  refine (unhide CP _).mono ?_; rintro e w4 ⟨rfl, rfl⟩
  go_wp2_with fail
  refine (unhide CZ _).mono ?_; rintro e w5 ⟨rfl, rfl⟩
  go_wp2_with fail
  refine (unhide QA _).mono ?_; rintro e w6 ⟨rfl, hb⟩
  have HB4 := hide ((unhide HB3).trans (hb.mono (unhide HB3).size))
  clear hb HB3
  go_wp2_with fail
  refine (unhide QB _).mono ?_; rintro e w7 ⟨rfl, hb⟩
  have HB5 := hide ((unhide HB4).trans (hb.mono (unhide HB4).size))
  clear hb HB4
  go_wp2_with fail
  refine (unhide CY _).mono ?_; rintro e w8 ⟨rfl, rfl⟩
  go_wp2_with fail
  refine (unhide QG _).mono ?_; rintro e w9 ⟨rfl, hb⟩
  have HB6 := hide ((unhide HB5).trans (hb.mono (unhide HB5).size))
  clear hb HB5
  go_wp2_with fail
  refine (unhide QH _).mono ?_; rintro e w10 ⟨rfl, hb⟩
  have HB7 := hide ((unhide HB6).trans (hb.mono (unhide HB6).size))
  clear hb HB6
  go_wp2_with fail
  refine (unhide QI _).mono ?_; rintro e w11 ⟨rfl, hb⟩
  have HB8 := hide ((unhide HB7).trans (hb.mono (unhide HB7).size))
  clear hb HB7
  go_wp2_with fail
  go_loop [20, 21] (fun f i => ∃ j : Nat, j ≤ ext.size ∧ i = .int .i64 j ∧ f = .bool ((ext.data.toList.take j).all chr)) (fun f i => ext.size - (intOf i).toNat)
  case atStart => exact ⟨0, Nat.zero_le _, rfl, rfl⟩
  case round =>
    obtain ⟨j, hj, rfl, rfl⟩ := hrel
    clear CS CG CZ CY CP QA QB QG QH QI
    rcases Nat.lt_or_ge j ext.size with hlt | hge
    · have HT := Lib.hid (all_take (q := chr) ext j hlt)
      have HC := Lib.hid (fineI_B ext[j])
      obtain ⟨b, hb⟩ : ∃ b, (ext.data.toList.take j).all chr = b := ⟨_, rfl⟩
      rw [hb]
      have HBB := Lib.hid hb
      clear hb
      cases b
      · go_wp2_with fail
        refine ⟨⟨j + 1, by omega, by go_num, ?_⟩, by simp [intOf]; omega⟩
        rw [HT.out, HBB.out]; rfl
      · obtain ⟨ch, hch⟩ : ∃ ch, chr ext[j] = ch := ⟨_, rfl⟩
        rw [hch] at HC
        have HCH := Lib.hid hch
        clear hch
        by_cases h9 : (ext[j].toNat : Int) = 9
        · have k1 : ((ext[j].toNat : Int) == 9) = true := by rw [beq_iff_eq]; exact h9
          have hch2 := Lib.hid (show ch = true by rw [← HC.out]; unfold fineI; exact decide_eq_true (.inl h9))
          clear h9
          go_wp2_with fail
          refine ⟨⟨j + 1, by omega, by go_num, ?_⟩, by simp [intOf]; omega⟩
          rw [HT.out, HBB.out, HCH.out, hch2.out]; rfl
        · have k1 : ((ext[j].toNat : Int) == 9) = false := by rw [beq_eq_false_iff_ne]; exact h9
          by_cases h32 : (32 : Int) ≤ ext[j].toNat
          · by_cases h127 : (ext[j].toNat : Int) = 127
            · have k2 : ((ext[j].toNat : Int) == 127) = true := by rw [beq_iff_eq]; exact h127
              have k3 : ((ext[j].toNat : Int) != 127) = false := by rw [bne, k2]; rfl
              have k4 : decide ((32 : Int) ≤ ext[j].toNat) = true := decide_eq_true h32
              have hch2 := Lib.hid (show ch = false by rw [← HC.out]; unfold fineI; exact decide_eq_false (by omega))
              clear h9 h127
              go_wp2_with fail
              refine ⟨⟨j + 1, by omega, by go_num, ?_⟩, by simp [intOf]; omega⟩
              rw [HT.out, HBB.out, HCH.out, hch2.out]; rfl
            · have k2 : ((ext[j].toNat : Int) == 127) = false := by rw [beq_eq_false_iff_ne]; exact h127
              have k3 : ((ext[j].toNat : Int) != 127) = true := by rw [bne, k2]; rfl
              have k4 : decide ((32 : Int) ≤ ext[j].toNat) = true := decide_eq_true h32
              have hch2 := Lib.hid (show ch = true by rw [← HC.out]; unfold fineI; exact decide_eq_true (by omega))
              clear h9 h127
              go_wp2_with fail
              refine ⟨⟨j + 1, by omega, by go_num, ?_⟩, by simp [intOf]; omega⟩
              rw [HT.out, HBB.out, HCH.out, hch2.out]; rfl
          · have k4 : decide ((32 : Int) ≤ ext[j].toNat) = false := decide_eq_false h32
            have hch2 := Lib.hid (show ch = false by rw [← HC.out]; unfold fineI; exact decide_eq_false (by omega))
            clear h9
            go_wp2_with fail
            refine ⟨⟨j + 1, by omega, by go_num, ?_⟩, by simp [intOf]; omega⟩
            rw [HT.out, HBB.out, HCH.out, hch2.out]; rfl
    · have hke : j = ext.size := by omega
      have hall : (ext.data.toList.take j).all chr = fine := by
        rw [List.take_of_length_le (by simp; omega)]; exact HFI.out
      rw [hall]
      have hji : ¬ (j : Int) < ext.size := by omega
      clear hall hge
      cases fine
      · obtain rfl : 400 = si := HSI.out
        go_wp2_with fail
        all_goals go_ret
        all_goals exact ⟨ret_bool (by simp), unhide HB8⟩
      · obtain rfl : 0 = si := HSI.out
        go_wp2_with fail
        all_goals go_ret
        all_goals exact ⟨ret_bool (by simp), unhide HB8⟩
end Go.Proofs.YtkaaeajidejchaaGreatDoor.Sp

/- Plain: the digits of a number; strconv.Itoa of any number. -/
namespace Go.Proofs.YtkaaeajidejchaaGreatDoor.Sp
open Go.RowKit

def decB (u : Nat) : ByteArray := ⟨(Lib.decDigits u).toArray⟩
def itoaB (n : Int) : ByteArray := ⟨(Lib.itoa n).toArray⟩
def tenB : ByteArray := ⟨#[48, 49, 50, 51, 52, 53, 54, 55, 56, 57]⟩
theorem dec_small (u : Nat) (h : u < 10) : tenB.extract u (u + 1) = decB u := by
  have h1 : ∀ i, i < 10 → (tenB.extract i (i + 1)).data.toList = Lib.decDigits i := by decide +kernel
  exact ba_eq (h1 u h)
theorem dec_more (u : Nat) (h : 10 ≤ u) : decB u = decB (u / 10) ++ decB (u % 10) := by
  have e : Lib.decDigits u = Lib.decDigits (u / 10) ++ Lib.decDigits (u % 10) := by
    conv => lhs; rw [Lib.decDigits, dif_neg (by omega)]
    have e2 : Lib.decDigits (u % 10) = [UInt8.ofNat (48 + u % 10)] := by rw [Lib.decDigits, dif_pos (by omega)]
    rw [e2]
  have h2 : (decB (u / 10) ++ decB (u % 10)).data.toList = Lib.decDigits u := by rw [app_data, e]; rfl
  exact (ba_eq h2).symm
theorem decB_size (u : Nat) : (decB u).size ≤ u + 1 := by
  have h : ∀ n u, u ≤ n → (Lib.decDigits u).length ≤ u + 1 := by
    intro n
    induction n with
    | zero => intro u hu; obtain rfl : u = 0 := by omega
              decide +kernel
    | succ n ih =>
      intro u hu
      rw [Lib.decDigits]
      split
      · simp
      · have := ih (u / 10) (by omega)
        rw [List.length_append]; simp; omega
  have := h u u (Nat.le_refl _)
  rw [show (decB u).size = (Lib.decDigits u).length from size_list rfl]
  exact this
theorem decB_20 (u : Nat) (h : u < 10000000000000000000) : (decB u).size ≤ 19 := by
  have step : ∀ (k u : Nat), u < 10 ^ k → 0 < k → (Lib.decDigits u).length ≤ k := by
    intro k
    induction k with
    | zero => intro u h h0; omega
    | succ k ih =>
      intro u h _
      rw [Lib.decDigits]
      split
      · simp
      · rcases Nat.eq_zero_or_pos k with h0 | h0
        · subst h0; simp at h; omega
        · have := ih (u / 10) (by rw [Nat.pow_succ] at h; omega) h0
          rw [List.length_append]; simp; omega
  rw [show (decB u).size = (Lib.decDigits u).length from size_list rfl]
  exact step 19 u h (by omega)

theorem itoa_size (n : Int) (h0 : -9223372036854775808 ≤ n) (h1 : n ≤ 9223372036854775807) : (itoaB n).size ≤ 20 := by
  rw [show (itoaB n).size = (Lib.itoa n).length from size_list rfl]
  unfold Lib.itoa
  split
  · have := decB_20 n.natAbs (by omega)
    rw [show (decB n.natAbs).size = (Lib.decDigits n.natAbs).length from size_list rfl] at this
    simp; omega
  · have := decB_20 n.toNat (by omega)
    rw [show (decB n.toNat).size = (Lib.decDigits n.toNat).length from size_list rfl] at this
    omega
theorem itoa_neg (n : Int) (h : n < 0) : (⟨#[45]⟩ : ByteArray) ++ decB n.natAbs = itoaB n := by
  unfold itoaB Lib.itoa
  rw [if_pos h]
  have : ((⟨#[45]⟩ : ByteArray) ++ decB n.natAbs).data.toList = 45 :: Lib.decDigits n.natAbs := by rw [app_data]; rfl
  exact ba_eq this
theorem itoa_pos (n : Int) (h : 0 ≤ n) : decB n.toNat = itoaB n := by
  unfold itoaB Lib.itoa
  rw [if_neg (by omega)]; rfl

/-! ### the table of powers of ten -/
abbrev Pow10 (w : World) : Prop := Lib.TabIs Tryz.prog w "internal/strconv.uint64pow10" .u64 Lib.pow10Tab
theorem Pow10.below {w w' : World} (h : Pow10 w) (hb : Below w.heap.size w w') : Pow10 w' := by
  have hgn : Tryz.prog.globalNamed "internal/strconv.uint64pow10" = some 2 := by kernel_rfl
  unfold Pow10 Lib.TabIs World.var? at h ⊢
  rw [hgn] at h ⊢
  simp only [Option.bind_some] at h ⊢
  have hlt : 2 < w.heap.size := by
    rcases Nat.lt_or_ge 2 w.heap.size with h' | h'
    · exact h'
    · rw [Array.getElem?_eq_none h'] at h; cases h
  rw [hb.block 2 hlt]
  exact h
theorem itoa_any (n : Int) (h0 : -9223372036854775808 ≤ n) (h1 : n ≤ 9223372036854775807) (w : World) (ht : Pow10 w) : Calls Tryz.prog 86 #[.int .i64 n] w fun e w' => e = .returned (.string (itoaB n)) ∧ Below w.heap.size w w' := by
  refine (Tryz.strconv_Itoa n h0 h1 w ht).mono ?_
  rintro e w' ⟨rfl, k, os, rfl⟩
  exact ⟨rfl, Lib.below_grow _ w (Nat.le_refl _) k os⟩
end Go.Proofs.YtkaaeajidejchaaGreatDoor.Sp

/- What a row's listed variables give: the table of powers of ten; the table of trailing zeros. -/
namespace Go.Proofs.YtkaaeajidejchaaGreatDoor.Sp
open Go.ChangeShapes Go.WideShapes Go.ChangeAt Go.RowKit

def pow10Row : List (String × DataW Unit) := [("internal/strconv.uint64pow10", Lib.tabData .u64 Lib.pow10Tab)]
theorem pow10_of {W : World} {l : List (String × DataW Unit)} (hl : (l.filter fun x => x.1 == "internal/strconv.uint64pow10") = pow10Row) (h : laidMet Tryz.prog l W) : Pow10 W := by
  have h2 := laidMet.filter (fun x => x.1 == "internal/strconv.uint64pow10") h
  rw [hl] at h2
  exact Lib.tabIs_of_head (g := 2) (by kernel_rfl) (by kernel_rfl) Tryz.underlying130 Tryz.underlying62 (by kernel_rfl) (by kernel_rfl) h2
def bruTab : List Int := Lib.deBruijn64tab.map Int.ofNat
def bruRow : List (String × DataW Unit) := [("math/bits.deBruijn64tab", Lib.tabData .u8 bruTab)]
theorem bru_of {W : World} {l : List (String × DataW Unit)} (hl : (l.filter fun x => x.1 == "math/bits.deBruijn64tab") = bruRow) (h : laidMet Tryz.prog l W) : Bru W := by
  have h2 := laidMet.filter (fun x => x.1 == "math/bits.deBruijn64tab") h
  rw [hl] at h2
  have h3 : Lib.TabIs Tryz.prog W "math/bits.deBruijn64tab" .u8 bruTab := Lib.tabIs_of_head (g := 4) (by kernel_rfl) (by kernel_rfl) Tryz.underlying179 Tryz.underlying5 (by kernel_rfl) (by kernel_rfl) h2
  exact h3.cell (g := 4) (by kernel_rfl) 15 (by decide)
end Go.Proofs.YtkaaeajidejchaaGreatDoor.Sp

/- The frame of a law's row: what a law leaves behind (it returns true, has made memory, and changed nothing that was there) is what the row asks. -/
namespace Go.Proofs.YtkaaeajidejchaaGreatDoor.Frame
open Go.ChangeShapes Go.WideShapes Go.ChangeAt Go.RowKit
variable {H : Type} {enc : TypeId × Value → H} {P : Program}

/-- What was read of the arguments reads so still. -/
theorem args_stay (hl : laidOutB P = true) {W W' : World} (hb : Below W.heap.size W W') : ∀ (ts : List TypeId) (vs : List Value) (ds : List (DataW H)) (ps : List MemPlace),
    (∀ t ∈ ts, P.readableRec t = true ∧ t < P.types.size) → DataW.TrodAll enc P W 0 (fun _ => true) true ts vs ds ps → (∀ x ∈ ps, x.block < W.heap.size) →
    DataW.TrodAll enc P W' 0 (fun b => decide (b < W.heap.size)) true ts vs ds ps
  | [], vs, ds, ps, _, h, _ => by
    obtain ⟨rfl, rfl, rfl⟩ := trodAll_nil h
    exact trodAll_mk0
  | t :: ts, vs, ds, ps, hts, h, hlt => by
    obtain ⟨v, vs', d, ds', p, q, rfl, rfl, rfl, h0, hr⟩ := trodAll_cons h
    refine trodAll_cons_mk ?_ (args_stay hl hb ts vs' ds' q (fun t ht => hts t (List.mem_cons_of_mem _ ht)) hr (fun x hx => hlt x (List.mem_append.2 (.inr hx))))
    have ht := hts t (List.mem_cons.2 (.inl rfl))
    exact Below.trod hl ht.1 ht.2 h0 hb (fun x hx => hlt x (List.mem_append.2 (.inl hx)))

/-- THE FRAME. -/
theorem law_post {f : Func} {s : ChangeSpec} {W W' : World} {args : Array Value} {ds gs : List (DataW H)} {before : List MemPlace} {tb : TypeId}
    (hW : DataW.Whole enc P f.params.toList s.vars false W args.toList ds gs before) (hvars : s.vars = []) (hl : laidOutB P = true) (hts : ∀ t ∈ f.params.toList, P.readableRec t = true ∧ t < P.types.size)
    (hrt : f.resultTypes = #[tb]) (htb : P.underlying tb = some .bool) (hres : (s.fn H ds).results = [.lit (.bool true)]) (hargs : (s.fn H ds).args = ds) (hvs : (s.fn H ds).vars = []) (hb : Below W.heap.size W W') :
    s.post enc P f false true false false W args (.bool true) W' := by
  have hlt := hW.lt
  have hW' := hW
  obtain ⟨p, q, hA, hV, rfl, hfz, hnd⟩ := hW
  rw [hvars] at hV
  obtain ⟨rfl, rfl⟩ := trodVars_none hV
  refine ⟨ds, [], p ++ [], [], p, [], hW', ?_, ?_, ?_, hb.frame _, fun h => by cases h⟩
  · rw [List.append_nil, hres, hrt]
    exact trodAll_cons_mk (shut_bool htb _) trodAll_mk0
  · rw [List.append_nil, hargs]
    exact args_stay hl hb _ _ _ _ hts hA (fun x hx => hlt x (List.mem_append.2 (.inl hx)))
  · rw [hvars, List.append_nil, hvs]
    exact rfl
end Go.Proofs.YtkaaeajidejchaaGreatDoor.Frame
