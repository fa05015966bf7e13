/- Lemmas for the statement's proof, several texts in one: Q17. -/
import Derived.Test.YtbpopmbabckojaaGreatDoorZ39
import Derived.Test.YtbpopmbabckojaaGreatDoorZ35
import Derived.Test.YtbpopmbabckojaaGreatDoorZ12
import Derived.Test.YtbpopmbabckojaaGreatDoorZ34
set_option linter.unusedVariables false
set_option linter.unusedSimpArgs false
/- The walk of the law EmitOwn. -/
section
namespace Go.Proofs.YtbpopmbabckojaaGreatDoor.Sp
open Go.RowKit Sl

set_option maxRecDepth 100000 in
set_option maxHeartbeats 1000000 in
theorem kdigits_low (u : Nat) (hlt : u < 10) (w : World) : Calls Tryz.prog 22 #[.int .i64 u] w fun e w' => e = .returned (.string (decB u)) ∧ w = w' := by
  have hs := Lib.hid (dec_small u hlt)
  have hmx := max_cast u
  unfold tenB at hs
  go_enter Tryz.func22, Tryz.ntmps22
  go_wp2_with fail
  go_ret
  exact ⟨congrArg (fun x => Ending.returned (.string x)) hs.out, rfl⟩
set_option maxRecDepth 100000 in
set_option maxHeartbeats 1000000 in
theorem kdigits_nat (n : Nat) : ∀ (u : Nat), u ≤ n → u ≤ 9223372036854775807 → ∀ w : World, Calls Tryz.prog 22 #[.int .i64 u] w fun e w' => e = .returned (.string (decB u)) ∧ w = w' := by
  induction n with
  | zero =>
    intro u hu hm w
    exact kdigits_low u (by omega) w
  | succ n ih =>
    intro u hu hm w
    rcases Nat.lt_or_ge u 10 with hlt | hge
    · exact kdigits_low u hlt w
    · have i1 := hide (ih (u / 10) (by omega) (by omega))
      have i2 := hide (ih (u % 10) (by omega) (by omega))
      have hm := Lib.hid (dec_more u hge)
      have z1 := decB_20 (u / 10) (by omega)
      have z2 := decB_20 (u % 10) (by omega)
      obtain ⟨a, ha⟩ : ∃ a, u / 10 = a := ⟨_, rfl⟩
      obtain ⟨b, hb⟩ : ∃ b, u % 10 = b := ⟨_, rfl⟩
      rw [ha] at i1 hm z1
      rw [hb] at i2 hm z2
      have hd : Int.tdiv (u : Int) 10 = (a : Int) := by rw [Int.tdiv_eq_ediv_of_nonneg (by omega)]; omega
      have hr : Int.tmod (u : Int) 10 = (b : Int) := by rw [Int.tmod_eq_emod_of_nonneg (by omega)]; omega
      have hd2 : (u : Int) / 10 = (a : Int) := by omega
      have hr2 : (u : Int) % 10 = (b : Int) := by omega
      clear ha hb
      go_enter Tryz.func22, Tryz.ntmps22
      go_wp2_with (first | (have h7 := firstDone; go_at_call 22; refine (unhide i2 _).mono ?_; rintro e w1 ⟨rfl, rfl⟩) | (go_at_call 22; refine (unhide i1 _).mono ?_; rintro e w1 ⟨rfl, rfl⟩; have firstDone := True.intro))
      go_ret
      exact ⟨by rw [hm.out] <;> rfl, rfl⟩
theorem kdigits_any (n : Int) (h0 : 0 ≤ n) (h1 : n ≤ 9223372036854775807) (w : World) : Calls Tryz.prog 22 #[.int .i64 n] w fun e w' => e = .returned (.string (itoaB n)) ∧ w = w' := by
  have := kdigits_nat n.toNat n.toNat (Nat.le_refl _) (by omega) w
  rw [show ((n.toNat : Nat) : Int) = n by omega, itoa_pos n h0] at this
  exact this

theorem reason_chr (st : Int) : allS chr (reasonB st).data.toList = true := by
  have h : ∀ (c : Prop) [Decidable c] (a b : ByteArray), allS chr a.data.toList = true → allS chr b.data.toList = true → allS chr (if c then a else b).data.toList = true := by intros; split <;> assumption
  unfold reasonB
  repeat (refine h _ _ _ (by decide +kernel) ?_)
  decide +kernel
theorem ct_chk : [ctF].all chkS = true := by
  unfold chkS
  simp only [Lib.toList_data]
  decide +kernel
theorem ct_cl : allB [ctF] clB = [] := by decide +kernel
theorem ct_te : allB [ctF] teB = [] := by decide +kernel
theorem own_emC {st : Int} (h0 : 200 ≤ st) (h1 : st ≤ 599) : emC ⟨#[]⟩ ⟨#[]⟩ (reasonB st) st 1 [ctF] [] = 0 := by
  have hl : (lineS ⟨#[]⟩ ⟨#[]⟩ (reasonB st) st 1).2 = 0 := by
    unfold lineS
    rw [if_pos mt_list, if_pos mt_list]
    unfold slS
    rw [if_pos ⟨by decide, by decide, by omega, by omega, reason_chr st⟩]
  rw [emC_ok ⟨hl, ct_chk, rfl⟩, ct_cl, ct_te]
  rfl
theorem own_res {st : Int} {m : ByteArray} (h0 : 200 ≤ st) (h1 : st ≤ 599) : ∃ s, resS ⟨#[]⟩ ⟨#[]⟩ (reasonB st) (plainB st) st 1 [ctF] [] m = (s, 0) := by
  unfold resS
  rw [if_pos (own_emC h0 h1), if_pos mt_list]
  exact ⟨_, rfl⟩
theorem plainB_size {st : Int} (h0 : 200 ≤ st) (h1 : st ≤ 599) : (plainB st).size ≤ 400 := by
  have h2 := reasonB_size st
  have h3 := itoa_size st (by omega) (by omega)
  have e : (plainB st).size = (itoaB st).size + 1 + (reasonB st).size + 1 := by
    have hd : (plainB st).data.toList = (itoaB st).data.toList ++ [32] ++ (reasonB st).data.toList ++ [10] := by
      unfold plainB
      rw [app_data, app_data, app_data]
    rw [size_list hd]
    simp
    omega
  omega
def getB8 : ByteArray := ⟨#[71, 69, 84]⟩
def headB8 : ByteArray := ⟨#[72, 69, 65, 68]⟩
def metB (hd : Bool) : ByteArray := if hd = true then headB8 else getB8
theorem met_bare {st : Int} {hd : Bool} (h0 : 200 ≤ st) : bareB (metB hd) st = (hd || (st == 204 || st == 304)) := by
  have hlt : decide (st ≤ 199) = false := decide_eq_false (by omega)
  unfold bareB metB headB8 getB8
  simp only [Lib.toList_data, hlt]
  cases hd
  · simp
  · simp
theorem met_con {st : Int} {hd : Bool} : conB (metB hd) st = false := by
  unfold conB metB headB8 getB8
  simp only [Lib.toList_data]
  cases hd <;> simp
theorem met_tok {hd : Bool} : tokenS (metB hd).data.toList = true := by cases hd <;> decide +kernel

set_option maxRecDepth 100000 in
set_option maxHeartbeats 8000000 in
theorem eown_any (n : Int) (hd : Bool) (h0 : -9223372036854775808 ≤ n) (h1 : n ≤ 9223372036854775807) (w : World) (hT : Pow10 w) :
    Calls Tryz.prog 4 #[.int .i64 n, .bool hd] w fun e w' => e = .returned (.bool true) ∧ Below w.heap.size w w' := by
  have c0 := hide (lives8_any w hT)
  have cp := hide (fun w => pick_any n 400 w (by decide))
  obtain ⟨k0, k1⟩ := pick_bd n 400 (by decide)
  obtain ⟨pk, hpk⟩ : ∃ pk, pick n 400 = pk := ⟨_, rfl⟩
  rw [hpk] at cp k0 k1
  clear hpk
  obtain ⟨sta, hsta⟩ : ∃ sta, 200 + pk = sta := ⟨_, rfl⟩
  have s0 : 200 ≤ sta := by omega
  have s1 : sta ≤ 599 := by omega
  have hws : IntKind.i64.wrap sta = sta := IntWalk.i64_in _ (by omega)
  have qp := hide (fun w1 (hb : Below w.heap.size w w1) => eplain_any sta (by omega) (by omega) w1 (hT.below hb))
  unfold PlainO plainA at qp
  have hct : Few [ctF] := ⟨by decide, fun f hf => by rw [List.mem_singleton] at hf; subst hf; decide⟩
  have hr40 := reasonB_size sta
  have hp400 := plainB_size s0 s1
  have q3 := hide (fun fs w1 (hb : Below w.heap.size w w1) (hv : Rd w1 fs 1 2 (fldV [ctF])) => eres_any ⟨#[]⟩ ⟨#[]⟩ (reasonB sta) (plainB sta) (metB hd) sta 1 fs (.slice none 0 0) [ctF] [] (by decide) (by decide) (by omega) (by omega) (lineS_len ⟨#[]⟩ ⟨#[]⟩ (reasonB sta) sta 1 (by decide) (by decide) (by omega)) hct few_nil w1 (hT.below hb) hv (Rd.nil _ _))
  have q7 := hide (fun fs w1 (hb : Below w.heap.size w w1) (hv : Rd w1 fs 1 2 (fldV [ctF])) => echeck_any ⟨#[]⟩ ⟨#[]⟩ (reasonB sta) (plainB sta) sta 1 fs (.slice none 0 0) [ctF] [] (by decide) (by decide) (by omega) hct few_nil w1 (hT.below hb) hv (Rd.nil _ _))
  rw [own_emC s0 s1] at q7
  obtain ⟨s, hX⟩ := own_res (m := metB hd) s0 s1
  unfold OutS msgV at q3
  unfold msgV at q7
  rw [hX] at q3
  simp only at q3
  have HFR := hide (feed_res (reasonB sta) (plainB sta) (metB hd) s sta 1 [ctF] [] hX (by omega) hp400 (by decide) (by decide))
  have hks := resK_size hX met_con
  rw [hks] at HFR
  have hbare := met_bare (hd := hd) s0
  have htok := met_tok (hd := hd)
  have hxc : resC (plainB sta) (metB hd) sta = if (hd || (sta == 204 || sta == 304)) = true then ⟨#[]⟩ else plainB sta := by unfold resC; rw [hbare]
  obtain ⟨xb, hxb⟩ : ∃ xb, resC (plainB sta) (metB hd) sta = xb := ⟨_, rfl⟩
  rw [hxb] at HFR hxc
  have hpl : plainB sta = itoaB sta ++ ⟨#[32]⟩ ++ reasonB sta ++ ⟨#[10]⟩ := rfl
  have hi20 := itoa_size sta (by omega) (by omega)
  obtain ⟨re, hre⟩ : ∃ re, reasonB sta = re := ⟨_, rfl⟩
  have qr9 := hide (fun w => reason_any sta w)
  have qk := hide (fun w => kdigits_any sta (by omega) (by omega) w)
  obtain ⟨ib, hib⟩ : ∃ ib, itoaB sta = ib := ⟨_, rfl⟩
  obtain ⟨bo, hbo⟩ : ∃ bo, plainB sta = bo := ⟨_, rfl⟩
  rw [hre] at qr9 hpl qp q3 q7 HFR hr40
  rw [hib] at qk hpl hi20
  rw [hbo] at qp q3 q7 HFR hxc hpl
  obtain ⟨G, hG⟩ : ∃ G, resG bo sta (metB hd) [ctF] = G := ⟨_, rfl⟩
  rw [hG] at HFR
  have HXC := Lib.hid hxc
  have HPL := Lib.hid hpl
  clear hX hks hbare hxb hre hib hbo hG hxc hpl hct hp400
  have HT := hide hT
  clear hT
  have qro := hide (fun w => room_any w)
  have qn := hide (fun w => new6_any w 2000 4000 40 1000 true)
  have qe := hide (fun w7 b hp => expect_any w7 b 2000 4000 40 1000 (metB hd) (by cases hd <;> decide) htok hp)
  clear htok
  unfold metB headB8 getB8 at q3 HFR qe
  go_enter Tryz.func4, Tryz.ntmps4
  go_wp2_with fail
  refine (unhide c0).mono ?_; rintro e w1 ⟨rfl, hb1⟩
  have HB1 := hide hb1
  clear hb1 c0
  go_upto_region 4 with (go_at_call 20; refine (unhide cp _).mono ?_; rintro e w' ⟨rfl, rfl⟩)
  try rw [hsta]
  clear cp hsta k0 k1
  go_wp2_with fail
  refine (unhide qp _ (unhide HB1)).mono ?_; rintro e w2 ⟨fb, rfl, hf2, hb2⟩
  have HB2 := hide ((unhide HB1).trans (hb2.mono (unhide HB1).size))
  have HF2 := hide hf2
  clear hf2 hb2 HB1 qp
  have hw2 : w.heap.size ≤ w2.heap.size := (unhide HB2).size
  have HN0 := hide (Reg.Has.new w2 [.string ⟨#[]⟩, .string ⟨#[]⟩, .int .i64 0, .string ⟨#[]⟩, .int .i64 0, .slice none 0 0, .string ⟨#[]⟩, .slice none 0 0] 24)
  have HBA := hide ((unhide HB2).alloc hw2 (.cells #[.string ⟨#[]⟩, .string ⟨#[]⟩, .int .i64 0, .string ⟨#[]⟩, .int .i64 0, .slice none 0 0, .string ⟨#[]⟩, .slice none 0 0] 24))
  go_upto_region 5 with (refine wpList_storeM rfl _ _ rfl w2.heap.size rfl #[.string ⟨#[]⟩, .string ⟨#[]⟩, .int .i64 sta, .string re, .int .i64 1, .slice (some ⟨fb, 0, none⟩) 1 1, .string bo, .slice none 0 0] rfl rfl _ rfl (unhide HN0) (by kernel_rfl) ?_; intro HZ; have HM := hide HZ; have HBX := hide (below_setCells w2.heap.size hw2 (#[.string ⟨#[]⟩, .string ⟨#[]⟩, .int .i64 sta, .string re, .int .i64 1, .slice (some ⟨fb, 0, none⟩) 1 1, .string bo, .slice none 0 0] : Array Value).toList 0 _ (unhide HBA)); have HBY := hide (below_setCells w2.heap.size (Nat.le_refl _) (#[.string ⟨#[]⟩, .string ⟨#[]⟩, .int .i64 sta, .string re, .int .i64 1, .slice (some ⟨fb, 0, none⟩) 1 1, .string bo, .slice none 0 0] : Array Value).toList 0 _ ((Below.refl w2.heap.size w2).alloc (Nat.le_refl _) (.cells #[.string ⟨#[]⟩, .string ⟨#[]⟩, .int .i64 0, .string ⟨#[]⟩, .int .i64 0, .slice none 0 0, .string ⟨#[]⟩, .slice none 0 0] 24))); generalize World.setCells _ w2.heap.size 0 _ = w3 at HZ HM HBX HBY ⊢; clear HZ)
  have HF3 := hide ((unhide HF2).below (unhide HBY))
  clear HN0 HBA HF2 HB2 HBY
  generalize w2.heap.size = g0 at *
  cases hd
  · simp only [Bool.false_eq_true, if_false, if_true] at q3 HFR qe
    have H3 := unhide HM
    have pa0 := H3.cell 0 _ rfl; have pa1 := H3.cell 1 _ rfl; have pa2 := H3.cell 2 _ rfl; have pa3 := H3.cell 3 _ rfl; have pa4 := H3.cell 4 _ rfl; have pa5 := H3.cell 5 _ rfl; have pa6 := H3.cell 6 _ rfl; have pa7 := H3.cell 7 _ rfl; have za := H3.lt
    clear H3
    go_wp2_with fail
    refine (unhide q3 _ _ (unhide HBX) (unhide HF3)).mono ?_; rintro e w5 ⟨rfl, hb5⟩
    have HB5 := hide ((unhide HBX).trans (hb5.mono (unhide HBX).size))
    have HM5 := hide ((unhide HM).call hb5)
    have HF5 := hide ((unhide HF3).below hb5)
    clear hb5 HM HF3 HBX q3 pa0 pa1 pa2 pa3 pa4 pa5 pa6 pa7 za
    go_upto_region 10 with (first
      | (go_at_call 13; refine (unhide qro _).mono ?_; rintro e w6 ⟨rfl, hb6⟩)
      | (go_at_call 12; refine (unhide qn _).mono ?_; rintro e w7 ⟨b, rfl, hbw, hp7, hb7⟩))
    have HB6 := hide ((unhide HB5).trans (hb6.mono (unhide HB5).size))
    have HB7 := hide ((unhide HB6).trans (hb7.mono (unhide HB6).size))
    have HM7 := hide (((unhide HM5).call hb6).call hb7)
    have HF7 := hide (((unhide HF5).below hb6).below hb7)
    have hgb : g0 < b := by have := (unhide HM5).lt; have := hb6.size; omega
    have hfbb : ∀ g off n c, (.slice (some ⟨fb, 0, none⟩) 1 1 : Value) = .slice (some ⟨g, off, none⟩) n c → g ≠ b := fun g off n c e => by
      obtain ⟨b', off', e2, hlt, _⟩ := fld_cells (L := [ctF]) (unhide HF5) rfl 0 (by decide)
      cases e
      cases e2
      have := hb6.size
      omega
    have hwb : w.heap.size ≤ b := by have := (unhide HB6).size; omega
    have HN7 := hide (show RdN w7 b (.slice (some ⟨fb, 0, none⟩) 1 1) [ctF] from ⟨unhide HF7, hfbb⟩)
    have HP7 := hide hp7
    clear hb6 hb7 hp7 HM5 HF5 HF7 HB5 HB6 hbw qro qn hfbb
    go_wp2_with fail
    refine (unhide qe _ _ (unhide HP7)).mono ?_; rintro e w8 ⟨rfl, ak, hp8, hk8, hu8⟩
    have HB8 := hide ((unhide HB7).trans (hu8.below (unhide HB7).size (fun k e => by have : k = b := e; omega)))
    have HM8 := hide (hu8.has (unhide HM7) (fun e => by have : g0 = b := e; omega))
    have HN8 := hide ((unhide HN7).but hu8)
    have q8 := hide ((unhide HFR) w8 b ak hp8 hk8)
    clear hp8 hk8 hu8 HM7 HN7 HB7 HP7 qe HFR
    go_wp2_with fail
    refine (unhide q8).mono ?_; rintro e w9 ⟨rfl, hd9, hu9⟩
    have HB9 := hide ((unhide HB8).trans (hu9.below (unhide HB8).size (fun k e => by have : k = b := e; omega)))
    have HM9 := hide (hu9.has (unhide HM8) (fun e => by have : g0 = b := e; omega))
    have HN9 := hide ((unhide HN8).but hu9)
    have q9 := hide (next_any w9 b 2000 4000 40 1000 true _ _ _ hd9)
    clear hd9 hu9 HM8 HN8 HB8 q8
    unfold NextO msgV at q9
    go_wp2_with fail
    refine (unhide q9).mono ?_; rintro e w10 ⟨ak2, fx, tx, rfl, hf10, ht10, hp10, hu10⟩
    obtain ⟨fo, fc, rfl⟩ := hf10.form
    obtain ⟨xo, xc, rfl⟩ := ht10.form
    have HB10 := hide ((unhide HB9).trans (hu10.below (unhide HB9).size (fun k e => by have : k = b := e; omega)))
    have HM10 := hide (hu10.has (unhide HM9) (fun e => by have : g0 = b := e; omega))
    have HF10 := hide ((unhide HN9).but hu10).1
    clear hf10 ht10 hp10 hu10 HM9 HN9 HB9 q9
    simp only
    have hz10 : w.heap.size ≤ w10.heap.size := (unhide HB10).size
    have HX0 := hide (Reg.Has.new w10 [.string ⟨#[]⟩, .string ⟨#[]⟩, .int .i64 0, .string ⟨#[]⟩, .int .i64 0, .slice none 0 0, .string ⟨#[]⟩, .slice none 0 0] 24)
    have HBA := hide ((unhide HB10).alloc hz10 (.cells #[.string ⟨#[]⟩, .string ⟨#[]⟩, .int .i64 0, .string ⟨#[]⟩, .int .i64 0, .slice none 0 0, .string ⟨#[]⟩, .slice none 0 0] 24))
    go_upto_region 13 with (refine wpList_storeM rfl _ _ rfl w10.heap.size rfl #[.string ⟨#[]⟩, .string ⟨#[]⟩, .int .i64 sta, .string re, .int .i64 1, .slice fo G.length fc, .string xb, .slice xo 0 xc] rfl rfl _ rfl (unhide HX0) (by kernel_rfl) ?_; intro HZ; have HX := hide HZ; have HB12 := hide (below_setCells w10.heap.size hz10 (#[.string ⟨#[]⟩, .string ⟨#[]⟩, .int .i64 sta, .string re, .int .i64 1, .slice fo G.length fc, .string xb, .slice xo 0 xc] : Array Value).toList 0 _ (unhide HBA)); have HBY := hide (below_setCells w10.heap.size (Nat.le_refl _) (#[.string ⟨#[]⟩, .string ⟨#[]⟩, .int .i64 sta, .string re, .int .i64 1, .slice fo G.length fc, .string xb, .slice xo 0 xc] : Array Value).toList 0 _ ((Below.refl w10.heap.size w10).alloc (Nat.le_refl _) (.cells #[.string ⟨#[]⟩, .string ⟨#[]⟩, .int .i64 0, .string ⟨#[]⟩, .int .i64 0, .slice none 0 0, .string ⟨#[]⟩, .slice none 0 0] 24))); generalize World.setCells _ w10.heap.size 0 _ = w12 at HZ HX HB12 HBY ⊢; clear HZ)
    have HM12 := hide ((unhide HM10).call (unhide HBY))
    have HF12 := hide ((unhide HF10).below (unhide HBY))
    clear HM10 HF10 HBY HX0 HBA HB10
    generalize w10.heap.size = g1 at *
    have G1 := unhide HM12
    have pa0 := G1.cell 0 _ rfl; have pa1 := G1.cell 1 _ rfl; have pa2 := G1.cell 2 _ rfl; have pa3 := G1.cell 3 _ rfl; have pa4 := G1.cell 4 _ rfl; have pa5 := G1.cell 5 _ rfl; have pa6 := G1.cell 6 _ rfl; have pa7 := G1.cell 7 _ rfl; have za := G1.lt
    clear G1
    have G2 := unhide HX
    have px0 := G2.cell 0 _ rfl; have px1 := G2.cell 1 _ rfl; have px2 := G2.cell 2 _ rfl; have px3 := G2.cell 3 _ rfl; have px4 := G2.cell 4 _ rfl; have px5 := G2.cell 5 _ rfl; have px6 := G2.cell 6 _ rfl; have px7 := G2.cell 7 _ rfl; have zx := G2.lt
    clear G2
    cases c204 : (sta == 204)
    · cases c304 : (sta == 304)
      · have hxb : xb = bo := by rw [HXC.out, c204, c304]; rfl
        subst hxb
        go_upto_region 14 with fail
        go_upto_region 15 with (first
          | (go_at_call 22; refine (unhide qk _).mono ?_; rintro e w' ⟨rfl, rfl⟩)
          | (go_at_call 23; refine (unhide qr9 _).mono ?_; rintro e w' ⟨rfl, rfl⟩))
        rw [← HPL.out]
        refine Reg.region_more (by kernel_rfl) (by kernel_rfl) ?_
        repeat (go_big_quiet_step ((first | (go_at_call 23; exact Reg.Calls.more_same (unhide qr9 _)) | (go_at_call 24; exact Reg.Calls.more (unhide q7 _ _ ((unhide HB12).trans ((Reg.More.hb _).mono (unhide HB12).size)) ((unhide HF12).below (Reg.More.hb _)))))))
        refine wpQuiet_nil ?_
        intro w13 hb13; obtain ⟨hc13, hf13, hz13⟩ := bcell hb13; (try simp at hz13)
        have HB13 := hide ((unhide HB12).trans (hb13.mono (unhide HB12).size))
        clear hb13 hc13 hf13 hz13
        go_wp2_with fail
        go_ret
        exact ⟨by simp, unhide HB13⟩
      · have hxb : xb = ⟨#[]⟩ := by rw [HXC.out, c304]; simp
        subst hxb
        go_upto_region 14 with fail
        go_upto_region 15 with (first
          | (go_at_call 22; refine (unhide qk _).mono ?_; rintro e w' ⟨rfl, rfl⟩)
          | (go_at_call 23; refine (unhide qr9 _).mono ?_; rintro e w' ⟨rfl, rfl⟩))
        rw [← HPL.out]
        refine Reg.region_more (by kernel_rfl) (by kernel_rfl) ?_
        repeat (go_big_quiet_step ((first | (go_at_call 23; exact Reg.Calls.more_same (unhide qr9 _)) | (go_at_call 24; exact Reg.Calls.more (unhide q7 _ _ ((unhide HB12).trans ((Reg.More.hb _).mono (unhide HB12).size)) ((unhide HF12).below (Reg.More.hb _)))))))
        refine wpQuiet_nil ?_
        intro w13 hb13; obtain ⟨hc13, hf13, hz13⟩ := bcell hb13; (try simp at hz13)
        have HB13 := hide ((unhide HB12).trans (hb13.mono (unhide HB12).size))
        clear hb13 hc13 hf13 hz13
        go_wp2_with fail
        go_ret
        exact ⟨by simp, unhide HB13⟩
    · have hxb : xb = ⟨#[]⟩ := by rw [HXC.out, c204]; simp
      subst hxb
      go_upto_region 14 with fail
      go_upto_region 15 with (first
        | (go_at_call 22; refine (unhide qk _).mono ?_; rintro e w' ⟨rfl, rfl⟩)
        | (go_at_call 23; refine (unhide qr9 _).mono ?_; rintro e w' ⟨rfl, rfl⟩))
      rw [← HPL.out]
      refine Reg.region_more (by kernel_rfl) (by kernel_rfl) ?_
      repeat (go_big_quiet_step ((first | (go_at_call 23; exact Reg.Calls.more_same (unhide qr9 _)) | (go_at_call 24; exact Reg.Calls.more (unhide q7 _ _ ((unhide HB12).trans ((Reg.More.hb _).mono (unhide HB12).size)) ((unhide HF12).below (Reg.More.hb _)))))))
      refine wpQuiet_nil ?_
      intro w13 hb13; obtain ⟨hc13, hf13, hz13⟩ := bcell hb13; (try simp at hz13)
      have HB13 := hide ((unhide HB12).trans (hb13.mono (unhide HB12).size))
      clear hb13 hc13 hf13 hz13
      go_wp2_with fail
      go_ret
      exact ⟨by simp, unhide HB13⟩
  · simp only [Bool.false_eq_true, if_false, if_true] at q3 HFR qe
    have H3 := unhide HM
    have pa0 := H3.cell 0 _ rfl; have pa1 := H3.cell 1 _ rfl; have pa2 := H3.cell 2 _ rfl; have pa3 := H3.cell 3 _ rfl; have pa4 := H3.cell 4 _ rfl; have pa5 := H3.cell 5 _ rfl; have pa6 := H3.cell 6 _ rfl; have pa7 := H3.cell 7 _ rfl; have za := H3.lt
    clear H3
    go_wp2_with fail
    refine (unhide q3 _ _ (unhide HBX) (unhide HF3)).mono ?_; rintro e w5 ⟨rfl, hb5⟩
    have HB5 := hide ((unhide HBX).trans (hb5.mono (unhide HBX).size))
    have HM5 := hide ((unhide HM).call hb5)
    have HF5 := hide ((unhide HF3).below hb5)
    clear hb5 HM HF3 HBX q3 pa0 pa1 pa2 pa3 pa4 pa5 pa6 pa7 za
    go_upto_region 10 with (first
      | (go_at_call 13; refine (unhide qro _).mono ?_; rintro e w6 ⟨rfl, hb6⟩)
      | (go_at_call 12; refine (unhide qn _).mono ?_; rintro e w7 ⟨b, rfl, hbw, hp7, hb7⟩))
    have HB6 := hide ((unhide HB5).trans (hb6.mono (unhide HB5).size))
    have HB7 := hide ((unhide HB6).trans (hb7.mono (unhide HB6).size))
    have HM7 := hide (((unhide HM5).call hb6).call hb7)
    have HF7 := hide (((unhide HF5).below hb6).below hb7)
    have hgb : g0 < b := by have := (unhide HM5).lt; have := hb6.size; omega
    have hfbb : ∀ g off n c, (.slice (some ⟨fb, 0, none⟩) 1 1 : Value) = .slice (some ⟨g, off, none⟩) n c → g ≠ b := fun g off n c e => by
      obtain ⟨b', off', e2, hlt, _⟩ := fld_cells (L := [ctF]) (unhide HF5) rfl 0 (by decide)
      cases e
      cases e2
      have := hb6.size
      omega
    have hwb : w.heap.size ≤ b := by have := (unhide HB6).size; omega
    have HN7 := hide (show RdN w7 b (.slice (some ⟨fb, 0, none⟩) 1 1) [ctF] from ⟨unhide HF7, hfbb⟩)
    have HP7 := hide hp7
    clear hb6 hb7 hp7 HM5 HF5 HF7 HB5 HB6 hbw qro qn hfbb
    go_wp2_with fail
    refine (unhide qe _ _ (unhide HP7)).mono ?_; rintro e w8 ⟨rfl, ak, hp8, hk8, hu8⟩
    have HB8 := hide ((unhide HB7).trans (hu8.below (unhide HB7).size (fun k e => by have : k = b := e; omega)))
    have HM8 := hide (hu8.has (unhide HM7) (fun e => by have : g0 = b := e; omega))
    have HN8 := hide ((unhide HN7).but hu8)
    have q8 := hide ((unhide HFR) w8 b ak hp8 hk8)
    clear hp8 hk8 hu8 HM7 HN7 HB7 HP7 qe HFR
    go_wp2_with fail
    refine (unhide q8).mono ?_; rintro e w9 ⟨rfl, hd9, hu9⟩
    have HB9 := hide ((unhide HB8).trans (hu9.below (unhide HB8).size (fun k e => by have : k = b := e; omega)))
    have HM9 := hide (hu9.has (unhide HM8) (fun e => by have : g0 = b := e; omega))
    have HN9 := hide ((unhide HN8).but hu9)
    have q9 := hide (next_any w9 b 2000 4000 40 1000 true _ _ _ hd9)
    clear hd9 hu9 HM8 HN8 HB8 q8
    unfold NextO msgV at q9
    go_wp2_with fail
    refine (unhide q9).mono ?_; rintro e w10 ⟨ak2, fx, tx, rfl, hf10, ht10, hp10, hu10⟩
    obtain ⟨fo, fc, rfl⟩ := hf10.form
    obtain ⟨xo, xc, rfl⟩ := ht10.form
    have HB10 := hide ((unhide HB9).trans (hu10.below (unhide HB9).size (fun k e => by have : k = b := e; omega)))
    have HM10 := hide (hu10.has (unhide HM9) (fun e => by have : g0 = b := e; omega))
    have HF10 := hide ((unhide HN9).but hu10).1
    clear hf10 ht10 hp10 hu10 HM9 HN9 HB9 q9
    simp only
    have hz10 : w.heap.size ≤ w10.heap.size := (unhide HB10).size
    have HX0 := hide (Reg.Has.new w10 [.string ⟨#[]⟩, .string ⟨#[]⟩, .int .i64 0, .string ⟨#[]⟩, .int .i64 0, .slice none 0 0, .string ⟨#[]⟩, .slice none 0 0] 24)
    have HBA := hide ((unhide HB10).alloc hz10 (.cells #[.string ⟨#[]⟩, .string ⟨#[]⟩, .int .i64 0, .string ⟨#[]⟩, .int .i64 0, .slice none 0 0, .string ⟨#[]⟩, .slice none 0 0] 24))
    go_upto_region 13 with (refine wpList_storeM rfl _ _ rfl w10.heap.size rfl #[.string ⟨#[]⟩, .string ⟨#[]⟩, .int .i64 sta, .string re, .int .i64 1, .slice fo G.length fc, .string xb, .slice xo 0 xc] rfl rfl _ rfl (unhide HX0) (by kernel_rfl) ?_; intro HZ; have HX := hide HZ; have HB12 := hide (below_setCells w10.heap.size hz10 (#[.string ⟨#[]⟩, .string ⟨#[]⟩, .int .i64 sta, .string re, .int .i64 1, .slice fo G.length fc, .string xb, .slice xo 0 xc] : Array Value).toList 0 _ (unhide HBA)); have HBY := hide (below_setCells w10.heap.size (Nat.le_refl _) (#[.string ⟨#[]⟩, .string ⟨#[]⟩, .int .i64 sta, .string re, .int .i64 1, .slice fo G.length fc, .string xb, .slice xo 0 xc] : Array Value).toList 0 _ ((Below.refl w10.heap.size w10).alloc (Nat.le_refl _) (.cells #[.string ⟨#[]⟩, .string ⟨#[]⟩, .int .i64 0, .string ⟨#[]⟩, .int .i64 0, .slice none 0 0, .string ⟨#[]⟩, .slice none 0 0] 24))); generalize World.setCells _ w10.heap.size 0 _ = w12 at HZ HX HB12 HBY ⊢; clear HZ)
    have HM12 := hide ((unhide HM10).call (unhide HBY))
    have HF12 := hide ((unhide HF10).below (unhide HBY))
    clear HM10 HF10 HBY HX0 HBA HB10
    generalize w10.heap.size = g1 at *
    have G1 := unhide HM12
    have pa0 := G1.cell 0 _ rfl; have pa1 := G1.cell 1 _ rfl; have pa2 := G1.cell 2 _ rfl; have pa3 := G1.cell 3 _ rfl; have pa4 := G1.cell 4 _ rfl; have pa5 := G1.cell 5 _ rfl; have pa6 := G1.cell 6 _ rfl; have pa7 := G1.cell 7 _ rfl; have za := G1.lt
    clear G1
    have G2 := unhide HX
    have px0 := G2.cell 0 _ rfl; have px1 := G2.cell 1 _ rfl; have px2 := G2.cell 2 _ rfl; have px3 := G2.cell 3 _ rfl; have px4 := G2.cell 4 _ rfl; have px5 := G2.cell 5 _ rfl; have px6 := G2.cell 6 _ rfl; have px7 := G2.cell 7 _ rfl; have zx := G2.lt
    clear G2
    have hxb : xb = ⟨#[]⟩ := HXC.out
    subst hxb
    go_upto_region 14 with fail
    go_upto_region 15 with (first
      | (go_at_call 22; refine (unhide qk _).mono ?_; rintro e w' ⟨rfl, rfl⟩)
      | (go_at_call 23; refine (unhide qr9 _).mono ?_; rintro e w' ⟨rfl, rfl⟩))
    rw [← HPL.out]
    refine Reg.region_more (by kernel_rfl) (by kernel_rfl) ?_
    repeat (go_big_quiet_step ((first | (go_at_call 23; exact Reg.Calls.more_same (unhide qr9 _)) | (go_at_call 24; exact Reg.Calls.more (unhide q7 _ _ ((unhide HB12).trans ((Reg.More.hb _).mono (unhide HB12).size)) ((unhide HF12).below (Reg.More.hb _)))))))
    refine wpQuiet_nil ?_
    intro w13 hb13; obtain ⟨hc13, hf13, hz13⟩ := bcell hb13; (try simp at hz13)
    have HB13 := hide ((unhide HB12).trans (hb13.mono (unhide HB12).size))
    clear hb13 hc13 hf13 hz13
    go_wp2_with fail
    go_ret
    exact ⟨by simp, unhide HB13⟩
end Go.Proofs.YtbpopmbabckojaaGreatDoor.Sp
end
