/- Lemmas for the statement's proof, several texts in one: Q12, Q13. -/
import Derived.Test.YtbpopmbabckojaaGreatDoorZ27
import Derived.Test.YtbpopmbabckojaaGreatDoorZ06
import Derived.Test.YtbpopmbabckojaaGreatDoorZ29
import Derived.Test.YtbpopmbabckojaaGreatDoorZ24
set_option linter.unusedVariables false
set_option linter.unusedSimpArgs false
/- The reference's parser: Feed, till a message is whole. -/
section
namespace Go.Proofs.YtbpopmbabckojaaGreatDoor.Sp
open Go.RowKit Sl

set_option maxRecDepth 100000 in
set_option maxHeartbeats 4000000 in
theorem feed_t (s : ByteArray) (K : Nat) (hK0 : 0 < K) (hK : K ≤ s.size) (hs : s.size ≤ 100000) (L H C B b : Nat) (ak : Value) (h : Hd) (bo : ByteArray) (T : List Fld) (w : World) (hp : PSt w b L H C B true ak ⟨#[]⟩) (a : ByteArray) (hk : AskAt w b ak a)
    (hstay : ∀ k, 0 < k → k < K → ∀ w1, PSt w1 b L H C B true ak (s.extract 0 k) → But (fun k => k = b) w w1 → Calls Tryz.prog 43 #[.pointer (some ⟨b, 0, none⟩)] w1 fun e w' => e = .returned (.tuple #[]) ∧ PSt w' b L H C B true ak (s.extract 0 k) ∧ But (fun k => k = b) w1 w')
    (hdone : ∀ w1, PSt w1 b L H C B true ak (s.extract 0 K) → But (fun k => k = b) w w1 → Calls Tryz.prog 43 #[.pointer (some ⟨b, 0, none⟩)] w1 fun e w' => e = .returned (.tuple #[]) ∧ DoneAt w' b L H C B true h bo T ∧ But (fun k => k = b) w1 w') :
    Calls Tryz.prog 15 #[.pointer (some ⟨b, 0, none⟩), .string s] w fun e w' => e = .returned (.tuple #[.int .i64 (K : Int), .int .i64 0]) ∧ DoneAt w' b L H C B true h bo T ∧ But (fun k => k = b) w w' := by
  obtain ⟨g, off, n, cap, rfl, _, _, _, _⟩ := hk
  have hn0 : (((n + 1 : Nat) : Int) == 0) = false := by rw [beq_eq_false_iff_ne]; omega
  have hn1 : ¬ ((n + 1 : Nat) : Int) = 0 := by omega
  obtain ⟨ak, hak⟩ : ∃ ak : Value, ak = .slice (some ⟨g, off, none⟩) (n + 1) cap := ⟨_, rfl⟩
  rw [← hak] at hp hstay hdone
  have hex0 : s.extract 0 0 = ⟨#[]⟩ := by apply ba_eq; rw [Lib.extract_data]; simp
  rw [← hex0] at hp
  have HP := hide hp
  have HSTAY := hide hstay
  have HDONE := hide hdone
  clear hp hstay hdone
  go_enter Tryz.func15, Tryz.ntmps15
  go_wp2_with fail
  go_loopw [6] (fun i wr => ∃ k : Nat, i = .int .i64 k ∧ k ≤ K ∧ But (fun k => k = b) w wr ∧ (k < K → PSt wr b L H C B true ak (s.extract 0 k)) ∧ (k = K → DoneAt wr b L H C B true h bo T)) (fun i _ => s.size - (intOf i).toNat)
  case atStart => exact ⟨0, rfl, Nat.zero_le _, But.refl _ _, fun _ => unhide HP, fun e => by omega⟩
  case round =>
    obtain ⟨k, rfl, hk, hu, hst, hdn⟩ := hrel
    rcases Nat.lt_or_ge k K with hlt | hge
    · have hp1 := hst hlt
      have HP1 := hide hp1
      have HU := hide hu
      clear hst hdn hu
      have p4 := (hp1).cell 4 _ rfl
      have p6 := (hp1).cell 6 _ rfl
      have u6 := (hp1).free 6 (by simp [parV])
      have p7 := (hp1).cell 7 _ rfl
      have p16 := (hp1).cell 16 _ rfl
      have zb := (hp1).lt
      have p5 := (hp1).cell 5 _ rfl
      rw [hak] at p5
      have gk : k < s.size := by omega
      clear hp1
      have z1 : (s.extract 0 k).size = k := by rw [ByteArray.size_extract]; omega
      have z2 : (s.extract k (k + 1)).size = 1 := by rw [ByteArray.size_extract]; omega
      go_upto_region 6 with fail
      refine Reg.region_more_barT 13 (by kernel_rfl) (by kernel_rfl) (by intro c a d v w h; cases d <;> exact h) ?_
      simp only [List.take_succ_cons, List.take_zero, List.drop_succ_cons, List.drop_zero]
      repeat (go_big_quiet_step (fail))
      refine wpQuiet_nil ?_
      intro w3 hb3; obtain ⟨hc3, hf3, hz3⟩ := bcell hb3; (try simp at hz3)
      have HP3 := hide ((unhide HP1).call hb3)
      have HU3 := hide ((unhide HU).trans (But.of_below (S := fun k => k = b) hb3) (fun _ _ e => e))
      clear p4 p6 u6 p7 p16 zb p5 hb3 hc3 hf3 hz3 HP1 HU
      have p6 := (unhide HP3).cell 6 _ rfl
      have u6 := (unhide HP3).free 6 (by simp [parV])
      have zb := (unhide HP3).lt
      go_upto_region 7 with fail
      have HU4 := hide ((unhide HU3).trans (But.set (fun k => k = b) w3 (p := ⟨b, 6, none⟩) rfl (.string (s.extract 0 (k + 1)))) (fun _ _ e => e))
      have HP4 : Hid (PSt (w3.setCell ⟨b, 6, none⟩ (.string (s.extract 0 (k + 1)))) b L H C B true ak (s.extract 0 (k + 1))) := hide ((unhide HP3).put 6 _)
      generalize World.setCell _ ⟨b, 6, none⟩ _ = w4 at HU4 HP4 ⊢
      clear p6 u6 zb HP3 HU3 z1 z2
      rcases Nat.lt_or_ge (k + 1) K with h2 | h2
      · have q := hide ((unhide HSTAY) (k + 1) (by omega) h2 w4 (unhide HP4) (unhide HU4))
        go_wp2_with fail
        refine (unhide q).mono ?_; rintro e w5 ⟨rfl, hp5, hu5⟩
        have p16 := hp5.cell 16 _ rfl
        have zb := hp5.lt
        have HP5 := hide hp5
        have HU5 := hide ((unhide HU4).trans hu5 (fun _ _ e => e))
        clear hp5 hu5 q HP4 HU4
        go_wp2_with fail
        go_roundw
        case rel => exact ⟨k + 1, by go_num, by omega, unhide HU5, fun _ => unhide HP5, fun e => by omega⟩
        case measure => simp [intOf]; omega
      · obtain rfl : K = k + 1 := by omega
        have q := hide ((unhide HDONE) w4 (unhide HP4) (unhide HU4))
        go_wp2_with fail
        refine (unhide q).mono ?_; rintro e w5 ⟨rfl, hp5, hu5⟩
        have HD5 := hide hp5
        obtain ⟨ak2, fs2, tr2, hp6, _, _⟩ := hp5
        have p16 := hp6.cell 16 _ rfl
        have zb := hp6.lt
        have HU5 := hide ((unhide HU4).trans hu5 (fun _ _ e => e))
        clear hp6 hu5 q HP4 HU4
        go_wp2_with fail
        go_roundw
        case rel => exact ⟨k + 1, by go_num, by omega, unhide HU5, fun e => by omega, fun _ => unhide HD5⟩
        case measure => simp [intOf]; omega
    · obtain rfl : k = K := by omega
      have hd := hdn rfl
      have HD := hide hd
      have HU := hide hu
      obtain ⟨ak2, fs2, tr2, hp6, _, _⟩ := hd
      have p7 := hp6.cell 7 _ rfl
      have p16 := hp6.cell 16 _ rfl
      have zb := hp6.lt
      clear hst hdn hu hp6
      by_cases hks : k = s.size
      · subst hks
        have gk : decide ((s.size : Int) < s.size) = false := decide_eq_false (by omega)
        go_upto_region 10 with fail
        refine Reg.region_more (by kernel_rfl) (by kernel_rfl) ?_
        repeat (go_big_quiet_step (fail))
        refine wpQuiet_nil ?_
        intro w3 hb3; obtain ⟨hc3, hf3, hz3⟩ := bcell hb3; (try simp at hz3)
        have HD3 := hide (show DoneAt w3 b L H C B true h bo T from by
          obtain ⟨a1, a2, a3, h1, h2, h3⟩ := unhide HD
          exact ⟨a1, a2, a3, h1.call hb3, h2.call hb3, h3.call hb3⟩)
        have HU3 := hide ((unhide HU).trans (But.of_below (S := fun k => k = b) hb3) (fun _ _ e => e))
        clear hb3 hc3 hf3 hz3
        go_wp2_with fail
        go_ret2
        exact ⟨rfl, unhide HD3, unhide HU3⟩
      · have gk : k < s.size := by omega
        go_upto_region 5 with fail
        refine Reg.region_more (by kernel_rfl) (by kernel_rfl) ?_
        repeat (go_big_quiet_step (fail))
        refine wpQuiet_nil ?_
        intro w3 hb3; obtain ⟨hc3, hf3, hz3⟩ := bcell hb3; (try simp at hz3)
        have HD3 := hide (show DoneAt w3 b L H C B true h bo T from by
          obtain ⟨a1, a2, a3, h1, h2, h3⟩ := unhide HD
          exact ⟨a1, a2, a3, h1.call hb3, h2.call hb3, h3.call hb3⟩)
        have HU3 := hide ((unhide HU).trans (But.of_below (S := fun k => k = b) hb3) (fun _ _ e => e))
        clear hb3 hc3 hf3 hz3
        go_wp2_with fail
        go_ret2
        exact ⟨rfl, unhide HD3, unhide HU3⟩
set_option maxRecDepth 100000 in
set_option maxHeartbeats 4000000 in
theorem feed_f (s : ByteArray) (K : Nat) (hK0 : 0 < K) (hK : K ≤ s.size) (hs : s.size ≤ 100000) (L H C B b : Nat) (ak : Value) (h : Hd) (bo : ByteArray) (T : List Fld) (w : World) (hp : PSt w b L H C B false ak ⟨#[]⟩) 
    (hstay : ∀ k, 0 < k → k < K → ∀ w1, PSt w1 b L H C B false ak (s.extract 0 k) → But (fun k => k = b) w w1 → Calls Tryz.prog 43 #[.pointer (some ⟨b, 0, none⟩)] w1 fun e w' => e = .returned (.tuple #[]) ∧ PSt w' b L H C B false ak (s.extract 0 k) ∧ But (fun k => k = b) w1 w')
    (hdone : ∀ w1, PSt w1 b L H C B false ak (s.extract 0 K) → But (fun k => k = b) w w1 → Calls Tryz.prog 43 #[.pointer (some ⟨b, 0, none⟩)] w1 fun e w' => e = .returned (.tuple #[]) ∧ DoneAt w' b L H C B false h bo T ∧ But (fun k => k = b) w1 w') :
    Calls Tryz.prog 15 #[.pointer (some ⟨b, 0, none⟩), .string s] w fun e w' => e = .returned (.tuple #[.int .i64 (K : Int), .int .i64 0]) ∧ DoneAt w' b L H C B false h bo T ∧ But (fun k => k = b) w w' := by
  have hex0 : s.extract 0 0 = ⟨#[]⟩ := by apply ba_eq; rw [Lib.extract_data]; simp
  rw [← hex0] at hp
  have HP := hide hp
  have HSTAY := hide hstay
  have HDONE := hide hdone
  clear hp hstay hdone
  go_enter Tryz.func15, Tryz.ntmps15
  go_wp2_with fail
  go_loopw [6] (fun i wr => ∃ k : Nat, i = .int .i64 k ∧ k ≤ K ∧ But (fun k => k = b) w wr ∧ (k < K → PSt wr b L H C B false ak (s.extract 0 k)) ∧ (k = K → DoneAt wr b L H C B false h bo T)) (fun i _ => s.size - (intOf i).toNat)
  case atStart => exact ⟨0, rfl, Nat.zero_le _, But.refl _ _, fun _ => unhide HP, fun e => by omega⟩
  case round =>
    obtain ⟨k, rfl, hk, hu, hst, hdn⟩ := hrel
    rcases Nat.lt_or_ge k K with hlt | hge
    · have hp1 := hst hlt
      have HP1 := hide hp1
      have HU := hide hu
      clear hst hdn hu
      have p4 := (hp1).cell 4 _ rfl
      have p6 := (hp1).cell 6 _ rfl
      have u6 := (hp1).free 6 (by simp [parV])
      have p7 := (hp1).cell 7 _ rfl
      have p16 := (hp1).cell 16 _ rfl
      have zb := (hp1).lt
      have gk : k < s.size := by omega
      clear hp1
      have z1 : (s.extract 0 k).size = k := by rw [ByteArray.size_extract]; omega
      have z2 : (s.extract k (k + 1)).size = 1 := by rw [ByteArray.size_extract]; omega
      go_upto_region 6 with fail
      refine Reg.region_more_barT 13 (by kernel_rfl) (by kernel_rfl) (by intro c a d v w h; cases d <;> exact h) ?_
      simp only [List.take_succ_cons, List.take_zero, List.drop_succ_cons, List.drop_zero]
      repeat (go_big_quiet_step (fail))
      refine wpQuiet_nil ?_
      intro w3 hb3; obtain ⟨hc3, hf3, hz3⟩ := bcell hb3; (try simp at hz3)
      have HP3 := hide ((unhide HP1).call hb3)
      have HU3 := hide ((unhide HU).trans (But.of_below (S := fun k => k = b) hb3) (fun _ _ e => e))
      clear p4 p6 u6 p7 p16 zb hb3 hc3 hf3 hz3 HP1 HU
      have p6 := (unhide HP3).cell 6 _ rfl
      have u6 := (unhide HP3).free 6 (by simp [parV])
      have zb := (unhide HP3).lt
      go_upto_region 7 with fail
      have HU4 := hide ((unhide HU3).trans (But.set (fun k => k = b) w3 (p := ⟨b, 6, none⟩) rfl (.string (s.extract 0 (k + 1)))) (fun _ _ e => e))
      have HP4 : Hid (PSt (w3.setCell ⟨b, 6, none⟩ (.string (s.extract 0 (k + 1)))) b L H C B false ak (s.extract 0 (k + 1))) := hide ((unhide HP3).put 6 _)
      generalize World.setCell _ ⟨b, 6, none⟩ _ = w4 at HU4 HP4 ⊢
      clear p6 u6 zb HP3 HU3 z1 z2
      rcases Nat.lt_or_ge (k + 1) K with h2 | h2
      · have q := hide ((unhide HSTAY) (k + 1) (by omega) h2 w4 (unhide HP4) (unhide HU4))
        go_wp2_with fail
        refine (unhide q).mono ?_; rintro e w5 ⟨rfl, hp5, hu5⟩
        have p16 := hp5.cell 16 _ rfl
        have zb := hp5.lt
        have HP5 := hide hp5
        have HU5 := hide ((unhide HU4).trans hu5 (fun _ _ e => e))
        clear hp5 hu5 q HP4 HU4
        go_wp2_with fail
        go_roundw
        case rel => exact ⟨k + 1, by go_num, by omega, unhide HU5, fun _ => unhide HP5, fun e => by omega⟩
        case measure => simp [intOf]; omega
      · obtain rfl : K = k + 1 := by omega
        have q := hide ((unhide HDONE) w4 (unhide HP4) (unhide HU4))
        go_wp2_with fail
        refine (unhide q).mono ?_; rintro e w5 ⟨rfl, hp5, hu5⟩
        have HD5 := hide hp5
        obtain ⟨ak2, fs2, tr2, hp6, _, _⟩ := hp5
        have p16 := hp6.cell 16 _ rfl
        have zb := hp6.lt
        have HU5 := hide ((unhide HU4).trans hu5 (fun _ _ e => e))
        clear hp6 hu5 q HP4 HU4
        go_wp2_with fail
        go_roundw
        case rel => exact ⟨k + 1, by go_num, by omega, unhide HU5, fun e => by omega, fun _ => unhide HD5⟩
        case measure => simp [intOf]; omega
    · obtain rfl : k = K := by omega
      have hd := hdn rfl
      have HD := hide hd
      have HU := hide hu
      obtain ⟨ak2, fs2, tr2, hp6, _, _⟩ := hd
      have p7 := hp6.cell 7 _ rfl
      have p16 := hp6.cell 16 _ rfl
      have zb := hp6.lt
      clear hst hdn hu hp6
      by_cases hks : k = s.size
      · subst hks
        have gk : decide ((s.size : Int) < s.size) = false := decide_eq_false (by omega)
        go_upto_region 10 with fail
        refine Reg.region_more (by kernel_rfl) (by kernel_rfl) ?_
        repeat (go_big_quiet_step (fail))
        refine wpQuiet_nil ?_
        intro w3 hb3; obtain ⟨hc3, hf3, hz3⟩ := bcell hb3; (try simp at hz3)
        have HD3 := hide (show DoneAt w3 b L H C B false h bo T from by
          obtain ⟨a1, a2, a3, h1, h2, h3⟩ := unhide HD
          exact ⟨a1, a2, a3, h1.call hb3, h2.call hb3, h3.call hb3⟩)
        have HU3 := hide ((unhide HU).trans (But.of_below (S := fun k => k = b) hb3) (fun _ _ e => e))
        clear hb3 hc3 hf3 hz3
        go_wp2_with fail
        go_ret2
        exact ⟨rfl, unhide HD3, unhide HU3⟩
      · have gk : k < s.size := by omega
        go_upto_region 5 with fail
        refine Reg.region_more (by kernel_rfl) (by kernel_rfl) ?_
        repeat (go_big_quiet_step (fail))
        refine wpQuiet_nil ?_
        intro w3 hb3; obtain ⟨hc3, hf3, hz3⟩ := bcell hb3; (try simp at hz3)
        have HD3 := hide (show DoneAt w3 b L H C B false h bo T from by
          obtain ⟨a1, a2, a3, h1, h2, h3⟩ := unhide HD
          exact ⟨a1, a2, a3, h1.call hb3, h2.call hb3, h3.call hb3⟩)
        have HU3 := hide ((unhide HU).trans (But.of_below (S := fun k => k = b) hb3) (fun _ _ e => e))
        clear hb3 hc3 hf3 hz3
        go_wp2_with fail
        go_ret2
        exact ⟨rfl, unhide HD3, unhide HU3⟩
end Go.Proofs.YtbpopmbabckojaaGreatDoor.Sp
end

/- A response that emit wrote is fed to the reference's parser. -/
section
namespace Go.Proofs.YtbpopmbabckojaaGreatDoor.Sp
open Go.RowKit Sl

def resX (re : ByteArray) (st mi : Int) : List UInt8 := slT mi st re.data.toList
/-- how many bytes of it are eaten -/
def resK (re bo m : ByteArray) (st mi : Int) (F : List Fld) : Nat := (headL (resX re st mi) (resG bo st m F)).length + if bareB m st = true then 0 else bo.size
def resC (bo m : ByteArray) (st : Int) : ByteArray := if bareB m st = true then ⟨#[]⟩ else bo
theorem ext_list (s : ByteArray) (k : Nat) : (s.extract 0 k).data.toList = s.data.toList.take k := by rw [Lib.extract_data]; simp
theorem resG_all {bo m : ByteArray} {st : Int} {F : List Fld} (hF : F.all chkS = true) (hb : bo.size ≤ 400) : (resG bo st m F).all chkS = true := by
  unfold resG
  split
  · exact hF
  · rw [List.all_append, hF]
    simp only [List.all_cons, List.all_nil, Bool.and_true, Bool.true_and]
    exact clF_small ⟨bo.size, by omega⟩
theorem clF_len : ∀ n : Fin 401, (clF n.val).1.size + (clF n.val).2.size ≤ 30 := by decide +kernel
theorem resG_len {bo m : ByteArray} {st : Int} {F : List Fld} (h1 : F.length ≤ 20) (h2 : sumF F ≤ 600) (hb : bo.size ≤ 400) : (resG bo st m F).length ≤ 21 ∧ sumF (resG bo st m F) ≤ 630 := by
  unfold resG
  split
  · exact ⟨by omega, by omega⟩
  · have := clF_len ⟨bo.size, by omega⟩
    refine ⟨by simp; omega, ?_⟩
    unfold sumF at h2 ⊢
    rw [List.map_append, List.sum_append]
    simp only [List.map_cons, List.map_nil, List.sum_cons, List.sum_nil]
    simp only at this
    omega
theorem few_sum {F : List Fld} (h1 : F.length ≤ 100) (h2 : sumF F ≤ 2000) : Few F := ⟨h1, fun f hf => by have := sumF_mem hf; omega⟩
theorem resG_cl {bo m : ByteArray} {st : Int} {F : List Fld} (h1 : allB F clB = []) (h2 : allB F teB = []) (hb : bo.size ≤ 400) (hn : bareB m st = false → 100 ≤ st) : (∃ o, CLis (resG bo st m F) o ∧ (bareB m st = false → o = some bo.size)) ∧ TEis (resG bo st m F) false := by
  unfold resG
  split
  · rename_i h
    refine ⟨⟨none, h1, fun hb => ?_⟩, h2⟩
    have h3 := bare_none (hn hb) (h.imp id (fun h => h.1))
    rw [h3] at hb
    cases hb
  · exact ⟨⟨some bo.size, CLis_of h1 hb, fun _ => rfl⟩, TEis_of h2⟩
theorem resBo_eq {bo m : ByteArray} {st : Int} (h0 : 100 ≤ st) (h : bareB m st = false) : resBo bo st m = bo := by
  unfold resBo
  rw [if_neg]
  intro hh
  rw [bare_none h0 hh] at h
  cases h
theorem resK_size {re bo m s : ByteArray} {st mi : Int} {F T : List Fld} (h : resS ⟨#[]⟩ ⟨#[]⟩ re bo st mi F T m = (s, 0)) (hc : conB m st = false) : resK re bo m st mi F = s.size := by
  obtain ⟨h1, h2, _⟩ := res_read h
  have e : s.size = s.data.toList.length := by simp
  rw [e, h1]
  unfold resK resX
  rw [List.length_append]
  congr 1
  cases hb : bareB m st
  · rw [if_neg (by decide), resBo_eq h2.2.2.1 hb]; simp
  · rw [if_pos rfl]
    unfold resBo
    rw [if_pos (bare_some hb hc)]
    rfl
theorem resK_le {re bo m s : ByteArray} {st mi : Int} {F T : List Fld} (h : resS ⟨#[]⟩ ⟨#[]⟩ re bo st mi F T m = (s, 0)) : resK re bo m st mi F ≤ s.size ∧ 0 < resK re bo m st mi F := by
  obtain ⟨h1, h2, _⟩ := res_read h
  have e : s.size = s.data.toList.length := by simp
  rw [e, h1]
  unfold resK resX
  rw [List.length_append, headL_len]
  cases hb : bareB m st
  · rw [if_neg (by decide), resBo_eq h2.2.2.1 hb]
    have : bo.size = bo.data.toList.length := by simp
    omega
  · rw [if_pos rfl]; omega

theorem feed_res (re bo m s : ByteArray) (st mi : Int) (F T : List Fld) (h : resS ⟨#[]⟩ ⟨#[]⟩ re bo st mi F T m = (s, 0)) (h1 : re.size ≤ 100) (h2 : bo.size ≤ 400) (h3 : F.length ≤ 20) (h4 : sumF F ≤ 600)
    (w : World) (b : Nat) (ak : Value) (hp : PSt w b 2000 4000 40 1000 true ak ⟨#[]⟩) (hk : AskAt w b ak m) :
    Calls Tryz.prog 15 #[.pointer (some ⟨b, 0, none⟩), .string s] w fun e w' => e = .returned (.tuple #[.int .i64 (resK re bo m st mi F : Int), .int .i64 0]) ∧
      DoneAt w' b 2000 4000 40 1000 true ⟨⟨#[]⟩, ⟨#[]⟩, re, st, mi, resG bo st m F⟩ (resC bo m st) [] ∧ But (fun k => k = b) w w' := by
  obtain ⟨r1, r2, r3, r4, r5⟩ := res_read h
  obtain ⟨x1, x2⟩ := slT_noEnd r2
  have hre : re.data.toList.length = re.size := by simp
  have hst : 100 ≤ st := r2.2.2.1
  have hgall := resG_all (m := m) (st := st) r3 h2
  obtain ⟨hg1, hg2⟩ := resG_len (m := m) (st := st) h3 h4 h2
  have hgs : ∀ g ∈ resG bo st m F, g.1.size + g.2.size + 4 ≤ 2000 := fun g hg => by have := sumF_mem hg; omega
  have hxl : (resX re st mi).length + 2 ≤ 2000 := by unfold resX; omega
  have hfl := first_res r2
  have hHL : (headL (resX re st mi) (resG bo st m F)).length ≤ 4000 := by
    rw [headL_len, sumF_lines]; unfold resX; omega
  have hsz : s.size ≤ 100000 := by
    have e : s.size = s.data.toList.length := by simp
    rw [e, r1, List.length_append]
    have : (resBo bo st m).data.toList.length ≤ 400 := by
      unfold resBo; split
      · exact Nat.zero_le _
      · simpa using h2
    unfold resX at hHL
    omega
  obtain ⟨hK1, hK0⟩ := resK_le h
  obtain ⟨⟨o, ho, hos⟩, hte⟩ := resG_cl (m := m) r4 r5 h2 (fun _ => hst)
  have hfew : Few (resG bo st m F) := few_sum (by omega) (by omega)
  have hpart : ∀ k, k < (headL (resX re st mi) (resG bo st m F)).length → (hdS true 2000 4000 40 (s.extract 0 k).data.toList).2 = (0, 0) := fun k hk => by
    rw [ext_list, r1, List.take_append_of_le_length (by unfold resX at hk; omega)]
    exact hdS_part (resX re st mi) _ _ k x1 slT_ne hfl rfl hxl hgall hgs hHL (by omega) hk
  have hwhole : ∀ k, (headL (resX re st mi) (resG bo st m F)).length ≤ k → hdS true 2000 4000 40 (s.extract 0 k).data.toList = (⟨⟨#[]⟩, ⟨#[]⟩, re, st, mi, resG bo st m F⟩, (headL (resX re st mi) (resG bo st m F)).length, 0) := fun k hk => by
    rw [ext_list, r1, List.take_append, List.take_of_length_le (by unfold resX at hk; omega)]
    exact hdS_whole (resX re st mi) _ _ _ x1 slT_ne hfl rfl hxl hgall hgs hHL (by omega) (.inl rfl)
  have hel : ∀ k, k ≤ s.size → (s.extract 0 k).size = k := fun k hk => by rw [ByteArray.size_extract]; omega
  have hat : 0 < (headL (resX re st mi) (resG bo st m F)).length := by rw [headL_len]; omega
  obtain ⟨hl, hhl⟩ : ∃ hl, (headL (resX re st mi) (resG bo st m F)).length = hl := ⟨_, rfl⟩
  have hKd : resK re bo m st mi F = hl + if bareB m st = true then 0 else bo.size := by unfold resK; rw [hhl]
  rw [hhl] at hpart hwhole hat hHL
  refine feed_t s (resK re bo m st mi F) hK0 hK1 hsz 2000 4000 40 1000 b ak _ _ _ w hp m hk (fun k hk0 hkK w1 hp1 hu1 => ?_) (fun w1 hp1 hu1 => ?_)
  · rcases Nat.lt_or_ge k hl with hlt | hge
    · exact look_t_more (s.extract 0 k) 2000 4000 40 1000 b ak (by rw [hel k (by omega)]; omega) (by decide) (by decide) (by decide) w1 hp1 m (hk.but hu1) (hpart k hlt)
    · have hnb : bareB m st = false := by
        cases hb : bareB m st
        · rfl
        · rw [hb, if_pos rfl] at hKd; omega
      rw [hnb, if_neg (by decide)] at hKd
      obtain rfl := hos hnb
      have hfr : frR m st (some bo.size) false = (2, bo.size) := by
        unfold frR
        rw [hnb, if_neg (by decide)]
        obtain ⟨n, hn⟩ : ∃ n, bo.size = n + 1 := ⟨bo.size - 1, by omega⟩
        rw [hn]
        rfl
      exact look_t_part (s.extract 0 k) 2000 4000 40 1000 b ak (by rw [hel k (by omega)]; omega) (by decide) (by decide) (by decide) w1 hp1 m (hk.but hu1) _ _ _ _ _ _ hl (hwhole k hge) hat (by rw [hel k (by omega)]; exact hge) _ false hfew ho hte (by intro e; cases e) bo.size (by omega) (by decide) hfr (by rw [hel k (by omega)]; omega)
  · cases hb : bareB m st
    · rw [hb, if_neg (by decide)] at hKd
      obtain rfl := hos hb
      have hcc : resC bo m st = bo := by unfold resC; rw [hb, if_neg (by decide)]
      rcases Nat.eq_zero_or_pos bo.size with h0 | hpos
      · have hfr : frR m st (some bo.size) false = (1, 0) := by
          unfold frR
          rw [hb, if_neg (by decide), h0]
          rfl
        have hbo : bo = ⟨#[]⟩ := by apply ba_eq; exact List.eq_nil_of_length_eq_zero (by simpa using h0)
        have hc0 : resC bo m st = ⟨#[]⟩ := hcc.trans hbo
        rw [hc0]
        have hq := look_t_none (s.extract 0 (resK re bo m st mi F)) 2000 4000 40 1000 b ak (by rw [hel _ hK1]; omega) (by decide) (by decide) (by decide) w1 hp1 m (hk.but hu1) _ _ _ _ _ _ hl (hwhole _ (by omega)) hat (by rw [hel _ hK1]; omega) _ false hfew ho hte (by intro e; cases e) hfr
        exact hq
      · have hfr : frR m st (some bo.size) false = (2, bo.size) := by
          unfold frR
          rw [hb, if_neg (by decide)]
          obtain ⟨n, hn⟩ : ∃ n, bo.size = n + 1 := ⟨bo.size - 1, by omega⟩
          rw [hn]
          rfl
        have hbx : (s.extract 0 (resK re bo m st mi F)).extract hl (s.extract 0 (resK re bo m st mi F)).size = bo := by
          apply ba_eq
          have hb2 : resBo bo st m = bo := resBo_eq hst hb
          rw [Lib.extract_to_end, ext_list, r1, hb2, show headL (slT mi st re.data.toList) (resG bo st m F) = headL (resX re st mi) (resG bo st m F) from rfl, List.take_of_length_le (by rw [List.length_append, hhl, hKd]; simp), ← hhl, List.drop_left]
        have hq := look_t_whole (s.extract 0 (resK re bo m st mi F)) 2000 4000 40 1000 b ak (by rw [hel _ hK1]; omega) (by decide) (by decide) (by decide) w1 hp1 m (hk.but hu1) _ _ _ _ _ _ hl (hwhole _ (by omega)) hat (by rw [hel _ hK1]; omega) _ false hfew ho hte (by intro e; cases e) bo.size (by omega) (by decide) hfr (by rw [hel _ hK1]; omega)
        rw [hbx] at hq
        rw [hcc]
        exact hq
    · rw [hb, if_pos rfl] at hKd
      have hcc : resC bo m st = ⟨#[]⟩ := by unfold resC; rw [hb, if_pos rfl]
      rw [hcc]
      have hfr : frR m st o false = (1, 0) := by unfold frR; rw [hb, if_pos rfl]
      exact look_t_none (s.extract 0 (resK re bo m st mi F)) 2000 4000 40 1000 b ak (by rw [hel _ hK1]; omega) (by decide) (by decide) (by decide) w1 hp1 m (hk.but hu1) _ _ _ _ _ _ hl (hwhole _ (by omega)) hat (by rw [hel _ hK1]; omega) _ false hfew ho hte (by intro e; cases e) hfr
end Go.Proofs.YtbpopmbabckojaaGreatDoor.Sp
end
