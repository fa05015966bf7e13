/- Lemmas for the statement's proof, several texts in one: U5. -/
import Derived.Test.YtbpopmbabckojaaGreatDoorZ47
set_option linter.unusedVariables false
set_option linter.unusedSimpArgs false
/- The reference's parser: look, where content is in chunks. -/
section
namespace Go.Proofs.YtbpopmbabckojaaGreatDoor.Sp
open Go.RowKit Sl

set_option maxRecDepth 100000 in
set_option maxHeartbeats 4000000 in
theorem look_f_cpart (s : ByteArray) (L H C B b : Nat) (ak : Value) (hs : s.size ≤ 100000) (hL : L ≤ 2000) (hH : H ≤ 1000000) (hC : C ≤ 99) (w : World) (hp : PSt w b L H C B false ak s) (me ta re : ByteArray) (sta mi : Int) (F : List Fld) (at_ : Nat) (hr : hdS false L H C s.data.toList = (⟨me, ta, re, sta, mi, F⟩, at_, 0)) (hat : 0 < at_) (has_ : at_ ≤ s.size) (hF : Few F) (ho : CLis F none) (hc : TEis F true) (hmi : mi ≠ 0) (hL0 : 0 < L) (hB : B ≤ 1000000) (hstay : ∀ k, k < (s.extract at_ s.size).size → (dkS L H C B ((s.extract at_ s.size).data.toList.take k)).1 = 0 ∧ (dkS L H C B ((s.extract at_ s.size).data.toList.take k)).2.1 = false) (hend : (dkS L H C B (s.extract at_ s.size).data.toList).2.1 = false) (hlast : (dkS L H C B (s.extract at_ s.size).data.toList).1 = 0) :
    Calls Tryz.prog 43 #[.pointer (some ⟨b, 0, none⟩)] w fun e w' => e = .returned (.tuple #[]) ∧ PSt w' b L H C B false ak s ∧ But (fun k => k = b) w w' := by
  have hfk : frS none true = (3, 0, true) := rfl
  obtain ⟨R, hR⟩ : ∃ R, s.extract at_ s.size = R := ⟨_, rfl⟩
  have hRs : R.size ≤ 100000 := by rw [← hR, ByteArray.size_extract]; omega
  rw [hR] at hstay hend hlast
  have HHD := hide (head_f s L H C B b hs hL hH hC w (Par.of hp))
  have zb := hp.lt
  have HP := hide hp
  clear hp
  go_enter Tryz.func43, Tryz.ntmps43
  go_wp2_with fail
  refine (unhide HHD).mono ?_; rintro e w1 ⟨m, fs, rfl, hown, hm, hb1⟩
  rw [hr]
  simp only
  rw [hr] at hm
  have hm := hm hat
  subst hm
  obtain ⟨ao, cap, rfl⟩ := (Rd.own hown).form
  have HO := hide hown
  have HB1 := hide hb1
  have HOL : ∀ g off n c, (.slice ao F.length cap : Value) = .slice (some ⟨g, off, none⟩) n c → g < w1.heap.size := fun g off n c e => (hown.lt g (by rw [e]; rfl)).2
  clear hown hb1
  unfold hdM msgV
  have hg1 : w.heap.size ≤ w1.heap.size := (unhide HB1).size
  have HN1 := hide (Reg.Has.new w1 [.string ⟨#[]⟩, .string ⟨#[]⟩, .int .i64 0, .string ⟨#[]⟩, .int .i64 0, .slice none 0 0, .string ⟨#[]⟩, .slice none 0 0] 24)
  have HBA := hide ((unhide HB1).alloc hg1 (.cells #[.string ⟨#[]⟩, .string ⟨#[]⟩, .int .i64 0, .string ⟨#[]⟩, .int .i64 0, .slice none 0 0, .string ⟨#[]⟩, .slice none 0 0] 24))
  go_upto_region 1 with (refine wpList_storeM rfl _ _ rfl w1.heap.size rfl #[.string me, .string ta, .int .i64 sta, .string re, .int .i64 mi, .slice ao F.length cap, .string ⟨#[]⟩, .slice none 0 0] rfl rfl _ rfl (unhide HN1) (by kernel_rfl) ?_; intro HZ; have HM2 := hide HZ; have HB2 := hide (below_setCells w1.heap.size hg1 (#[.string me, .string ta, .int .i64 sta, .string re, .int .i64 mi, .slice ao F.length cap, .string ⟨#[]⟩, .slice none 0 0] : Array Value).toList 0 _ (unhide HBA)); have HBX := hide (below_setCells w1.heap.size (Nat.le_refl _) (#[.string me, .string ta, .int .i64 sta, .string re, .int .i64 mi, .slice ao F.length cap, .string ⟨#[]⟩, .slice none 0 0] : Array Value).toList 0 _ ((Below.refl w1.heap.size w1).alloc (Nat.le_refl _) (.cells #[.string ⟨#[]⟩, .string ⟨#[]⟩, .int .i64 0, .string ⟨#[]⟩, .int .i64 0, .slice none 0 0, .string ⟨#[]⟩, .slice none 0 0] 24))); generalize World.setCells _ w1.heap.size 0 _ = w2 at HZ HM2 HB2 HBX ⊢; clear HZ)
  have HO2 := hide ((RdN.own (unhide HO) zb).call (unhide HBX))
  have HP2 := hide ((unhide HP).call (unhide HB2))
  clear HN1 HBA HHD HO HBX HB1
  generalize hgg : w1.heap.size = g1 at *
  have hfr := frame_f s L H C B b ak ⟨me, ta, re, sta, mi, F⟩ (.slice ao F.length cap) none true hF ho hc (fun _ => ⟨hmi, rfl⟩) w2 (unhide HP2) (unhide HO2).1
  rw [hfk] at hfr
  unfold hdM msgV frV at hfr
  simp only at hfr
  have HFR := hide hfr
  clear hfr hF ho hc hfk
  go_wp2_with (refine wpList_loadM rfl _ rfl g1 rfl _ rfl (unhide HM2) ?_)
  refine (unhide HFR).mono ?_; rintro e w3 ⟨rfl, hb3⟩
  have HB3 := hide ((unhide HB2).trans (hb3.mono (unhide HB2).size))
  have HO3 := hide ((unhide HO2).call hb3)
  have HP3 := hide ((unhide HP2).call hb3)
  have HM3 := hide ((unhide HM2).call hb3)
  clear hb3 HFR HP2 HM2 HO2 HB2
  have hg3 : w.heap.size ≤ w3.heap.size := (unhide HB3).size
  have zm3 := (unhide HM3).lt
  have HN3 := hide (Reg.Has.new w3 [.int .i64 0, .int .i64 0] 97)
  have HBA := hide ((unhide HB3).alloc hg3 (.cells #[.int .i64 0, .int .i64 0] 97))
  go_upto_region 4 with (refine wpList_storeFr rfl _ _ rfl w3.heap.size rfl #[.int .i64 3, .int .i64 0] rfl rfl _ rfl (unhide HN3) (by kernel_rfl) ?_; intro HZ; have HF4 := hide HZ; have HB4 := hide (below_setCells w3.heap.size hg3 (#[.int .i64 3, .int .i64 0] : Array Value).toList 0 _ (unhide HBA)); have HBX := hide (below_setCells w3.heap.size (Nat.le_refl _) (#[.int .i64 3, .int .i64 0] : Array Value).toList 0 _ ((Below.refl w3.heap.size w3).alloc (Nat.le_refl _) (.cells #[.int .i64 0, .int .i64 0] 97))); generalize World.setCells _ w3.heap.size 0 _ = w4 at HZ HF4 HB4 HBX ⊢; clear HZ)
  have HO4 := hide ((unhide HO3).call (unhide HBX))
  have HP4 := hide ((unhide HP3).call (unhide HBX))
  have HM4 := hide ((unhide HM3).call (unhide HBX))
  clear HN3 HBA HO3 HP3 HM3 HBX HB3
  generalize hgg3 : w3.heap.size = g3 at *
  have f0 := (unhide HF4).cell 0 _ rfl
  have f1 := (unhide HF4).cell 1 _ rfl
  have zf := (unhide HF4).lt
  have p3 := (unhide HP4).cell 3 _ rfl
  have p6 := (unhide HP4).cell 6 _ rfl
  have zp := (unhide HP4).lt
  refine Reg.region_more (by kernel_rfl) (by kernel_rfl) ?_
  repeat (go_big_quiet_step (fail))
  refine wpQuiet_nil ?_
  intro w5 hb5; obtain ⟨hc5, hf5, hz5⟩ := bcell hb5; (try simp at hz5)
  have HP5 := hide ((unhide HP4).call hb5)
  have HM5 := hide ((unhide HM4).call hb5)
  have HF5 := hide ((unhide HF4).call hb5)
  have HO5 := hide ((unhide HO4).call hb5)
  have HB5 := hide ((unhide HB4).trans (hb5.mono (unhide HB4).size))
  clear hb5 hc5 hf5 hz5 f0 f1 zf p3 p6 zp HP4 HM4 HF4 HO4 HB4
  have f0 := (unhide HF5).cell 0 _ rfl
  have f1 := (unhide HF5).cell 1 _ rfl
  have zf := (unhide HF5).lt
  have p3 := (unhide HP5).cell 3 _ rfl
  have p6 := (unhide HP5).cell 6 _ rfl
  have zp := (unhide HP5).lt
  have HQN := hide (fun w => new5_any w L H C B)
  have HQF := hide (fun d w1 (hd0 : Reg.Has w1 d (dcV L H C B ⟨#[]⟩ 0 false ⟨#[]⟩ (.slice none 0 0))) => dfeed_any R L H C B d (.slice none 0 0) hRs hL0 hL hH hC hB w1 hd0 hstay (hlast))
  have HEND := Lib.hid hend
  clear hstay hend hlast
  go_upto_region 17 with fail
  try rw [hR]
  go_wp2_with (refine wpList_load_mid rfl 34 _ rfl b 0 rfl [.int .i64 L, .int .i64 H, .int .i64 C, .int .i64 B] _ (range_first (ys := [.bool false, ak, .string s, .bool false, .string ⟨#[]⟩, .string ⟨#[]⟩, .int .i64 0, .string ⟨#[]⟩, .int .i64 0, .slice none 0 0, .string ⟨#[]⟩, .slice none 0 0, .int .i64 0]) (unhide HP5)) Tryz.underlying34 rfl (by kernel_rfl) ?_)
  refine (unhide HQN _).mono ?_; rintro e w6 ⟨rfl, hd6, hb6⟩
  have HD6 := hide hd6
  have HP6 := hide ((unhide HP5).call hb6)
  have HM6 := hide ((unhide HM5).call hb6)
  have HO6 := hide ((unhide HO5).call hb6)
  have HB6 := hide ((unhide HB5).trans (hb6.mono (unhide HB5).size))
  have hbd : b < w5.heap.size + 1 := by have := (unhide HP5).lt; omega
  have hgd : g1 < w5.heap.size + 1 := by have := (unhide HM5).lt; omega
  have hwd : w.heap.size ≤ w5.heap.size + 1 := by have := (unhide HB5).size; omega
  clear hd6 hb6 HQN HP5 HM5 HO5 HB5 HF5 f0 f1 zf p3 p6 zp
  generalize w5.heap.size + 1 = d at HD6 hbd hgd hwd ⊢
  have q := hide ((unhide HQF) d w6 (unhide HD6))
  clear HQF
  go_wp2_with fail
  refine (unhide q).mono ?_; rintro e w7 ⟨rfl, bh, hdc, hu7⟩
  have HD7 := hide hdc
  have HP7 := hide (hu7.has (unhide HP6) (fun e => by have : b = d := e; omega))
  have HM7 := hide (hu7.has (unhide HM6) (fun e => by have : g1 = d := e; omega))
  have HO7 : Hid (∀ w', But (fun k => k = d) w6 w' → RdN w' b (.slice ao F.length cap) F) := hide (fun w' hu => (unhide HO6).other hu (fun g off n c e => by have := HOL g off n c e; omega))
  have HOA := hide ((unhide HO7) w7 hu7)
  have HB7 := hide ((unhide HB6).trans (hu7.below (unhide HB6).size (fun k e => by have : k = d := e; omega)))
  clear hdc hu7 q HD6 HP6 HM6 HO6 HB6 HO7
  have hdh := (unhide HD7).1
  rw [HEND.out] at hdh
  have q6 := hdh.cell 6 _ rfl
  have zd := hdh.lt
  have q16 := (unhide HP7).cell 16 _ rfl
  have fz16 := (unhide HP7).free 16 (by simp [parV])
  have zb7 := (unhide HP7).lt
  have hdb : d ≠ b := by omega
  clear hdh HEND
  go_wp2_with fail
  first | go_end0 | refine bodyPost_ret (results_none rfl _ _ _) rfl ?_
  exact ⟨rfl, (unhide HP7).put 16 (.int .i64 0), (But.of_below (S := fun k => k = b) (unhide HB7)).trans (But.set (fun k => k = b) _ (p := ⟨b, 16, none⟩) rfl _) (fun _ _ e => e)⟩
set_option maxRecDepth 100000 in
set_option maxHeartbeats 4000000 in
theorem look_f_cwhole (s : ByteArray) (L H C B b : Nat) (ak : Value) (hs : s.size ≤ 100000) (hL : L ≤ 2000) (hH : H ≤ 1000000) (hC : C ≤ 99) (w : World) (hp : PSt w b L H C B false ak s) (me ta re : ByteArray) (sta mi : Int) (F : List Fld) (at_ : Nat) (hr : hdS false L H C s.data.toList = (⟨me, ta, re, sta, mi, F⟩, at_, 0)) (hat : 0 < at_) (has_ : at_ ≤ s.size) (hF : Few F) (ho : CLis F none) (hc : TEis F true) (hmi : mi ≠ 0) (hL0 : 0 < L) (hB : B ≤ 1000000) (hstay : ∀ k, k < (s.extract at_ s.size).size → (dkS L H C B ((s.extract at_ s.size).data.toList.take k)).1 = 0 ∧ (dkS L H C B ((s.extract at_ s.size).data.toList.take k)).2.1 = false) (ou : ByteArray) (T : List Fld) (hend : dkS L H C B (s.extract at_ s.size).data.toList = (0, true, ou.data.toList, T)) :
    Calls Tryz.prog 43 #[.pointer (some ⟨b, 0, none⟩)] w fun e w' => e = .returned (.tuple #[]) ∧ DoneAt w' b L H C B false ⟨me, ta, re, sta, mi, F⟩ ou T ∧ But (fun k => k = b) w w' := by
  have hfk : frS none true = (3, 0, true) := rfl
  obtain ⟨R, hR⟩ : ∃ R, s.extract at_ s.size = R := ⟨_, rfl⟩
  have hRs : R.size ≤ 100000 := by rw [← hR, ByteArray.size_extract]; omega
  rw [hR] at hstay hend
  have HHD := hide (head_f s L H C B b hs hL hH hC w (Par.of hp))
  have zb := hp.lt
  have HP := hide hp
  clear hp
  go_enter Tryz.func43, Tryz.ntmps43
  go_wp2_with fail
  refine (unhide HHD).mono ?_; rintro e w1 ⟨m, fs, rfl, hown, hm, hb1⟩
  rw [hr]
  simp only
  rw [hr] at hm
  have hm := hm hat
  subst hm
  obtain ⟨ao, cap, rfl⟩ := (Rd.own hown).form
  have HO := hide hown
  have HB1 := hide hb1
  have HOL : ∀ g off n c, (.slice ao F.length cap : Value) = .slice (some ⟨g, off, none⟩) n c → g < w1.heap.size := fun g off n c e => (hown.lt g (by rw [e]; rfl)).2
  clear hown hb1
  unfold hdM msgV
  have hg1 : w.heap.size ≤ w1.heap.size := (unhide HB1).size
  have HN1 := hide (Reg.Has.new w1 [.string ⟨#[]⟩, .string ⟨#[]⟩, .int .i64 0, .string ⟨#[]⟩, .int .i64 0, .slice none 0 0, .string ⟨#[]⟩, .slice none 0 0] 24)
  have HBA := hide ((unhide HB1).alloc hg1 (.cells #[.string ⟨#[]⟩, .string ⟨#[]⟩, .int .i64 0, .string ⟨#[]⟩, .int .i64 0, .slice none 0 0, .string ⟨#[]⟩, .slice none 0 0] 24))
  go_upto_region 1 with (refine wpList_storeM rfl _ _ rfl w1.heap.size rfl #[.string me, .string ta, .int .i64 sta, .string re, .int .i64 mi, .slice ao F.length cap, .string ⟨#[]⟩, .slice none 0 0] rfl rfl _ rfl (unhide HN1) (by kernel_rfl) ?_; intro HZ; have HM2 := hide HZ; have HB2 := hide (below_setCells w1.heap.size hg1 (#[.string me, .string ta, .int .i64 sta, .string re, .int .i64 mi, .slice ao F.length cap, .string ⟨#[]⟩, .slice none 0 0] : Array Value).toList 0 _ (unhide HBA)); have HBX := hide (below_setCells w1.heap.size (Nat.le_refl _) (#[.string me, .string ta, .int .i64 sta, .string re, .int .i64 mi, .slice ao F.length cap, .string ⟨#[]⟩, .slice none 0 0] : Array Value).toList 0 _ ((Below.refl w1.heap.size w1).alloc (Nat.le_refl _) (.cells #[.string ⟨#[]⟩, .string ⟨#[]⟩, .int .i64 0, .string ⟨#[]⟩, .int .i64 0, .slice none 0 0, .string ⟨#[]⟩, .slice none 0 0] 24))); generalize World.setCells _ w1.heap.size 0 _ = w2 at HZ HM2 HB2 HBX ⊢; clear HZ)
  have HO2 := hide ((RdN.own (unhide HO) zb).call (unhide HBX))
  have HP2 := hide ((unhide HP).call (unhide HB2))
  clear HN1 HBA HHD HO HBX HB1
  generalize hgg : w1.heap.size = g1 at *
  have hfr := frame_f s L H C B b ak ⟨me, ta, re, sta, mi, F⟩ (.slice ao F.length cap) none true hF ho hc (fun _ => ⟨hmi, rfl⟩) w2 (unhide HP2) (unhide HO2).1
  rw [hfk] at hfr
  unfold hdM msgV frV at hfr
  simp only at hfr
  have HFR := hide hfr
  clear hfr hF ho hc hfk
  go_wp2_with (refine wpList_loadM rfl _ rfl g1 rfl _ rfl (unhide HM2) ?_)
  refine (unhide HFR).mono ?_; rintro e w3 ⟨rfl, hb3⟩
  have HB3 := hide ((unhide HB2).trans (hb3.mono (unhide HB2).size))
  have HO3 := hide ((unhide HO2).call hb3)
  have HP3 := hide ((unhide HP2).call hb3)
  have HM3 := hide ((unhide HM2).call hb3)
  clear hb3 HFR HP2 HM2 HO2 HB2
  have hg3 : w.heap.size ≤ w3.heap.size := (unhide HB3).size
  have zm3 := (unhide HM3).lt
  have HN3 := hide (Reg.Has.new w3 [.int .i64 0, .int .i64 0] 97)
  have HBA := hide ((unhide HB3).alloc hg3 (.cells #[.int .i64 0, .int .i64 0] 97))
  go_upto_region 4 with (refine wpList_storeFr rfl _ _ rfl w3.heap.size rfl #[.int .i64 3, .int .i64 0] rfl rfl _ rfl (unhide HN3) (by kernel_rfl) ?_; intro HZ; have HF4 := hide HZ; have HB4 := hide (below_setCells w3.heap.size hg3 (#[.int .i64 3, .int .i64 0] : Array Value).toList 0 _ (unhide HBA)); have HBX := hide (below_setCells w3.heap.size (Nat.le_refl _) (#[.int .i64 3, .int .i64 0] : Array Value).toList 0 _ ((Below.refl w3.heap.size w3).alloc (Nat.le_refl _) (.cells #[.int .i64 0, .int .i64 0] 97))); generalize World.setCells _ w3.heap.size 0 _ = w4 at HZ HF4 HB4 HBX ⊢; clear HZ)
  have HO4 := hide ((unhide HO3).call (unhide HBX))
  have HP4 := hide ((unhide HP3).call (unhide HBX))
  have HM4 := hide ((unhide HM3).call (unhide HBX))
  clear HN3 HBA HO3 HP3 HM3 HBX HB3
  generalize hgg3 : w3.heap.size = g3 at *
  have f0 := (unhide HF4).cell 0 _ rfl
  have f1 := (unhide HF4).cell 1 _ rfl
  have zf := (unhide HF4).lt
  have p3 := (unhide HP4).cell 3 _ rfl
  have p6 := (unhide HP4).cell 6 _ rfl
  have zp := (unhide HP4).lt
  refine Reg.region_more (by kernel_rfl) (by kernel_rfl) ?_
  repeat (go_big_quiet_step (fail))
  refine wpQuiet_nil ?_
  intro w5 hb5; obtain ⟨hc5, hf5, hz5⟩ := bcell hb5; (try simp at hz5)
  have HP5 := hide ((unhide HP4).call hb5)
  have HM5 := hide ((unhide HM4).call hb5)
  have HF5 := hide ((unhide HF4).call hb5)
  have HO5 := hide ((unhide HO4).call hb5)
  have HB5 := hide ((unhide HB4).trans (hb5.mono (unhide HB4).size))
  clear hb5 hc5 hf5 hz5 f0 f1 zf p3 p6 zp HP4 HM4 HF4 HO4 HB4
  have f0 := (unhide HF5).cell 0 _ rfl
  have f1 := (unhide HF5).cell 1 _ rfl
  have zf := (unhide HF5).lt
  have p3 := (unhide HP5).cell 3 _ rfl
  have p6 := (unhide HP5).cell 6 _ rfl
  have zp := (unhide HP5).lt
  have HQN := hide (fun w => new5_any w L H C B)
  have HQF := hide (fun d w1 (hd0 : Reg.Has w1 d (dcV L H C B ⟨#[]⟩ 0 false ⟨#[]⟩ (.slice none 0 0))) => dfeed_any R L H C B d (.slice none 0 0) hRs hL0 hL hH hC hB w1 hd0 hstay (by rw [hend]))
  have HEND := Lib.hid hend
  clear hstay hend
  go_upto_region 17 with fail
  try rw [hR]
  go_wp2_with (refine wpList_load_mid rfl 34 _ rfl b 0 rfl [.int .i64 L, .int .i64 H, .int .i64 C, .int .i64 B] _ (range_first (ys := [.bool false, ak, .string s, .bool false, .string ⟨#[]⟩, .string ⟨#[]⟩, .int .i64 0, .string ⟨#[]⟩, .int .i64 0, .slice none 0 0, .string ⟨#[]⟩, .slice none 0 0, .int .i64 0]) (unhide HP5)) Tryz.underlying34 rfl (by kernel_rfl) ?_)
  refine (unhide HQN _).mono ?_; rintro e w6 ⟨rfl, hd6, hb6⟩
  have HD6 := hide hd6
  have HP6 := hide ((unhide HP5).call hb6)
  have HM6 := hide ((unhide HM5).call hb6)
  have HO6 := hide ((unhide HO5).call hb6)
  have HB6 := hide ((unhide HB5).trans (hb6.mono (unhide HB5).size))
  have hbd : b < w5.heap.size + 1 := by have := (unhide HP5).lt; omega
  have hgd : g1 < w5.heap.size + 1 := by have := (unhide HM5).lt; omega
  have hwd : w.heap.size ≤ w5.heap.size + 1 := by have := (unhide HB5).size; omega
  clear hd6 hb6 HQN HP5 HM5 HO5 HB5 HF5 f0 f1 zf p3 p6 zp
  generalize w5.heap.size + 1 = d at HD6 hbd hgd hwd ⊢
  have q := hide ((unhide HQF) d w6 (unhide HD6))
  clear HQF
  go_wp2_with fail
  refine (unhide q).mono ?_; rintro e w7 ⟨rfl, bh, hdc, hu7⟩
  have HD7 := hide hdc
  have HP7 := hide (hu7.has (unhide HP6) (fun e => by have : b = d := e; omega))
  have HM7 := hide (hu7.has (unhide HM6) (fun e => by have : g1 = d := e; omega))
  have HO7 : Hid (∀ w', But (fun k => k = d) w6 w' → RdN w' b (.slice ao F.length cap) F) := hide (fun w' hu => (unhide HO6).other hu (fun g off n c e => by have := HOL g off n c e; omega))
  have HOA := hide ((unhide HO7) w7 hu7)
  have HB7 := hide ((unhide HB6).trans (hu7.below (unhide HB6).size (fun k e => by have : k = d := e; omega)))
  clear hdc hu7 q HD6 HP6 HM6 HO6 HB6 HO7
  have hdh := (unhide HD7).1
  have hrg := (unhide HD7).2 (by rw [HEND.out])
  rw [HEND.out] at hdh hrg
  simp only at hdh hrg
  obtain ⟨bo', bc, rfl⟩ := hrg.1.form
  rw [ofL_of] at hdh
  have zd := hdh.lt
  have q16 := (unhide HP7).cell 16 _ rfl
  have fz16 := (unhide HP7).free 16 (by simp [parV])
  have zb7 := (unhide HP7).lt
  have q6 := hdh.cell 6 _ rfl
  have hdb : d ≠ b := by omega
  have hug := But.set (fun k => k = b) w7 (p := ⟨b, 16, none⟩) rfl (.int .i64 0)
  have HD8 := hide (hug.has hdh (fun e => by have : d = b := e; omega))
  have HP8 := hide ((unhide HP7).put 16 (.int .i64 0))
  have HM8 := hide (hug.has (unhide HM7) (fun e => by have : g1 = b := e; omega))
  have HO8 := hide ((unhide HOA).but hug)
  have HG8 := hide (hrg.but hug (Nat.le_of_lt hbd))
  have HU8 := hide ((But.of_below (S := fun k => k = b) (unhide HB7)).trans hug (fun _ _ e => e))
  clear HEND HD7 HP7 HM7 HOA HB7 hdh hrg hug
  go_upto_region 20 with fail
  generalize World.setCell _ ⟨b, 16, none⟩ _ = w8 at HD8 HP8 HM8 HO8 HG8 HU8 ⊢
  clear zd q16 fz16 zb7 q6
  have hx7 : ∀ y : Reg.Kp (fun w' => Reg.Has w' d (dcV L H C B R 0 true ou (.slice bo' T.length bc))), y.w.cell? ⟨d, 7, none⟩ = some (.string ou) := fun y => y.h.cell 7 _ rfl
  have hx8 : ∀ y : Reg.Kp (fun w' => Reg.Has w' d (dcV L H C B R 0 true ou (.slice bo' T.length bc))), y.w.cell? ⟨d, 8, none⟩ = some (.slice bo' T.length bc) := fun y => y.h.cell 8 _ rfl
  have hgd' : g1 ≠ d := by omega
  have hkpne : Nonempty (Reg.Kp (fun w' => Reg.Has w' d (dcV L H C B R 0 true ou (.slice bo' T.length bc)))) := ⟨⟨_, (unhide HD8).drew⟩⟩
  refine Reg.region_plan3 (fun w' => Reg.Has w' d (dcV L H C B R 0 true ou (.slice bo' T.length bc))) (.takes [0, 4, 1, 5, 2, 6, 3, 7, 8] (.ones [9, 10, 11] .done)) (by kernel_rfl) (by kernel_rfl) (by kernel_rfl) (by decide) (by intro o _ c a v w h; generalize o.dst = d at h; cases d <;> exact h) ((unhide HD8).drew) ?_
  simp only [Reg.Plan3.takes, Reg.Plan3.ones, Reg.wpPlan3, List.getElem?_cons_zero, List.getElem?_cons_succ]
  refine Reg.take_read (by kernel_rfl) ?_
  go_big_quiet_step (fail)
  refine wpQuiet_nil ?_
  refine Reg.take_read (by kernel_rfl) ?_
  go_big_quiet_step (fail)
  refine wpQuiet_nil ?_
  refine Reg.take_nilq _ rfl ?_
  go_big_quiet_step (fail)
  refine wpQuiet_nil ?_
  refine Reg.take_nilq _ rfl ?_
  go_big_quiet_step (fail)
  refine wpQuiet_nil ?_
  refine Reg.take_read (by kernel_rfl) ?_
  go_big_quiet_step (fail)
  refine wpQuiet_nil ?_
  refine Reg.take_read (by kernel_rfl) ?_
  go_big_quiet_step (fail)
  refine wpQuiet_nil ?_
  refine Reg.take_read (by kernel_rfl) ?_
  go_big_quiet_step (fail)
  refine wpQuiet_nil ?_
  refine Reg.take_read (by kernel_rfl) ?_
  go_big_quiet_step (fail)
  refine wpQuiet_nil ?_
  refine Reg.take_read (by kernel_rfl) ?_
  go_big_quiet_step (fail)
  refine wpQuiet_nil ?_
  have hb8 : Below w8.heap.size w8 w8.drew := Below.drew (Below.refl _ _)
  have HDd := hide (unhide HD8).drew
  have HPd := hide (unhide HP8).drew
  have HMd := hide (unhide HM8).drew
  have HOd := hide ((unhide HO8).call hb8)
  have HGd := hide ((unhide HG8).call hb8)
  have HUd := hide ((unhide HU8).more hb8)
  clear hb8 HM8 HP8 HO8 HG8 HU8 HD8 hx7 hx8
  generalize w8.drew = wd at HDd HPd HMd HOd HGd HUd ⊢
  have m6 := (unhide HMd).cell 6 _ rfl
  have fz6 := (unhide HMd).free 6 (by simp)
  have m7 := (unhide HMd).cell 7 _ rfl
  have fz7 := (unhide HMd).free 7 (by simp)
  have zm : g1 < wd.heap.size := (unhide HMd).lt
  (try simp only [Reg.wpOne])
  go_wp2_with (fail)
  refine Reg.thenQ_mk ⟨⟨_, (unhide HDd).other (a := ⟨g1, 6, none⟩) hgd' _⟩, rfl⟩ ?_
  (try dsimp only)
  (try simp only [Reg.wpOne])
  go_wp2_with (fail)
  refine Reg.thenQ_mk ⟨⟨_, (unhide HDd).other (a := ⟨g1, 6, none⟩) hgd' _⟩, rfl⟩ ?_
  (try dsimp only)
  (try simp only [Reg.wpOne])
  go_wp2_with (fail)
  refine Reg.thenQ_mk ⟨⟨_, ((unhide HDd).other (a := ⟨g1, 6, none⟩) hgd' (.string ou)).other (a := ⟨g1, 7, none⟩) hgd' (.slice bo' T.length bc)⟩, rfl⟩ ?_
  (try dsimp only)
  have hu9 := (But.set (fun k => k = g1) wd (p := ⟨g1, 6, none⟩) rfl (.string ou)).trans (But.set (fun k => k = g1) _ (p := ⟨g1, 7, none⟩) rfl (.slice bo' T.length bc)) (fun _ _ e => e)
  have HM9 := hide (((unhide HMd).put 6 (.string ou)).put 7 (.slice bo' T.length bc))
  have HP9 := hide (hu9.has (unhide HPd) (fun e => by have : b = g1 := e; omega))
  have HO9 := hide ((unhide HOd).other hu9 (fun g off n c e => by have := HOL g off n c e; omega))
  have HG9 := hide (((unhide HGd).to (Nat.le_of_lt hbd)).other hu9 (fun g off n c e => by have := (unhide HGd).2 g off n c e; omega))
  have HU9 := hide ((unhide HUd).trans hu9 (fun i hi e => by have : i = g1 := e; omega))
  clear hu9 HMd HPd HOd HGd HUd HDd m6 fz6 m7 fz7 zm
  generalize (wd.setCell ⟨g1, 6, none⟩ (.string ou)).setCell ⟨g1, 7, none⟩ (.slice bo' T.length bc) = w9 at HM9 HP9 HO9 HG9 HU9 ⊢
  have hwh := whole_any L H C B b false ak s me ta re ou sta mi ao bo' F.length cap T.length bc w9 (unhide HP9) (fun h => by cases h)
  unfold msgV at hwh
  have HWH := hide hwh
  clear hwh
  go_wp2_with (refine wpList_loadM rfl _ rfl g1 rfl [.string me, .string ta, .int .i64 sta, .string re, .int .i64 mi, .slice ao F.length cap, .string ou, .slice bo' T.length bc] rfl (unhide HM9) ?_)
  refine (unhide HWH).mono ?_; rintro e w10 ⟨rfl, ⟨ak', hp10⟩, hu10⟩
  have HP10 := hide hp10
  have HU10 := hide hu10
  clear hp10 hu10 HWH
  go_wp2_with fail
  first | go_end0 | refine bodyPost_ret (results_none rfl _ _ _) rfl ?_
  exact ⟨rfl, ⟨ak', _, _, unhide HP10, (unhide HO9).but (unhide HU10), (unhide HG9).but (unhide HU10)⟩, (unhide HU9).trans (unhide HU10) (fun _ _ e => e)⟩
end Go.Proofs.YtbpopmbabckojaaGreatDoor.Sp
end
