/- Lemmas for the statement's proof, several texts in one: Q11. -/
import Derived.Test.YtbpopmbabckojaaGreatDoorZ27
import Derived.Test.YtbpopmbabckojaaGreatDoorZ28
set_option linter.unusedVariables false
set_option linter.unusedSimpArgs false
/- The reference's parser: look, of responses. -/
section
namespace Go.Proofs.YtbpopmbabckojaaGreatDoor.Sp
open Go.RowKit Sl

theorem RdN.other {w w' : World} {b g1 : Nat} {v : Value} {F : List Fld} (h : RdN w b v F) (hb : But (fun k => k = g1) w w') (hg : ∀ g off n c, v = .slice (some ⟨g, off, none⟩) n c → g ≠ g1) : RdN w' b v F := by
  refine ⟨?_, h.2⟩
  obtain ⟨ao, cap, e, hcp, hz, hl, hc⟩ := h.1
  refine ⟨ao, cap, e, hcp, hz, hl, fun hne => ?_⟩
  obtain ⟨g, off, e2, hlt, hc⟩ := hc hne
  exact ⟨g, off, e2, Nat.lt_of_lt_of_le hlt hb.size, fun i u hu => hb.cell (hc i u hu) (hg g off F.length cap (by rw [e, e2]))⟩

set_option maxRecDepth 100000 in
set_option maxHeartbeats 4000000 in
theorem look_t_more (s : ByteArray) (L H C B b : Nat) (ak : Value) (hs : s.size ≤ 100000) (hL : L ≤ 2000) (hH : H ≤ 1000000) (hC : C ≤ 99) (w : World) (hp : PSt w b L H C B true ak s) (a : ByteArray) (hk : AskAt w b ak a) (hr : (hdS true L H C s.data.toList).2 = (0, 0)) :
    Calls Tryz.prog 43 #[.pointer (some ⟨b, 0, none⟩)] w fun e w' => e = .returned (.tuple #[]) ∧ PSt w' b L H C B true ak s ∧ But (fun k => k = b) w w' := by
  have HHD := hide (head_t s L H C B b hs hL hH hC w (Par.of hp))
  have zb := hp.lt
  have HP := hide hp
  have HK := hide hk
  clear hk
  clear hp
  go_enter Tryz.func43, Tryz.ntmps43
  go_wp2_with fail
  refine (unhide HHD).mono ?_; rintro e w1 ⟨m, fs, rfl, hown, hm, hb1⟩
  rw [hr]
  simp only
  clear hm
  obtain ⟨ao, cap, rfl⟩ := (Rd.own hown).form
  have HO := hide hown
  have HB1 := hide hb1
  clear hown hb1
  obtain ⟨me, ta, re, sta, mi, F⟩ := m
  simp only at HO ⊢
  unfold hdM msgV
  have hg1 : w.heap.size ≤ w1.heap.size := (unhide HB1).size
  have HN1 := hide (Reg.Has.new w1 [.string ⟨#[]⟩, .string ⟨#[]⟩, .int .i64 0, .string ⟨#[]⟩, .int .i64 0, .slice none 0 0, .string ⟨#[]⟩, .slice none 0 0] 24)
  have HBA := hide ((unhide HB1).alloc hg1 (.cells #[.string ⟨#[]⟩, .string ⟨#[]⟩, .int .i64 0, .string ⟨#[]⟩, .int .i64 0, .slice none 0 0, .string ⟨#[]⟩, .slice none 0 0] 24))
  go_upto_region 1 with (refine wpList_storeM rfl _ _ rfl w1.heap.size rfl #[.string me, .string ta, .int .i64 sta, .string re, .int .i64 mi, .slice ao F.length cap, .string ⟨#[]⟩, .slice none 0 0] rfl rfl _ rfl (unhide HN1) (by kernel_rfl) ?_; intro HZ; have HM2 := hide HZ; have HB2 := hide (below_setCells w1.heap.size hg1 (#[.string me, .string ta, .int .i64 sta, .string re, .int .i64 mi, .slice ao F.length cap, .string ⟨#[]⟩, .slice none 0 0] : Array Value).toList 0 _ (unhide HBA)); have HBX := hide (below_setCells w1.heap.size (Nat.le_refl _) (#[.string me, .string ta, .int .i64 sta, .string re, .int .i64 mi, .slice ao F.length cap, .string ⟨#[]⟩, .slice none 0 0] : Array Value).toList 0 _ ((Below.refl w1.heap.size w1).alloc (Nat.le_refl _) (.cells #[.string ⟨#[]⟩, .string ⟨#[]⟩, .int .i64 0, .string ⟨#[]⟩, .int .i64 0, .slice none 0 0, .string ⟨#[]⟩, .slice none 0 0] 24))); generalize World.setCells _ w1.heap.size 0 _ = w2 at HZ HM2 HB2 HBX ⊢; clear HZ)
  have HO2 := hide ((RdN.own (unhide HO) zb).call (unhide HBX))
  have HP2 := hide ((unhide HP).call (unhide HB2))
  clear HN1 HBA HHD HO HBX HB1
  generalize hgg : w1.heap.size = g1 at *
  have q16 := (unhide HP2).cell 16 _ rfl
  have v16 := (unhide HP2).free 16 (by simp [parV])
  have zb2 := (unhide HP2).lt
  go_wp2_with fail
  first | go_end0 | refine bodyPost_ret (results_none rfl _ _ _) rfl ?_
  exact ⟨rfl, (unhide HP2).put 16 (.int .i64 0), (But.of_below (S := fun k => k = b) (unhide HB2)).trans (But.set (fun k => k = b) _ (p := ⟨b, 16, none⟩) rfl _) (fun _ _ e => e)⟩
set_option maxRecDepth 100000 in
set_option maxHeartbeats 4000000 in
theorem look_t_none (s : ByteArray) (L H C B b : Nat) (ak : Value) (hs : s.size ≤ 100000) (hL : L ≤ 2000) (hH : H ≤ 1000000) (hC : C ≤ 99) (w : World) (hp : PSt w b L H C B true ak s) (a : ByteArray) (hk : AskAt w b ak a) (me ta re : ByteArray) (sta mi : Int) (F : List Fld) (at_ : Nat) (hr : hdS true L H C s.data.toList = (⟨me, ta, re, sta, mi, F⟩, at_, 0)) (hat : 0 < at_) (has_ : at_ ≤ s.size) (o : Option Nat) (c : Bool) (hF : Few F) (ho : CLis F o) (hc : TEis F c) (hok : c = true → mi ≠ 0 ∧ o = none) (hfk : frR a sta o c = (1, 0)) :
    Calls Tryz.prog 43 #[.pointer (some ⟨b, 0, none⟩)] w fun e w' => e = .returned (.tuple #[]) ∧ DoneAt w' b L H C B true ⟨me, ta, re, sta, mi, F⟩ ⟨#[]⟩ [] ∧ But (fun k => k = b) w w' := by
  have HHD := hide (head_t s L H C B b hs hL hH hC w (Par.of hp))
  have zb := hp.lt
  have HP := hide hp
  have HK := hide hk
  clear hk
  clear hp
  go_enter Tryz.func43, Tryz.ntmps43
  go_wp2_with fail
  refine (unhide HHD).mono ?_; rintro e w1 ⟨m, fs, rfl, hown, hm, hb1⟩
  rw [hr]
  simp only
  rw [hr] at hm
  have hm := hm hat
  subst hm
  obtain ⟨ao, cap, rfl⟩ := (Rd.own hown).form
  have HO := hide hown
  have HB1 := hide hb1
  clear hown hb1
  unfold hdM msgV
  have hg1 : w.heap.size ≤ w1.heap.size := (unhide HB1).size
  have HN1 := hide (Reg.Has.new w1 [.string ⟨#[]⟩, .string ⟨#[]⟩, .int .i64 0, .string ⟨#[]⟩, .int .i64 0, .slice none 0 0, .string ⟨#[]⟩, .slice none 0 0] 24)
  have HBA := hide ((unhide HB1).alloc hg1 (.cells #[.string ⟨#[]⟩, .string ⟨#[]⟩, .int .i64 0, .string ⟨#[]⟩, .int .i64 0, .slice none 0 0, .string ⟨#[]⟩, .slice none 0 0] 24))
  go_upto_region 1 with (refine wpList_storeM rfl _ _ rfl w1.heap.size rfl #[.string me, .string ta, .int .i64 sta, .string re, .int .i64 mi, .slice ao F.length cap, .string ⟨#[]⟩, .slice none 0 0] rfl rfl _ rfl (unhide HN1) (by kernel_rfl) ?_; intro HZ; have HM2 := hide HZ; have HB2 := hide (below_setCells w1.heap.size hg1 (#[.string me, .string ta, .int .i64 sta, .string re, .int .i64 mi, .slice ao F.length cap, .string ⟨#[]⟩, .slice none 0 0] : Array Value).toList 0 _ (unhide HBA)); have HBX := hide (below_setCells w1.heap.size (Nat.le_refl _) (#[.string me, .string ta, .int .i64 sta, .string re, .int .i64 mi, .slice ao F.length cap, .string ⟨#[]⟩, .slice none 0 0] : Array Value).toList 0 _ ((Below.refl w1.heap.size w1).alloc (Nat.le_refl _) (.cells #[.string ⟨#[]⟩, .string ⟨#[]⟩, .int .i64 0, .string ⟨#[]⟩, .int .i64 0, .slice none 0 0, .string ⟨#[]⟩, .slice none 0 0] 24))); generalize World.setCells _ w1.heap.size 0 _ = w2 at HZ HM2 HB2 HBX ⊢; clear HZ)
  have HO2 := hide ((RdN.own (unhide HO) zb).call (unhide HBX))
  have HP2 := hide ((unhide HP).call (unhide HB2))
  clear HN1 HBA HHD HO HBX HB1
  generalize hgg : w1.heap.size = g1 at *
  have hfr := frame_t a s L H C B b ak ⟨me, ta, re, sta, mi, F⟩ (.slice ao F.length cap) o c hF ho hc hok w2 (unhide HP2) ((unhide HK).but (But.of_below (unhide HB2))) (unhide HO2).1
  rw [hfk] at hfr
  unfold hdM msgV frV at hfr
  simp only at hfr
  have HFR := hide hfr
  clear hfr hF ho hc hok hfk
  go_wp2_with (refine wpList_loadM rfl _ rfl g1 rfl _ rfl (unhide HM2) ?_)
  refine (unhide HFR).mono ?_; rintro e w3 ⟨rfl, hb3⟩
  have HB3 := hide ((unhide HB2).trans (hb3.mono (unhide HB2).size))
  have HO3 := hide ((unhide HO2).call hb3)
  have HP3 := hide ((unhide HP2).call hb3)
  have HM3 := hide ((unhide HM2).call hb3)
  clear hb3 HFR HP2 HM2 HO2 HB2
  have hg3 : w.heap.size ≤ w3.heap.size := (unhide HB3).size
  have zm3 := (unhide HM3).lt
  have HN3 := hide (Reg.Has.new w3 [.int .i64 0, .int .i64 0] 97)
  have HBA := hide ((unhide HB3).alloc hg3 (.cells #[.int .i64 0, .int .i64 0] 97))
  go_upto_region 4 with (refine wpList_storeFr rfl _ _ rfl w3.heap.size rfl #[.int .i64 1, .int .i64 0] rfl rfl _ rfl (unhide HN3) (by kernel_rfl) ?_; intro HZ; have HF4 := hide HZ; have HB4 := hide (below_setCells w3.heap.size hg3 (#[.int .i64 1, .int .i64 0] : Array Value).toList 0 _ (unhide HBA)); have HBX := hide (below_setCells w3.heap.size (Nat.le_refl _) (#[.int .i64 1, .int .i64 0] : Array Value).toList 0 _ ((Below.refl w3.heap.size w3).alloc (Nat.le_refl _) (.cells #[.int .i64 0, .int .i64 0] 97))); generalize World.setCells _ w3.heap.size 0 _ = w4 at HZ HF4 HB4 HBX ⊢; clear HZ)
  have HO4 := hide ((unhide HO3).call (unhide HBX))
  have HP4 := hide ((unhide HP3).call (unhide HBX))
  have HM4 := hide ((unhide HM3).call (unhide HBX))
  clear HN3 HBA HO3 HP3 HM3 HBX HB3
  generalize hgg3 : w3.heap.size = g3 at *
  have f0 := (unhide HF4).cell 0 _ rfl
  have f1 := (unhide HF4).cell 1 _ rfl
  have zf := (unhide HF4).lt
  have p3 := (unhide HP4).cell 3 _ rfl
  have p6 := (unhide HP4).cell 6 _ rfl
  have zp := (unhide HP4).lt
  refine Reg.region_more (by kernel_rfl) (by kernel_rfl) ?_
  repeat (go_big_quiet_step (fail))
  refine wpQuiet_nil ?_
  intro w5 hb5; obtain ⟨hc5, hf5, hz5⟩ := bcell hb5; (try simp at hz5)
  have HP5 := hide ((unhide HP4).call hb5)
  have HM5 := hide ((unhide HM4).call hb5)
  have HF5 := hide ((unhide HF4).call hb5)
  have HO5 := hide ((unhide HO4).call hb5)
  have HB5 := hide ((unhide HB4).trans (hb5.mono (unhide HB4).size))
  clear hb5 hc5 hf5 hz5 f0 f1 zf p3 p6 zp HP4 HM4 HF4 HO4 HB4
  have f0 := (unhide HF5).cell 0 _ rfl
  have f1 := (unhide HF5).cell 1 _ rfl
  have zf := (unhide HF5).lt
  have p3 := (unhide HP5).cell 3 _ rfl
  have p6 := (unhide HP5).cell 6 _ rfl
  have zp := (unhide HP5).lt
  have hwh := whole_any L H C B b true ak s me ta re ⟨#[]⟩ sta mi ao none F.length cap 0 0 w5 (unhide HP5) (fun _ => ⟨_, (unhide HK).but (But.of_below (unhide HB5))⟩)
  unfold msgV at hwh
  have HWH := hide hwh
  clear hwh
  go_wp2_with (refine wpList_loadM rfl _ rfl g1 rfl _ rfl (unhide HM5) ?_)
  refine (unhide HWH).mono ?_; rintro e w8 ⟨rfl, ⟨ak', hp8⟩, hu8⟩
  have HP8 := hide hp8
  have HU8 := hide hu8
  clear hp8 hu8 HWH
  go_wp2_with fail
  first | go_end0 | refine bodyPost_ret (results_none rfl _ _ _) rfl ?_
  exact ⟨rfl, ⟨ak', _, _, unhide HP8, (unhide HO5).but (unhide HU8), RdN.nil _ _⟩, (But.of_below (S := fun k => k = b) (unhide HB5)).trans (unhide HU8) (fun _ _ e => e)⟩
set_option maxRecDepth 100000 in
set_option maxHeartbeats 4000000 in
theorem look_t_whole (s : ByteArray) (L H C B b : Nat) (ak : Value) (hs : s.size ≤ 100000) (hL : L ≤ 2000) (hH : H ≤ 1000000) (hC : C ≤ 99) (w : World) (hp : PSt w b L H C B true ak s) (a : ByteArray) (hk : AskAt w b ak a) (me ta re : ByteArray) (sta mi : Int) (F : List Fld) (at_ : Nat) (hr : hdS true L H C s.data.toList = (⟨me, ta, re, sta, mi, F⟩, at_, 0)) (hat : 0 < at_) (has_ : at_ ≤ s.size) (o : Option Nat) (c : Bool) (hF : Few F) (ho : CLis F o) (hc : TEis F c) (hok : c = true → mi ≠ 0 ∧ o = none) (n : Nat) (hn : n ≤ B) (hB : B ≤ 1000000) (hfk : frR a sta o c = (2, n)) (hl : s.size - at_ = n) :
    Calls Tryz.prog 43 #[.pointer (some ⟨b, 0, none⟩)] w fun e w' => e = .returned (.tuple #[]) ∧ DoneAt w' b L H C B true ⟨me, ta, re, sta, mi, F⟩ (s.extract at_ s.size) [] ∧ But (fun k => k = b) w w' := by
  have hxs : (s.extract at_ s.size).size = s.size - at_ := by rw [ByteArray.size_extract]; omega
  have hnb : decide ((B : Int) < (n : Int)) = false := decide_eq_false (by omega)
  have hnb' : ¬ B < n := by omega
  have hle : (((s.size - at_ : Nat) : Int) == (n : Int)) = true := by rw [beq_iff_eq]; omega
  have HHD := hide (head_t s L H C B b hs hL hH hC w (Par.of hp))
  have zb := hp.lt
  have HP := hide hp
  have HK := hide hk
  clear hk
  clear hp
  go_enter Tryz.func43, Tryz.ntmps43
  go_wp2_with fail
  refine (unhide HHD).mono ?_; rintro e w1 ⟨m, fs, rfl, hown, hm, hb1⟩
  rw [hr]
  simp only
  rw [hr] at hm
  have hm := hm hat
  subst hm
  obtain ⟨ao, cap, rfl⟩ := (Rd.own hown).form
  have HO := hide hown
  have HB1 := hide hb1
  have HOL : ∀ g off n c, (.slice ao F.length cap : Value) = .slice (some ⟨g, off, none⟩) n c → g < w1.heap.size := fun g off n c e => (hown.lt g (by rw [e]; rfl)).2
  clear hown hb1
  unfold hdM msgV
  have hg1 : w.heap.size ≤ w1.heap.size := (unhide HB1).size
  have HN1 := hide (Reg.Has.new w1 [.string ⟨#[]⟩, .string ⟨#[]⟩, .int .i64 0, .string ⟨#[]⟩, .int .i64 0, .slice none 0 0, .string ⟨#[]⟩, .slice none 0 0] 24)
  have HBA := hide ((unhide HB1).alloc hg1 (.cells #[.string ⟨#[]⟩, .string ⟨#[]⟩, .int .i64 0, .string ⟨#[]⟩, .int .i64 0, .slice none 0 0, .string ⟨#[]⟩, .slice none 0 0] 24))
  go_upto_region 1 with (refine wpList_storeM rfl _ _ rfl w1.heap.size rfl #[.string me, .string ta, .int .i64 sta, .string re, .int .i64 mi, .slice ao F.length cap, .string ⟨#[]⟩, .slice none 0 0] rfl rfl _ rfl (unhide HN1) (by kernel_rfl) ?_; intro HZ; have HM2 := hide HZ; have HB2 := hide (below_setCells w1.heap.size hg1 (#[.string me, .string ta, .int .i64 sta, .string re, .int .i64 mi, .slice ao F.length cap, .string ⟨#[]⟩, .slice none 0 0] : Array Value).toList 0 _ (unhide HBA)); have HBX := hide (below_setCells w1.heap.size (Nat.le_refl _) (#[.string me, .string ta, .int .i64 sta, .string re, .int .i64 mi, .slice ao F.length cap, .string ⟨#[]⟩, .slice none 0 0] : Array Value).toList 0 _ ((Below.refl w1.heap.size w1).alloc (Nat.le_refl _) (.cells #[.string ⟨#[]⟩, .string ⟨#[]⟩, .int .i64 0, .string ⟨#[]⟩, .int .i64 0, .slice none 0 0, .string ⟨#[]⟩, .slice none 0 0] 24))); generalize World.setCells _ w1.heap.size 0 _ = w2 at HZ HM2 HB2 HBX ⊢; clear HZ)
  have HO2 := hide ((RdN.own (unhide HO) zb).call (unhide HBX))
  have HP2 := hide ((unhide HP).call (unhide HB2))
  clear HN1 HBA HHD HO HBX HB1
  generalize hgg : w1.heap.size = g1 at *
  have hfr := frame_t a s L H C B b ak ⟨me, ta, re, sta, mi, F⟩ (.slice ao F.length cap) o c hF ho hc hok w2 (unhide HP2) ((unhide HK).but (But.of_below (unhide HB2))) (unhide HO2).1
  rw [hfk] at hfr
  unfold hdM msgV frV at hfr
  simp only at hfr
  have HFR := hide hfr
  clear hfr hF ho hc hok hfk
  go_wp2_with (refine wpList_loadM rfl _ rfl g1 rfl _ rfl (unhide HM2) ?_)
  refine (unhide HFR).mono ?_; rintro e w3 ⟨rfl, hb3⟩
  have HB3 := hide ((unhide HB2).trans (hb3.mono (unhide HB2).size))
  have HO3 := hide ((unhide HO2).call hb3)
  have HP3 := hide ((unhide HP2).call hb3)
  have HM3 := hide ((unhide HM2).call hb3)
  clear hb3 HFR HP2 HM2 HO2 HB2
  have hg3 : w.heap.size ≤ w3.heap.size := (unhide HB3).size
  have zm3 := (unhide HM3).lt
  have HN3 := hide (Reg.Has.new w3 [.int .i64 0, .int .i64 0] 97)
  have HBA := hide ((unhide HB3).alloc hg3 (.cells #[.int .i64 0, .int .i64 0] 97))
  go_upto_region 4 with (refine wpList_storeFr rfl _ _ rfl w3.heap.size rfl #[.int .i64 2, .int .i64 n] rfl rfl _ rfl (unhide HN3) (by kernel_rfl) ?_; intro HZ; have HF4 := hide HZ; have HB4 := hide (below_setCells w3.heap.size hg3 (#[.int .i64 2, .int .i64 n] : Array Value).toList 0 _ (unhide HBA)); have HBX := hide (below_setCells w3.heap.size (Nat.le_refl _) (#[.int .i64 2, .int .i64 n] : Array Value).toList 0 _ ((Below.refl w3.heap.size w3).alloc (Nat.le_refl _) (.cells #[.int .i64 0, .int .i64 0] 97))); generalize World.setCells _ w3.heap.size 0 _ = w4 at HZ HF4 HB4 HBX ⊢; clear HZ)
  have HO4 := hide ((unhide HO3).call (unhide HBX))
  have HP4 := hide ((unhide HP3).call (unhide HBX))
  have HM4 := hide ((unhide HM3).call (unhide HBX))
  clear HN3 HBA HO3 HP3 HM3 HBX HB3
  generalize hgg3 : w3.heap.size = g3 at *
  have f0 := (unhide HF4).cell 0 _ rfl
  have f1 := (unhide HF4).cell 1 _ rfl
  have zf := (unhide HF4).lt
  have p3 := (unhide HP4).cell 3 _ rfl
  have p6 := (unhide HP4).cell 6 _ rfl
  have zp := (unhide HP4).lt
  refine Reg.region_more (by kernel_rfl) (by kernel_rfl) ?_
  repeat (go_big_quiet_step (fail))
  refine wpQuiet_nil ?_
  intro w5 hb5; obtain ⟨hc5, hf5, hz5⟩ := bcell hb5; (try simp at hz5)
  have HP5 := hide ((unhide HP4).call hb5)
  have HM5 := hide ((unhide HM4).call hb5)
  have HF5 := hide ((unhide HF4).call hb5)
  have HO5 := hide ((unhide HO4).call hb5)
  have HB5 := hide ((unhide HB4).trans (hb5.mono (unhide HB4).size))
  clear hb5 hc5 hf5 hz5 f0 f1 zf p3 p6 zp HP4 HM4 HF4 HO4 HB4
  have f0 := (unhide HF5).cell 0 _ rfl
  have f1 := (unhide HF5).cell 1 _ rfl
  have zf := (unhide HF5).lt
  have p3 := (unhide HP5).cell 3 _ rfl
  have p6 := (unhide HP5).cell 6 _ rfl
  have zp := (unhide HP5).lt
  have HOG : ∀ g off n c, (.slice ao F.length cap : Value) = .slice (some ⟨g, off, none⟩) n c → g ≠ g1 := fun g off n c e => by have := HOL g off n c e; omega
  have m6 := (unhide HM5).cell 6 _ rfl
  have u6 := (unhide HM5).free 6 (by simp)
  have zm := (unhide HM5).lt
  have zgb : b < g1 := by omega
  have HM6 := hide ((unhide HM5).put 6 (.string (s.extract at_ s.size)))
  have HP6 := hide ((unhide HP5).other (a := ⟨g1, 6, none⟩) (by show g1 ≠ b; omega) (.string (s.extract at_ s.size)))
  have HU6 := hide (But.set (fun k => k = g1) w5 (p := ⟨g1, 6, none⟩) rfl (.string (s.extract at_ s.size)))
  have HB6 := hide ((unhide HB5).setCell (p := ⟨g1, 6, none⟩) (show w.heap.size ≤ g1 from hg1) (.string (s.extract at_ s.size)))
  have HOX : ∀ w6, But (fun k => k = g1) w5 w6 → RdN w6 b (.slice ao F.length cap) F := fun w6 hu => (unhide HO5).other hu HOG
  go_upto_region 15 with fail
  generalize World.setCell _ ⟨g1, 6, none⟩ _ = w6 at HM6 HP6 HU6 HB6 ⊢
  clear m6 u6 zm f0 f1 zf p3 p6 zp
  have HO6 := hide (HOX w6 (unhide HU6))
  have hwh := whole_any L H C B b true ak s me ta re (s.extract at_ s.size) sta mi ao none F.length cap 0 0 w6 (unhide HP6) (fun _ => ⟨_, (unhide HK).but (But.of_below (unhide HB6))⟩)
  unfold msgV at hwh
  have HWH := hide hwh
  clear hwh
  go_wp2_with (refine wpList_loadM rfl _ rfl g1 rfl _ rfl (unhide HM6) ?_)
  refine (unhide HWH).mono ?_; rintro e w8 ⟨rfl, ⟨ak', hp8⟩, hu8⟩
  have HP8 := hide hp8
  have HU8 := hide hu8
  clear hp8 hu8 HWH
  go_wp2_with fail
  first | go_end0 | refine bodyPost_ret (results_none rfl _ _ _) rfl ?_
  exact ⟨rfl, ⟨ak', _, _, unhide HP8, (unhide HO6).but (unhide HU8), RdN.nil _ _⟩, (But.of_below (S := fun k => k = b) (unhide HB6)).trans (unhide HU8) (fun _ _ e => e)⟩
set_option maxRecDepth 100000 in
set_option maxHeartbeats 4000000 in
theorem look_t_part (s : ByteArray) (L H C B b : Nat) (ak : Value) (hs : s.size ≤ 100000) (hL : L ≤ 2000) (hH : H ≤ 1000000) (hC : C ≤ 99) (w : World) (hp : PSt w b L H C B true ak s) (a : ByteArray) (hk : AskAt w b ak a) (me ta re : ByteArray) (sta mi : Int) (F : List Fld) (at_ : Nat) (hr : hdS true L H C s.data.toList = (⟨me, ta, re, sta, mi, F⟩, at_, 0)) (hat : 0 < at_) (has_ : at_ ≤ s.size) (o : Option Nat) (c : Bool) (hF : Few F) (ho : CLis F o) (hc : TEis F c) (hok : c = true → mi ≠ 0 ∧ o = none) (n : Nat) (hn : n ≤ B) (hB : B ≤ 1000000) (hfk : frR a sta o c = (2, n)) (hl : s.size - at_ < n) :
    Calls Tryz.prog 43 #[.pointer (some ⟨b, 0, none⟩)] w fun e w' => e = .returned (.tuple #[]) ∧ PSt w' b L H C B true ak s ∧ But (fun k => k = b) w w' := by
  have hxs : (s.extract at_ s.size).size = s.size - at_ := by rw [ByteArray.size_extract]; omega
  have hnb : decide ((B : Int) < (n : Int)) = false := decide_eq_false (by omega)
  have hnb' : ¬ B < n := by omega
  have hle : (((s.size - at_ : Nat) : Int) == (n : Int)) = false := by rw [beq_eq_false_iff_ne]; omega
  have hle' : ¬ s.size - at_ = n := by omega
  have HHD := hide (head_t s L H C B b hs hL hH hC w (Par.of hp))
  have zb := hp.lt
  have HP := hide hp
  have HK := hide hk
  clear hk
  clear hp
  go_enter Tryz.func43, Tryz.ntmps43
  go_wp2_with fail
  refine (unhide HHD).mono ?_; rintro e w1 ⟨m, fs, rfl, hown, hm, hb1⟩
  rw [hr]
  simp only
  rw [hr] at hm
  have hm := hm hat
  subst hm
  obtain ⟨ao, cap, rfl⟩ := (Rd.own hown).form
  have HO := hide hown
  have HB1 := hide hb1
  clear hown hb1
  unfold hdM msgV
  have hg1 : w.heap.size ≤ w1.heap.size := (unhide HB1).size
  have HN1 := hide (Reg.Has.new w1 [.string ⟨#[]⟩, .string ⟨#[]⟩, .int .i64 0, .string ⟨#[]⟩, .int .i64 0, .slice none 0 0, .string ⟨#[]⟩, .slice none 0 0] 24)
  have HBA := hide ((unhide HB1).alloc hg1 (.cells #[.string ⟨#[]⟩, .string ⟨#[]⟩, .int .i64 0, .string ⟨#[]⟩, .int .i64 0, .slice none 0 0, .string ⟨#[]⟩, .slice none 0 0] 24))
  go_upto_region 1 with (refine wpList_storeM rfl _ _ rfl w1.heap.size rfl #[.string me, .string ta, .int .i64 sta, .string re, .int .i64 mi, .slice ao F.length cap, .string ⟨#[]⟩, .slice none 0 0] rfl rfl _ rfl (unhide HN1) (by kernel_rfl) ?_; intro HZ; have HM2 := hide HZ; have HB2 := hide (below_setCells w1.heap.size hg1 (#[.string me, .string ta, .int .i64 sta, .string re, .int .i64 mi, .slice ao F.length cap, .string ⟨#[]⟩, .slice none 0 0] : Array Value).toList 0 _ (unhide HBA)); have HBX := hide (below_setCells w1.heap.size (Nat.le_refl _) (#[.string me, .string ta, .int .i64 sta, .string re, .int .i64 mi, .slice ao F.length cap, .string ⟨#[]⟩, .slice none 0 0] : Array Value).toList 0 _ ((Below.refl w1.heap.size w1).alloc (Nat.le_refl _) (.cells #[.string ⟨#[]⟩, .string ⟨#[]⟩, .int .i64 0, .string ⟨#[]⟩, .int .i64 0, .slice none 0 0, .string ⟨#[]⟩, .slice none 0 0] 24))); generalize World.setCells _ w1.heap.size 0 _ = w2 at HZ HM2 HB2 HBX ⊢; clear HZ)
  have HO2 := hide ((RdN.own (unhide HO) zb).call (unhide HBX))
  have HP2 := hide ((unhide HP).call (unhide HB2))
  clear HN1 HBA HHD HO HBX HB1
  generalize hgg : w1.heap.size = g1 at *
  have hfr := frame_t a s L H C B b ak ⟨me, ta, re, sta, mi, F⟩ (.slice ao F.length cap) o c hF ho hc hok w2 (unhide HP2) ((unhide HK).but (But.of_below (unhide HB2))) (unhide HO2).1
  rw [hfk] at hfr
  unfold hdM msgV frV at hfr
  simp only at hfr
  have HFR := hide hfr
  clear hfr hF ho hc hok hfk
  go_wp2_with (refine wpList_loadM rfl _ rfl g1 rfl _ rfl (unhide HM2) ?_)
  refine (unhide HFR).mono ?_; rintro e w3 ⟨rfl, hb3⟩
  have HB3 := hide ((unhide HB2).trans (hb3.mono (unhide HB2).size))
  have HO3 := hide ((unhide HO2).call hb3)
  have HP3 := hide ((unhide HP2).call hb3)
  have HM3 := hide ((unhide HM2).call hb3)
  clear hb3 HFR HP2 HM2 HO2 HB2
  have hg3 : w.heap.size ≤ w3.heap.size := (unhide HB3).size
  have zm3 := (unhide HM3).lt
  have HN3 := hide (Reg.Has.new w3 [.int .i64 0, .int .i64 0] 97)
  have HBA := hide ((unhide HB3).alloc hg3 (.cells #[.int .i64 0, .int .i64 0] 97))
  go_upto_region 4 with (refine wpList_storeFr rfl _ _ rfl w3.heap.size rfl #[.int .i64 2, .int .i64 n] rfl rfl _ rfl (unhide HN3) (by kernel_rfl) ?_; intro HZ; have HF4 := hide HZ; have HB4 := hide (below_setCells w3.heap.size hg3 (#[.int .i64 2, .int .i64 n] : Array Value).toList 0 _ (unhide HBA)); have HBX := hide (below_setCells w3.heap.size (Nat.le_refl _) (#[.int .i64 2, .int .i64 n] : Array Value).toList 0 _ ((Below.refl w3.heap.size w3).alloc (Nat.le_refl _) (.cells #[.int .i64 0, .int .i64 0] 97))); generalize World.setCells _ w3.heap.size 0 _ = w4 at HZ HF4 HB4 HBX ⊢; clear HZ)
  have HO4 := hide ((unhide HO3).call (unhide HBX))
  have HP4 := hide ((unhide HP3).call (unhide HBX))
  have HM4 := hide ((unhide HM3).call (unhide HBX))
  clear HN3 HBA HO3 HP3 HM3 HBX HB3
  generalize hgg3 : w3.heap.size = g3 at *
  have f0 := (unhide HF4).cell 0 _ rfl
  have f1 := (unhide HF4).cell 1 _ rfl
  have zf := (unhide HF4).lt
  have p3 := (unhide HP4).cell 3 _ rfl
  have p6 := (unhide HP4).cell 6 _ rfl
  have zp := (unhide HP4).lt
  refine Reg.region_more (by kernel_rfl) (by kernel_rfl) ?_
  repeat (go_big_quiet_step (fail))
  refine wpQuiet_nil ?_
  intro w5 hb5; obtain ⟨hc5, hf5, hz5⟩ := bcell hb5; (try simp at hz5)
  have HP5 := hide ((unhide HP4).call hb5)
  have HM5 := hide ((unhide HM4).call hb5)
  have HF5 := hide ((unhide HF4).call hb5)
  have HO5 := hide ((unhide HO4).call hb5)
  have HB5 := hide ((unhide HB4).trans (hb5.mono (unhide HB4).size))
  clear hb5 hc5 hf5 hz5 f0 f1 zf p3 p6 zp HP4 HM4 HF4 HO4 HB4
  have f0 := (unhide HF5).cell 0 _ rfl
  have f1 := (unhide HF5).cell 1 _ rfl
  have zf := (unhide HF5).lt
  have p3 := (unhide HP5).cell 3 _ rfl
  have p6 := (unhide HP5).cell 6 _ rfl
  have zp := (unhide HP5).lt
  go_wp2_with fail
  first | go_end0 | refine bodyPost_ret (results_none rfl _ _ _) rfl ?_
  exact ⟨rfl, unhide HP5, But.of_below (S := fun k => k = b) (unhide HB5)⟩
end Go.Proofs.YtbpopmbabckojaaGreatDoor.Sp
end
