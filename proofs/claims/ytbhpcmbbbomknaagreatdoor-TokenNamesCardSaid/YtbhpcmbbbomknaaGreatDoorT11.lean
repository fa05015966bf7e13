/- The example that is asked first. -/
import Derived.Test.YtbhpcmbbbomknaaGreatDoorT8
import Derived.Test.YtbhpcmbbbomknaaGreatDoorT10
import Derived.Test.YtbhpcmbbbomknaaGreatDoorC2
namespace Go.Proofs.YtbhpcmbbbomknaaGreatDoor.Sp
open Go.RowKit Sl

def liveA : List ByteArray := [⟨#[97]⟩, ⟨#[34, 98, 44, 99, 34]⟩, ⟨#[100]⟩]
theorem live_split : splitB ⟨#[97, 44, 32, 34, 98, 44, 99, 34, 32, 44, 44, 32, 100]⟩ = liveA := by
  have h : splitS [97, 44, 32, 34, 98, 44, 99, 34, 32, 44, 44, 32, 100] = [[97], [34, 98, 44, 99, 34], [100]] := by decide +kernel
  show (splitS [97, 44, 32, 34, 98, 44, 99, 34, 32, 44, 44, 32, 100]).map ofL = liveA
  rw [h]; rfl
theorem quarter_text : ofL (wtS 4598175219545276416) = ⟨#[48, 46, 50, 53]⟩ := by
  have h : wtS 4598175219545276416 = [48, 46, 50, 53] := by decide +kernel
  rw [h]; rfl
theorem zero_text : ofL (wtS 0) = ⟨#[48]⟩ := by
  have h : wtS 0 = [48] := by decide +kernel
  rw [h]; rfl

set_option maxRecDepth 100000 in
set_option maxHeartbeats 1000000 in
theorem lives_any (w : World) (ht : Pow10 w) : Calls Tryz.prog 6 #[] w fun e w' => e = .returned (.bool true) ∧ Below w.heap.size w w' := by
  have c1 := hide (fun w => split_any ⟨#[97, 44, 32, 34, 98, 44, 99, 34, 32, 44, 44, 32, 100]⟩ (by decide) w)
  have c2 := hide (fun w ht => weightText_any 4598175219545276416 w ht)
  have c3 := hide (fun w ht => weightText_any 0 w ht)
  rw [quarter_text] at c2
  rw [zero_text] at c3
  rw [live_split] at c1
  have HT := hide ht
  clear ht
  go_enter Tryz.func6, Tryz.ntmps6
  go_wp2_with fail
  refine (unhide c1 _).mono ?_; rintro e w1 ⟨v1, rfl, ho1, hb1⟩
  obtain ⟨ao, cp, rfl⟩ := (Rd.own ho1).form
  have c4 := hide (ksameS_any _ _ liveA liveA (by decide) (by decide) _ ((Rd.own ho1).alloc (.cells (strV liveA).toArray 9)) (rd_litS w1 liveA 3 rfl))
  rw [show sameLS liveA liveA = true by unfold sameLS; exact decide_eq_true rfl] at c4
  have HB := hide (hb1.alloc hb1.size (.cells (strV liveA).toArray 9))
  clear ho1 hb1 c1
  go_wp2_with fail
  refine (unhide c4).mono ?_; rintro e w2 ⟨rfl, hb2⟩
  have HB2 := hide ((unhide HB).trans (hb2.mono (unhide HB).size))
  clear c4 hb2 HB
  go_wp2_with fail
  refine (unhide c2 _ ((unhide HT).below (unhide HB2))).mono ?_; rintro e w3 ⟨rfl, hb3⟩
  have HB3 := hide ((unhide HB2).trans (hb3.mono (unhide HB2).size))
  clear c2 hb3 HB2
  go_wp2_with fail
  refine (unhide c3 _ ((unhide HT).below (unhide HB3))).mono ?_; rintro e w4 ⟨rfl, hb4⟩
  have HB4 := hide ((unhide HB3).trans (hb4.mono (unhide HB3).size))
  clear c3 hb4 HB3
  go_wp2_with fail
  go_ret
  exact ⟨rfl, unhide HB4⟩
end Go.Proofs.YtbhpcmbbbomknaaGreatDoor.Sp
