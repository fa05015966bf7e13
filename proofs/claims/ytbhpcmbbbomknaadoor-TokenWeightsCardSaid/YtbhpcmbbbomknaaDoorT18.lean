/- The walk of the law TokenWeights. -/
import Derived.Test.YtbhpcmbbbomknaaDoorT11
import Derived.Test.YtbhpcmbbbomknaaDoorT14
import Derived.Test.YtbhpcmbbbomknaaDoorT17
namespace Go.Proofs.YtbhpcmbbbomknaaDoor.Sp
open Go.RowKit Sl

theorem wR_self (l : List UInt8) : FloatKind.f64.format.order (wR l).1 (wR l).1 = some .eq := by
  by_cases h : ((cutS 46 l).1 = [48] ∨ (cutS 46 l).1 = [49]) ∧ (cutS 46 l).2.1.length ≤ 3 ∧ (cutS 46 l).2.1.all digB = true ∧ valN (wDig l) ≤ 1000
  · rw [wR_good h]
    exact fB_self _ h.2.2.2
  · rw [wR_bad h]
    decide +kernel

set_option maxRecDepth 100000 in
set_option maxHeartbeats 2000000 in
theorem weights_any (s : ByteArray) (q : Nat) (w : World) (ht : Pow10 w) (hM : MaxV w) (hE : RangeV w) :
    Calls Tryd.prog 4 #[.string s, .float .f64 q] w fun e w' => e = .returned (.bool true) ∧ Below w.heap.size w w' := by
  have c0 := hide (lives_any w ht)
  rcases Nat.lt_or_ge 200 s.size with hbig | hsm
  · have hb : decide ((200 : Int) < (s.size : Int)) = true := by simp; omega
    clear hbig ht hM hE
    go_enter Tryd.func4, Tryd.ntmps4
    go_wp2_with fail
    refine (unhide c0).mono ?_; rintro e w1 ⟨rfl, hb1⟩
    go_wp2_with fail
    go_ret
    exact ⟨rfl, hb1⟩
  · have hb : decide ((200 : Int) < (s.size : Int)) = false := by simp; omega
    have c1 := hide (fun w hM hE => weight_any s (by omega) w hM hE)
    have c2 := hide (fun w => rweight_any s w)
    have hs := wR_self s.data.toList
    obtain ⟨b, hbb⟩ : ∃ b, (wR s.data.toList).1 = b := ⟨_, rfl⟩
    obtain ⟨e, he⟩ : ∃ e, (wR s.data.toList).2 = e := ⟨_, rfl⟩
    rw [hbb, he] at c1 c2
    rw [hbb] at hs
    have c3 := hide (fun w => float_same b hs w)
    have c4 := hide (fun w ht => weightText_any q w ht)
    have c5 := hide (fun w => rweightText_any q w)
    obtain ⟨T, hT⟩ : ∃ T, ofL (wtS q) = T := ⟨_, rfl⟩
    rw [hT] at c4 c5
    have HT := hide ht
    have HM := hide hM
    have HE := hide hE
    clear hsm ht hM hE hs hbb he hT
    go_enter Tryd.func4, Tryd.ntmps4
    go_wp2_with fail
    refine (unhide c0).mono ?_; rintro e1 w1 ⟨rfl, hb1⟩
    have HB1 := hide hb1
    clear hb1
    go_wp2_with fail
    refine (unhide c1 _ ((unhide HM).below (unhide HB1)) ((unhide HE).below (unhide HB1))).mono ?_; rintro e2 w2 ⟨rfl, hb2⟩
    have HB2 := hide ((unhide HB1).trans (hb2.mono (unhide HB1).size))
    clear hb2
    go_wp2_with fail
    refine (unhide c2 _).mono ?_; rintro e3 w3 ⟨rfl, rfl⟩
    go_wp2_with fail
    refine (unhide c3 _).mono ?_; rintro e4 w4 ⟨rfl, rfl⟩
    go_wp2_with fail
    refine (unhide c4 _ ((unhide HT).below (unhide HB2))).mono ?_; rintro e5 w5 ⟨rfl, hb5⟩
    have HB5 := hide ((unhide HB2).trans (hb5.mono (unhide HB2).size))
    clear hb5
    go_wp2_with fail
    refine (unhide c5 _).mono ?_; rintro e6 w6 ⟨rfl, hb6⟩
    have HB6 := hide ((unhide HB5).trans (hb6.mono (unhide HB5).size))
    clear hb6
    go_wp2_with fail
    go_ret
    exact ⟨rfl, unhide HB6⟩
end Go.Proofs.YtbhpcmbbbomknaaDoor.Sp
