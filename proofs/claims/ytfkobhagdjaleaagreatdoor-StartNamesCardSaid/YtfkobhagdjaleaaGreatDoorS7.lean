/- The walk of the law StartNames. -/
import Derived.Test.YtfkobhagdjaleaaGreatDoorS6
namespace Go.Proofs.YtfkobhagdjaleaaGreatDoor.Sp
open Go.RowKit Sl

theorem sn0 (w : World) (hM : MaxV w) (hE : RangeV w) : Calls Tryz.prog 7 #[.string ⟨#[72, 84, 84, 80, 47, 49, 46, 48, 32, 52, 48, 52, 32, 78, 111, 116, 32, 70, 111, 117, 110, 100]⟩] w fun e w' => e = .returned (.tuple #[.int .i64 0, .int .i64 404, .string ⟨#[78, 111, 116, 32, 70, 111, 117, 110, 100]⟩, .int .i64 0]) ∧ Below w.heap.size w w' := by
  exact status_of ⟨#[72, 84, 84, 80, 47, 49, 46, 48, 32, 52, 48, 52, 32, 78, 111, 116, 32, 70, 111, 117, 110, 100]⟩ ⟨#[78, 111, 116, 32, 70, 111, 117, 110, 100]⟩ 0 404 0 (by decide +kernel) (by decide) w hM hE
theorem sn1 (w : World) (hM : MaxV w) (hE : RangeV w) : Calls Tryz.prog 7 #[.string ⟨#[72, 84, 84, 80, 47, 49, 46, 49, 32, 50, 48, 48, 32]⟩] w fun e w' => e = .returned (.tuple #[.int .i64 1, .int .i64 200, .string ⟨#[]⟩, .int .i64 0]) ∧ Below w.heap.size w w' := by
  exact status_of ⟨#[72, 84, 84, 80, 47, 49, 46, 49, 32, 50, 48, 48, 32]⟩ ⟨#[]⟩ 1 200 0 (by decide +kernel) (by decide) w hM hE
theorem sn2 (w : World) (hM : MaxV w) (hE : RangeV w) : Calls Tryz.prog 7 #[.string ⟨#[72, 84, 84, 80, 47, 49, 46, 49, 32, 50, 48, 48]⟩] w fun e w' => e = .returned (.tuple #[.int .i64 0, .int .i64 0, .string ⟨#[]⟩, .int .i64 4]) ∧ Below w.heap.size w w' := by
  exact status_of ⟨#[72, 84, 84, 80, 47, 49, 46, 49, 32, 50, 48, 48]⟩ ⟨#[]⟩ 0 0 4 (by decide +kernel) (by decide) w hM hE
theorem sn3 (w : World) (hM : MaxV w) (hE : RangeV w) : Calls Tryz.prog 7 #[.string ⟨#[72, 84, 84, 80, 47, 49, 46, 49, 32, 48, 57, 57, 32, 120]⟩] w fun e w' => e = .returned (.tuple #[.int .i64 0, .int .i64 0, .string ⟨#[]⟩, .int .i64 4]) ∧ Below w.heap.size w w' := by
  exact status_of ⟨#[72, 84, 84, 80, 47, 49, 46, 49, 32, 48, 57, 57, 32, 120]⟩ ⟨#[]⟩ 0 0 4 (by decide +kernel) (by decide) w hM hE
theorem sn4 (w : World) (hM : MaxV w) : Calls Tryz.prog 8 #[.string ⟨#[71, 69, 84, 32, 47, 32, 104, 116, 116, 112, 47, 49, 46, 49]⟩] w fun e w' => e = .returned (.tuple #[.string ⟨#[]⟩, .string ⟨#[]⟩, .int .i64 0, .int .i64 400]) ∧ Below w.heap.size w w' := by
  exact request_of ⟨#[71, 69, 84, 32, 47, 32, 104, 116, 116, 112, 47, 49, 46, 49]⟩ ⟨#[]⟩ ⟨#[]⟩ 0 400 (by decide +kernel) (by decide) w hM
theorem sn5 (w : World) (hM : MaxV w) : Calls Tryz.prog 8 #[.string ⟨#[71, 40, 84, 32, 47, 32, 72, 84, 84, 80, 47, 49, 46, 49]⟩] w fun e w' => e = .returned (.tuple #[.string ⟨#[]⟩, .string ⟨#[]⟩, .int .i64 0, .int .i64 400]) ∧ Below w.heap.size w w' := by
  exact request_of ⟨#[71, 40, 84, 32, 47, 32, 72, 84, 84, 80, 47, 49, 46, 49]⟩ ⟨#[]⟩ ⟨#[]⟩ 0 400 (by decide +kernel) (by decide) w hM
theorem sn6 (w : World) (hM : MaxV w) : Calls Tryz.prog 8 #[.string ⟨#[71, 69, 84, 32, 47, 32, 72, 84, 84, 80, 47, 49, 46, 50]⟩] w fun e w' => e = .returned (.tuple #[.string ⟨#[]⟩, .string ⟨#[]⟩, .int .i64 0, .int .i64 505]) ∧ Below w.heap.size w w' := by
  exact request_of ⟨#[71, 69, 84, 32, 47, 32, 72, 84, 84, 80, 47, 49, 46, 50]⟩ ⟨#[]⟩ ⟨#[]⟩ 0 505 (by decide +kernel) (by decide) w hM
theorem sn7 (w : World) (ht : Pow10 w) : Calls Tryz.prog 9 #[.string ⟨#[71, 69, 84]⟩, .string ⟨#[47, 97]⟩, .int .i64 0] w fun e w' => e = .returned (.tuple #[.string ⟨#[71, 69, 84, 32, 47, 97, 32, 72, 84, 84, 80, 47, 49, 46, 48]⟩, .int .i64 0]) ∧ Below w.heap.size w w' := by
  have h := reqLine_any ⟨#[71, 69, 84]⟩ ⟨#[47, 97]⟩ 0 (by decide) (by decide) w ht
  rwa [show rlS (⟨#[71, 69, 84]⟩ : ByteArray).data.toList (⟨#[47, 97]⟩ : ByteArray).data.toList 0 = ([71, 69, 84, 32, 47, 97, 32, 72, 84, 84, 80, 47, 49, 46, 48], 0) by decide +kernel] at h
theorem sn8 (w : World) (ht : Pow10 w) : Calls Tryz.prog 9 #[.string ⟨#[71, 69, 84]⟩, .string ⟨#[]⟩, .int .i64 0] w fun e w' => e = .returned (.tuple #[.string ⟨#[]⟩, .int .i64 4]) ∧ Below w.heap.size w w' := by
  have h := reqLine_any ⟨#[71, 69, 84]⟩ ⟨#[]⟩ 0 (by decide) (by decide) w ht
  rwa [show rlS (⟨#[71, 69, 84]⟩ : ByteArray).data.toList (⟨#[]⟩ : ByteArray).data.toList 0 = ([], 4) by decide +kernel] at h
theorem sn9 (w : World) (ht : Pow10 w) : Calls Tryz.prog 10 #[.int .i64 1, .int .i64 304, .string ⟨#[120]⟩] w fun e w' => e = .returned (.tuple #[.string ⟨#[72, 84, 84, 80, 47, 49, 46, 49, 32, 51, 48, 52, 32, 120]⟩, .int .i64 0]) ∧ Below w.heap.size w w' := by
  have h := statLine_any 1 304 ⟨#[120]⟩ (by decide) w ht
  rwa [show slS 1 304 (⟨#[120]⟩ : ByteArray).data.toList = ([72, 84, 84, 80, 47, 49, 46, 49, 32, 51, 48, 52, 32, 120], 0) by decide +kernel] at h
theorem sn10 (w : World) (ht : Pow10 w) : Calls Tryz.prog 10 #[.int .i64 1, .int .i64 600, .string ⟨#[120]⟩] w fun e w' => e = .returned (.tuple #[.string ⟨#[]⟩, .int .i64 4]) ∧ Below w.heap.size w w' := by
  have h := statLine_any 1 600 ⟨#[120]⟩ (by decide) w ht
  rwa [show slS 1 600 (⟨#[120]⟩ : ByteArray).data.toList = ([], 4) by decide +kernel] at h
theorem sn11 (w : World) : Calls Tryz.prog 11 #[.string ⟨#[71, 69, 84]⟩, .string ⟨#[47, 97, 63, 98]⟩] w fun e w' => e = .returned (.agg #[.int .i64 1, .string ⟨#[]⟩, .string ⟨#[47, 97, 63, 98]⟩]) ∧ Below w.heap.size w w' := by
  exact tget_at ⟨#[71, 69, 84]⟩ ⟨#[47, 97, 63, 98]⟩ ⟨#[]⟩ ⟨#[47, 97, 63, 98]⟩ 1 0 (by decide +kernel) (by decide) w
theorem sn12 (w : World) : Calls Tryz.prog 11 #[.string ⟨#[79, 80, 84, 73, 79, 78, 83]⟩, .string ⟨#[42]⟩] w fun e w' => e = .returned (.agg #[.int .i64 4, .string ⟨#[]⟩, .string ⟨#[]⟩]) ∧ Below w.heap.size w w' := by
  exact tget_at ⟨#[79, 80, 84, 73, 79, 78, 83]⟩ ⟨#[42]⟩ ⟨#[]⟩ ⟨#[]⟩ 4 0 (by decide +kernel) (by decide) w
theorem sn13 (w : World) : Calls Tryz.prog 11 #[.string ⟨#[67, 79, 78, 78, 69, 67, 84]⟩, .string ⟨#[72, 58, 49]⟩] w fun e w' => e = .returned (.agg #[.int .i64 3, .string ⟨#[104, 58, 49]⟩, .string ⟨#[]⟩]) ∧ Below w.heap.size w w' := by
  exact tget_at ⟨#[67, 79, 78, 78, 69, 67, 84]⟩ ⟨#[72, 58, 49]⟩ ⟨#[104, 58, 49]⟩ ⟨#[]⟩ 3 0 (by decide +kernel) (by decide) w
theorem sn14 (w : World) : Calls Tryz.prog 11 #[.string ⟨#[71, 69, 84]⟩, .string ⟨#[72, 84, 84, 80, 58, 47, 47, 91, 58, 58, 49, 93, 58, 56, 48, 47, 120]⟩] w fun e w' => e = .returned (.agg #[.int .i64 2, .string ⟨#[91, 58, 58, 49, 93, 58, 56, 48]⟩, .string ⟨#[47, 120]⟩]) ∧ Below w.heap.size w w' := by
  exact tget_at ⟨#[71, 69, 84]⟩ ⟨#[72, 84, 84, 80, 58, 47, 47, 91, 58, 58, 49, 93, 58, 56, 48, 47, 120]⟩ ⟨#[91, 58, 58, 49, 93, 58, 56, 48]⟩ ⟨#[47, 120]⟩ 2 0 (by decide +kernel) (by decide) w
theorem sn15 (w : World) : Calls Tryz.prog 12 #[.string ⟨#[71, 69, 84]⟩, .string ⟨#[42]⟩] w fun e w' => e = .returned (.bool true) ∧ Below w.heap.size w w' := by
  exact refused_at ⟨#[71, 69, 84]⟩ ⟨#[42]⟩ (by decide +kernel) (by decide) w
theorem sn16 (w : World) : Calls Tryz.prog 12 #[.string ⟨#[71, 69, 84]⟩, .string ⟨#[97]⟩] w fun e w' => e = .returned (.bool true) ∧ Below w.heap.size w w' := by
  exact refused_at ⟨#[71, 69, 84]⟩ ⟨#[97]⟩ (by decide +kernel) (by decide) w
theorem sn17 (w : World) : Calls Tryz.prog 12 #[.string ⟨#[71, 69, 84]⟩, .string ⟨#[47, 35]⟩] w fun e w' => e = .returned (.bool true) ∧ Below w.heap.size w w' := by
  exact refused_at ⟨#[71, 69, 84]⟩ ⟨#[47, 35]⟩ (by decide +kernel) (by decide) w
theorem sn18 (w : World) : Calls Tryz.prog 12 #[.string ⟨#[67, 79, 78, 78, 69, 67, 84]⟩, .string ⟨#[47]⟩] w fun e w' => e = .returned (.bool true) ∧ Below w.heap.size w w' := by
  exact refused_at ⟨#[67, 79, 78, 78, 69, 67, 84]⟩ ⟨#[47]⟩ (by decide +kernel) (by decide) w
theorem sn19 (w : World) : Calls Tryz.prog 12 #[.string ⟨#[67, 79, 78, 78, 69, 67, 84]⟩, .string ⟨#[104]⟩] w fun e w' => e = .returned (.bool true) ∧ Below w.heap.size w w' := by
  exact refused_at ⟨#[67, 79, 78, 78, 69, 67, 84]⟩ ⟨#[104]⟩ (by decide +kernel) (by decide) w
theorem sn20 (w : World) : Calls Tryz.prog 12 #[.string ⟨#[67, 79, 78, 78, 69, 67, 84]⟩, .string ⟨#[104, 58]⟩] w fun e w' => e = .returned (.bool true) ∧ Below w.heap.size w w' := by
  exact refused_at ⟨#[67, 79, 78, 78, 69, 67, 84]⟩ ⟨#[104, 58]⟩ (by decide +kernel) (by decide) w
theorem sn21 (w : World) : Calls Tryz.prog 12 #[.string ⟨#[71, 69, 84]⟩, .string ⟨#[104, 116, 116, 112, 58, 47, 47]⟩] w fun e w' => e = .returned (.bool true) ∧ Below w.heap.size w w' := by
  exact refused_at ⟨#[71, 69, 84]⟩ ⟨#[104, 116, 116, 112, 58, 47, 47]⟩ (by decide +kernel) (by decide) w
theorem sn22 (w : World) : Calls Tryz.prog 12 #[.string ⟨#[71, 69, 84]⟩, .string ⟨#[104, 116, 116, 112, 58, 47, 47, 47, 120]⟩] w fun e w' => e = .returned (.bool true) ∧ Below w.heap.size w w' := by
  exact refused_at ⟨#[71, 69, 84]⟩ ⟨#[104, 116, 116, 112, 58, 47, 47, 47, 120]⟩ (by decide +kernel) (by decide) w
theorem sn23 (w : World) : Calls Tryz.prog 12 #[.string ⟨#[71, 69, 84]⟩, .string ⟨#[]⟩] w fun e w' => e = .returned (.bool true) ∧ Below w.heap.size w w' := by
  exact refused_at ⟨#[71, 69, 84]⟩ ⟨#[]⟩ (by decide +kernel) (by decide) w
theorem sn24 (w : World) : Calls Tryz.prog 12 #[.string ⟨#[71, 69, 84]⟩, .string ⟨#[104, 116, 116, 112, 58, 47, 47, 97, 32, 98]⟩] w fun e w' => e = .returned (.bool true) ∧ Below w.heap.size w w' := by
  exact refused_at ⟨#[71, 69, 84]⟩ ⟨#[104, 116, 116, 112, 58, 47, 47, 97, 32, 98]⟩ (by decide +kernel) (by decide) w
theorem sn25 (w : World) : Calls Tryz.prog 13 #[.string ⟨#[97, 46, 98, 58, 56, 48]⟩] w fun e w' => e = .returned (.bool true) ∧ Below w.heap.size w w' := by
  have h := host_any ⟨#[97, 46, 98, 58, 56, 48]⟩ (by decide) w
  rw [show (portS (⟨#[97, 46, 98, 58, 56, 48]⟩ : ByteArray).data.toList).2 = true by decide +kernel] at h
  exact h.mono fun e w' ⟨he, hw⟩ => ⟨he, hw ▸ Below.refl _ _⟩
theorem sn26 (w : World) : Calls Tryz.prog 13 #[.string ⟨#[97, 58]⟩] w fun e w' => e = .returned (.bool true) ∧ Below w.heap.size w w' := by
  have h := host_any ⟨#[97, 58]⟩ (by decide) w
  rw [show (portS (⟨#[97, 58]⟩ : ByteArray).data.toList).2 = true by decide +kernel] at h
  exact h.mono fun e w' ⟨he, hw⟩ => ⟨he, hw ▸ Below.refl _ _⟩
theorem sn27 (w : World) : Calls Tryz.prog 13 #[.string ⟨#[]⟩] w fun e w' => e = .returned (.bool false) ∧ Below w.heap.size w w' := by
  have h := host_any ⟨#[]⟩ (by decide) w
  rw [show (portS (⟨#[]⟩ : ByteArray).data.toList).2 = false by decide +kernel] at h
  exact h.mono fun e w' ⟨he, hw⟩ => ⟨he, hw ▸ Below.refl _ _⟩
theorem sn28 (w : World) : Calls Tryz.prog 13 #[.string ⟨#[97, 58, 49, 50, 51, 52, 53, 54]⟩] w fun e w' => e = .returned (.bool false) ∧ Below w.heap.size w w' := by
  have h := host_any ⟨#[97, 58, 49, 50, 51, 52, 53, 54]⟩ (by decide) w
  rw [show (portS (⟨#[97, 58, 49, 50, 51, 52, 53, 54]⟩ : ByteArray).data.toList).2 = false by decide +kernel] at h
  exact h.mono fun e w' ⟨he, hw⟩ => ⟨he, hw ▸ Below.refl _ _⟩
theorem sn29 (w : World) : Calls Tryz.prog 13 #[.string ⟨#[91, 93]⟩] w fun e w' => e = .returned (.bool false) ∧ Below w.heap.size w w' := by
  have h := host_any ⟨#[91, 93]⟩ (by decide) w
  rw [show (portS (⟨#[91, 93]⟩ : ByteArray).data.toList).2 = false by decide +kernel] at h
  exact h.mono fun e w' ⟨he, hw⟩ => ⟨he, hw ▸ Below.refl _ _⟩
theorem sn30 (w : World) : Calls Tryz.prog 13 #[.string ⟨#[97, 47, 98]⟩] w fun e w' => e = .returned (.bool false) ∧ Below w.heap.size w w' := by
  have h := host_any ⟨#[97, 47, 98]⟩ (by decide) w
  rw [show (portS (⟨#[97, 47, 98]⟩ : ByteArray).data.toList).2 = false by decide +kernel] at h
  exact h.mono fun e w' ⟨he, hw⟩ => ⟨he, hw ▸ Below.refl _ _⟩
set_option maxRecDepth 100000 in
set_option maxHeartbeats 8000000 in
theorem snames_any (w : World) (ht : Pow10 w) (hM : MaxV w) (hE : RangeV w) :
    Calls Tryz.prog 3 #[] w fun e w' => e = .returned (.bool true) ∧ Below w.heap.size w w' := by
  have HT := hide ht
  have HM := hide hM
  have HE := hide hE
  have c0 := hide (lives_any w hM)
  clear ht hM hE
  go_enter Tryz.func3, Tryz.ntmps3
  go_wp2_with fail
  refine (unhide c0).mono ?_; rintro e0 w0 ⟨rfl, hb0⟩
  have HC0 := hide hb0
  clear hb0 c0
  go_wp2_with fail
  refine (sn0 _ ((unhide HM).below (unhide HC0)) ((unhide HE).below (unhide HC0))).mono ?_; rintro e1 w1 ⟨rfl, hb1⟩
  have HC1 := hide ((unhide HC0).trans (hb1.mono (unhide HC0).size))
  clear hb1 HC0
  go_wp2_with fail
  refine (sn1 _ ((unhide HM).below (unhide HC1)) ((unhide HE).below (unhide HC1))).mono ?_; rintro e2 w2 ⟨rfl, hb2⟩
  have HC2 := hide ((unhide HC1).trans (hb2.mono (unhide HC1).size))
  clear hb2 HC1
  go_wp2_with fail
  refine (sn2 _ ((unhide HM).below (unhide HC2)) ((unhide HE).below (unhide HC2))).mono ?_; rintro e3 w3 ⟨rfl, hb3⟩
  have HC3 := hide ((unhide HC2).trans (hb3.mono (unhide HC2).size))
  clear hb3 HC2
  go_wp2_with fail
  refine (sn3 _ ((unhide HM).below (unhide HC3)) ((unhide HE).below (unhide HC3))).mono ?_; rintro e4 w4 ⟨rfl, hb4⟩
  have HC4 := hide ((unhide HC3).trans (hb4.mono (unhide HC3).size))
  clear hb4 HC3
  go_wp2_with fail
  refine (sn4 _ ((unhide HM).below (unhide HC4))).mono ?_; rintro e5 w5 ⟨rfl, hb5⟩
  have HC5 := hide ((unhide HC4).trans (hb5.mono (unhide HC4).size))
  clear hb5 HC4
  go_wp2_with fail
  refine (sn5 _ ((unhide HM).below (unhide HC5))).mono ?_; rintro e6 w6 ⟨rfl, hb6⟩
  have HC6 := hide ((unhide HC5).trans (hb6.mono (unhide HC5).size))
  clear hb6 HC5
  go_wp2_with fail
  refine (sn6 _ ((unhide HM).below (unhide HC6))).mono ?_; rintro e7 w7 ⟨rfl, hb7⟩
  have HC7 := hide ((unhide HC6).trans (hb7.mono (unhide HC6).size))
  clear hb7 HC6
  go_wp2_with fail
  refine (sn7 _ ((unhide HT).below (unhide HC7))).mono ?_; rintro e8 w8 ⟨rfl, hb8⟩
  have HC8 := hide ((unhide HC7).trans (hb8.mono (unhide HC7).size))
  clear hb8 HC7
  go_wp2_with fail
  refine (sn8 _ ((unhide HT).below (unhide HC8))).mono ?_; rintro e9 w9 ⟨rfl, hb9⟩
  have HC9 := hide ((unhide HC8).trans (hb9.mono (unhide HC8).size))
  clear hb9 HC8
  go_wp2_with fail
  refine (sn9 _ ((unhide HT).below (unhide HC9))).mono ?_; rintro e10 w10 ⟨rfl, hb10⟩
  have HC10 := hide ((unhide HC9).trans (hb10.mono (unhide HC9).size))
  clear hb10 HC9
  go_wp2_with fail
  refine (sn10 _ ((unhide HT).below (unhide HC10))).mono ?_; rintro e11 w11 ⟨rfl, hb11⟩
  have HC11 := hide ((unhide HC10).trans (hb11.mono (unhide HC10).size))
  clear hb11 HC10
  go_wp2_with fail
  refine (sn11 _).mono ?_; rintro e12 w12 ⟨rfl, hb12⟩
  have HC12 := hide ((unhide HC11).trans (hb12.mono (unhide HC11).size))
  clear hb12 HC11
  go_wp2_with fail
  refine (sn12 _).mono ?_; rintro e13 w13 ⟨rfl, hb13⟩
  have HC13 := hide ((unhide HC12).trans (hb13.mono (unhide HC12).size))
  clear hb13 HC12
  go_wp2_with fail
  refine (sn13 _).mono ?_; rintro e14 w14 ⟨rfl, hb14⟩
  have HC14 := hide ((unhide HC13).trans (hb14.mono (unhide HC13).size))
  clear hb14 HC13
  go_wp2_with fail
  refine (sn14 _).mono ?_; rintro e15 w15 ⟨rfl, hb15⟩
  have HC15 := hide ((unhide HC14).trans (hb15.mono (unhide HC14).size))
  clear hb15 HC14
  go_wp2_with fail
  refine (sn15 _).mono ?_; rintro e16 w16 ⟨rfl, hb16⟩
  have HC16 := hide ((unhide HC15).trans (hb16.mono (unhide HC15).size))
  clear hb16 HC15
  go_wp2_with fail
  refine (sn16 _).mono ?_; rintro e17 w17 ⟨rfl, hb17⟩
  have HC17 := hide ((unhide HC16).trans (hb17.mono (unhide HC16).size))
  clear hb17 HC16
  go_wp2_with fail
  refine (sn17 _).mono ?_; rintro e18 w18 ⟨rfl, hb18⟩
  have HC18 := hide ((unhide HC17).trans (hb18.mono (unhide HC17).size))
  clear hb18 HC17
  go_wp2_with fail
  refine (sn18 _).mono ?_; rintro e19 w19 ⟨rfl, hb19⟩
  have HC19 := hide ((unhide HC18).trans (hb19.mono (unhide HC18).size))
  clear hb19 HC18
  go_wp2_with fail
  refine (sn19 _).mono ?_; rintro e20 w20 ⟨rfl, hb20⟩
  have HC20 := hide ((unhide HC19).trans (hb20.mono (unhide HC19).size))
  clear hb20 HC19
  go_wp2_with fail
  refine (sn20 _).mono ?_; rintro e21 w21 ⟨rfl, hb21⟩
  have HC21 := hide ((unhide HC20).trans (hb21.mono (unhide HC20).size))
  clear hb21 HC20
  go_wp2_with fail
  refine (sn21 _).mono ?_; rintro e22 w22 ⟨rfl, hb22⟩
  have HC22 := hide ((unhide HC21).trans (hb22.mono (unhide HC21).size))
  clear hb22 HC21
  go_wp2_with fail
  refine (sn22 _).mono ?_; rintro e23 w23 ⟨rfl, hb23⟩
  have HC23 := hide ((unhide HC22).trans (hb23.mono (unhide HC22).size))
  clear hb23 HC22
  go_wp2_with fail
  refine (sn23 _).mono ?_; rintro e24 w24 ⟨rfl, hb24⟩
  have HC24 := hide ((unhide HC23).trans (hb24.mono (unhide HC23).size))
  clear hb24 HC23
  go_wp2_with fail
  refine (sn24 _).mono ?_; rintro e25 w25 ⟨rfl, hb25⟩
  have HC25 := hide ((unhide HC24).trans (hb25.mono (unhide HC24).size))
  clear hb25 HC24
  go_wp2_with fail
  refine (sn25 _).mono ?_; rintro e26 w26 ⟨rfl, hb26⟩
  have HC26 := hide ((unhide HC25).trans (hb26.mono (unhide HC25).size))
  clear hb26 HC25
  go_wp2_with fail
  refine (sn26 _).mono ?_; rintro e27 w27 ⟨rfl, hb27⟩
  have HC27 := hide ((unhide HC26).trans (hb27.mono (unhide HC26).size))
  clear hb27 HC26
  go_wp2_with fail
  refine (sn27 _).mono ?_; rintro e28 w28 ⟨rfl, hb28⟩
  have HC28 := hide ((unhide HC27).trans (hb28.mono (unhide HC27).size))
  clear hb28 HC27
  go_wp2_with fail
  refine (sn28 _).mono ?_; rintro e29 w29 ⟨rfl, hb29⟩
  have HC29 := hide ((unhide HC28).trans (hb29.mono (unhide HC28).size))
  clear hb29 HC28
  go_wp2_with fail
  refine (sn29 _).mono ?_; rintro e30 w30 ⟨rfl, hb30⟩
  have HC30 := hide ((unhide HC29).trans (hb30.mono (unhide HC29).size))
  clear hb30 HC29
  go_wp2_with fail
  refine (sn30 _).mono ?_; rintro e31 w31 ⟨rfl, hb31⟩
  have HC31 := hide ((unhide HC30).trans (hb31.mono (unhide HC30).size))
  clear hb31 HC30
  go_wp2_with fail
  go_ret
  exact ⟨rfl, unhide HC31⟩
end Go.Proofs.YtfkobhagdjaleaaGreatDoor.Sp
