/- The walk of the law TokenNames. -/
import Derived.Test.YtbhpcmbbbomknaaGreatDoorT11
import Derived.Test.YtbhpcmbbbomknaaGreatDoorT14
import Derived.Test.YtbhpcmbbbomknaaGreatDoorT24
import Derived.Test.YtbhpcmbbbomknaaGreatDoorT27
import Derived.Test.YtbhpcmbbbomknaaGreatDoorO7
import Derived.Test.YtbhpcmbbbomknaaGreatDoorT5
namespace Go.Proofs.YtbhpcmbbbomknaaGreatDoor.Sp
open Go.RowKit Sl

theorem quoS_L' (s : ByteArray) : (quoS s).data.toList = quoL s.data.toList := quoS_data s
theorem tn0 (w : World) : Calls Tryz.prog 9 #[.string ⟨#[97, 34, 98, 92]⟩] w fun e w' => e = .returned (.tuple #[.string ⟨#[34, 97, 92, 34, 98, 92, 92, 34]⟩, .int .i64 0]) ∧ Below w.heap.size w w' := by
  have h := quote_ok ⟨#[97, 34, 98, 92]⟩ (by decide) (by decide +kernel) w
  rwa [show quoS ⟨#[97, 34, 98, 92]⟩ = ⟨#[34, 97, 92, 34, 98, 92, 92, 34]⟩ from ba_eq (l := [34, 97, 92, 34, 98, 92, 92, 34]) (by rw [quoS_L']; decide +kernel)] at h
theorem tn1 (w : World) : Calls Tryz.prog 9 #[.string ⟨#[0]⟩] w fun e w' => e = .returned (.tuple #[.string ⟨#[]⟩, .int .i64 4]) ∧ Below w.heap.size w w' := by
  exact quote_no ⟨#[0]⟩ (by decide) (by decide +kernel) w
theorem tn2 (w : World) : Calls Tryz.prog 7 #[.string ⟨#[34, 97, 92, 98, 34]⟩] w fun e w' => e = .returned (.tuple #[.string ⟨#[97, 98]⟩, .int .i64 0]) ∧ Below w.heap.size w w' := by
  have h := unquote_any ⟨#[34, 97, 92, 98, 34]⟩ (by decide) w
  rwa [show unqS (⟨#[34, 97, 92, 98, 34]⟩ : ByteArray).data.toList = ([97, 98], 0) by decide +kernel] at h
theorem tn3 (w : World) : Calls Tryz.prog 7 #[.string ⟨#[34, 97, 34, 98, 34]⟩] w fun e w' => e = .returned (.tuple #[.string ⟨#[]⟩, .int .i64 4]) ∧ Below w.heap.size w w' := by
  have h := unquote_any ⟨#[34, 97, 34, 98, 34]⟩ (by decide) w
  rwa [show unqS (⟨#[34, 97, 34, 98, 34]⟩ : ByteArray).data.toList = ([], 4) by decide +kernel] at h
theorem tn4 (w : World) : Calls Tryz.prog 7 #[.string ⟨#[34, 97, 92, 34]⟩] w fun e w' => e = .returned (.tuple #[.string ⟨#[]⟩, .int .i64 4]) ∧ Below w.heap.size w w' := by
  have h := unquote_any ⟨#[34, 97, 92, 34]⟩ (by decide) w
  rwa [show unqS (⟨#[34, 97, 92, 34]⟩ : ByteArray).data.toList = ([], 4) by decide +kernel] at h
theorem tn5 (w : World) (hE : RangeV w) : Calls Tryz.prog 15 #[.string ⟨#[57, 48, 48, 55, 49, 57, 57, 50, 53, 52, 55, 52, 48, 57, 57, 49]⟩] w fun e w' => e = .returned (.tuple #[.int .i64 9007199254740991, .int .i64 0]) ∧ Below w.heap.size w w' := by
  have h := number_any ⟨#[57, 48, 48, 55, 49, 57, 57, 50, 53, 52, 55, 52, 48, 57, 57, 49]⟩ (by decide) w hE
  rwa [show numS (⟨#[57, 48, 48, 55, 49, 57, 57, 50, 53, 52, 55, 52, 48, 57, 57, 49]⟩ : ByteArray).data.toList = (9007199254740991, 0) by decide +kernel] at h
theorem tn6 (w : World) (hE : RangeV w) : Calls Tryz.prog 15 #[.string ⟨#[57, 48, 48, 55, 49, 57, 57, 50, 53, 52, 55, 52, 48, 57, 57, 50]⟩] w fun e w' => e = .returned (.tuple #[.int .i64 0, .int .i64 3]) ∧ Below w.heap.size w w' := by
  have h := number_any ⟨#[57, 48, 48, 55, 49, 57, 57, 50, 53, 52, 55, 52, 48, 57, 57, 50]⟩ (by decide) w hE
  rwa [show numS (⟨#[57, 48, 48, 55, 49, 57, 57, 50, 53, 52, 55, 52, 48, 57, 57, 50]⟩ : ByteArray).data.toList = (0, 3) by decide +kernel] at h
theorem tn7 (w : World) (hE : RangeV w) : Calls Tryz.prog 15 #[.string ⟨#[]⟩] w fun e w' => e = .returned (.tuple #[.int .i64 0, .int .i64 4]) ∧ Below w.heap.size w w' := by
  have h := number_any ⟨#[]⟩ (by decide) w hE
  rwa [show numS (⟨#[]⟩ : ByteArray).data.toList = (0, 4) by decide +kernel] at h
theorem tn8 (w : World) (hM : MaxV w) (hE : RangeV w) : Calls Tryz.prog 14 #[.string ⟨#[48, 46, 50, 53]⟩] w fun e w' => e = .returned (.tuple #[.float .f64 4598175219545276416, .int .i64 0]) ∧ Below w.heap.size w w' := by
  have h := weight_any ⟨#[48, 46, 50, 53]⟩ (by decide) w hM hE
  rwa [show wR (⟨#[48, 46, 50, 53]⟩ : ByteArray).data.toList = (4598175219545276416, 0) by decide +kernel] at h
theorem tn9 (w : World) (hM : MaxV w) (hE : RangeV w) : Calls Tryz.prog 14 #[.string ⟨#[49, 46, 48, 48, 49]⟩] w fun e w' => e = .returned (.tuple #[.float .f64 0, .int .i64 4]) ∧ Below w.heap.size w w' := by
  have h := weight_any ⟨#[49, 46, 48, 48, 49]⟩ (by decide) w hM hE
  rwa [show wR (⟨#[49, 46, 48, 48, 49]⟩ : ByteArray).data.toList = (0, 4) by decide +kernel] at h
theorem tn10 (w : World) (hM : MaxV w) (hE : RangeV w) : Calls Tryz.prog 14 #[.string ⟨#[49, 46]⟩] w fun e w' => e = .returned (.tuple #[.float .f64 4607182418800017408, .int .i64 0]) ∧ Below w.heap.size w w' := by
  have h := weight_any ⟨#[49, 46]⟩ (by decide) w hM hE
  rwa [show wR (⟨#[49, 46]⟩ : ByteArray).data.toList = (4607182418800017408, 0) by decide +kernel] at h
theorem tn11 (w : World) (hM : MaxV w) (hE : RangeV w) : Calls Tryz.prog 14 #[.string ⟨#[48, 46, 49, 50, 51, 52]⟩] w fun e w' => e = .returned (.tuple #[.float .f64 0, .int .i64 4]) ∧ Below w.heap.size w w' := by
  have h := weight_any ⟨#[48, 46, 49, 50, 51, 52]⟩ (by decide) w hM hE
  rwa [show wR (⟨#[48, 46, 49, 50, 51, 52]⟩ : ByteArray).data.toList = (0, 4) by decide +kernel] at h
theorem tn12 (w : World) : Calls Tryz.prog 16 #[.string ⟨#[97, 45, 98]⟩] w fun e w' => e = .returned (.bool true) ∧ Below w.heap.size w w' := by
  have h := token_any ⟨#[97, 45, 98]⟩ (by decide) w
  rwa [show tokenS (⟨#[97, 45, 98]⟩ : ByteArray).data.toList = true by decide +kernel] at h
theorem tn13 (w : World) : Calls Tryz.prog 16 #[.string ⟨#[]⟩] w fun e w' => e = .returned (.bool false) ∧ Below w.heap.size w w' := by
  have h := token_any ⟨#[]⟩ (by decide) w
  rwa [show tokenS (⟨#[]⟩ : ByteArray).data.toList = false by decide +kernel] at h
theorem tn14 (w : World) : Calls Tryz.prog 16 #[.string ⟨#[97, 32, 98]⟩] w fun e w' => e = .returned (.bool false) ∧ Below w.heap.size w w' := by
  have h := token_any ⟨#[97, 32, 98]⟩ (by decide) w
  rwa [show tokenS (⟨#[97, 32, 98]⟩ : ByteArray).data.toList = false by decide +kernel] at h
theorem tn15 (w : World) : Calls Tryz.prog 17 #[.string ⟨#[65, 196]⟩] w fun e w' => e = .returned (.string ⟨#[97, 196]⟩) ∧ Below w.heap.size w w' := by
  have h := lower_any ⟨#[65, 196]⟩ (by decide) w
  rwa [show lower (⟨#[65, 196]⟩ : ByteArray).data.toList = [97, 196] by decide +kernel] at h
theorem tn16 (w : World) : Calls Tryz.prog 18 #[.string ⟨#[97, 66]⟩, .string ⟨#[65, 98]⟩] w fun e w' => e = .returned (.bool true) ∧ Below w.heap.size w w' := by
  have h := same_any ⟨#[97, 66]⟩ ⟨#[65, 98]⟩ (by decide) (by decide) w
  rwa [show same (⟨#[97, 66]⟩ : ByteArray).data.toList (⟨#[65, 98]⟩ : ByteArray).data.toList = true by decide +kernel] at h
theorem tn17 (w : World) : Calls Tryz.prog 19 #[.string ⟨#[32, 9, 97, 32, 98, 9]⟩] w fun e w' => e = .returned (.string ⟨#[97, 32, 98]⟩) ∧ Below w.heap.size w w' := by
  have h := trim_any ⟨#[32, 9, 97, 32, 98, 9]⟩ (by decide) w
  rwa [show ofL (trimW (⟨#[32, 9, 97, 32, 98, 9]⟩ : ByteArray).data.toList) = ⟨#[97, 32, 98]⟩ from ba_eq (l := [97, 32, 98]) (by decide +kernel)] at h
theorem tn18 (w : World) : Calls Tryz.prog 20 #[.int .u8 126] w fun e w' => e = .returned (.bool true) ∧ Below w.heap.size w w' := by
  have h := tchar_any 126 w
  rwa [show tch 126 = true by decide +kernel] at h
theorem tn19 (w : World) : Calls Tryz.prog 20 #[.int .u8 40] w fun e w' => e = .returned (.bool false) ∧ Below w.heap.size w w' := by
  have h := tchar_any 40 w
  rwa [show tch 40 = false by decide +kernel] at h
theorem tn20 (w : World) : Calls Tryz.prog 21 #[.int .u8 9] w fun e w' => e = .returned (.bool true) ∧ Below w.heap.size w w' := by
  have h := char_tok 9 w
  rwa [show chr 9 = true by decide +kernel] at h
theorem tn21 (w : World) : Calls Tryz.prog 21 #[.int .u8 127] w fun e w' => e = .returned (.bool false) ∧ Below w.heap.size w w' := by
  have h := char_tok 127 w
  rwa [show chr 127 = false by decide +kernel] at h
theorem tn22 (w : World) (ht : Pow10 w) : Calls Tryz.prog 13 #[.float .f64 4607182418800017408] w fun e w' => e = .returned (.string ⟨#[49]⟩) ∧ Below w.heap.size w w' := by
  have h := weightText_any 4607182418800017408 w ht
  rwa [show ofL (wtS 4607182418800017408) = ⟨#[49]⟩ from ba_eq (l := [49]) (by decide +kernel)] at h
theorem tn23 (w : World) (ht : Pow10 w) : Calls Tryz.prog 13 #[.float .f64 4602678819172646912] w fun e w' => e = .returned (.string ⟨#[48, 46, 53]⟩) ∧ Below w.heap.size w w' := by
  have h := weightText_any 4602678819172646912 w ht
  rwa [show ofL (wtS 4602678819172646912) = ⟨#[48, 46, 53]⟩ from ba_eq (l := [48, 46, 53]) (by decide +kernel)] at h
theorem tn24 (w : World) (ht : Pow10 w) : Calls Tryz.prog 13 #[.float .f64 4609434218613702656] w fun e w' => e = .returned (.string ⟨#[]⟩) ∧ Below w.heap.size w w' := by
  have h := weightText_any 4609434218613702656 w ht
  rwa [show ofL (wtS 4609434218613702656) = ⟨#[]⟩ from ba_eq (l := []) (by decide +kernel)] at h
theorem tn25 (w : World) (ht : Pow10 w) : Calls Tryz.prog 13 #[.float .f64 4561440258104740754] w fun e w' => e = .returned (.string ⟨#[48]⟩) ∧ Below w.heap.size w w' := by
  have h := weightText_any 4561440258104740754 w ht
  rwa [show ofL (wtS 4561440258104740754) = ⟨#[48]⟩ from ba_eq (l := [48]) (by decide +kernel)] at h
theorem tn26_split : splitB ⟨#[32, 44, 32, 44]⟩ = [] := by
  have h : splitS [32, 44, 32, 44] = [] := by decide +kernel
  show (splitS [32, 44, 32, 44]).map ofL = _
  rw [h]; rfl
theorem tn26 (w : World) : Calls Tryz.prog 12 #[.string ⟨#[32, 44, 32, 44]⟩] w fun e w' => ∃ v, e = .returned v ∧ w'.ownsRow w.heap.size 9 1 v 0 (strV []) ∧ Below w.heap.size w w' := by
  have h := split_any ⟨#[32, 44, 32, 44]⟩ (by decide) w
  rw [tn26_split] at h
  exact h
theorem tn27_split : splitB ⟨#[34, 97, 44, 98]⟩ = [(⟨#[34, 97, 44, 98]⟩ : ByteArray)] := by
  have h : splitS [34, 97, 44, 98] = [[34, 97, 44, 98]] := by decide +kernel
  show (splitS [34, 97, 44, 98]).map ofL = _
  rw [h]; rfl
theorem tn27 (w : World) : Calls Tryz.prog 12 #[.string ⟨#[34, 97, 44, 98]⟩] w fun e w' => ∃ v, e = .returned v ∧ w'.ownsRow w.heap.size 9 1 v 1 (strV [(⟨#[34, 97, 44, 98]⟩ : ByteArray)]) ∧ Below w.heap.size w w' := by
  have h := split_any ⟨#[34, 97, 44, 98]⟩ (by decide) w
  rw [tn27_split] at h
  exact h
set_option maxRecDepth 100000 in
set_option maxHeartbeats 8000000 in
theorem names_any (w : World) (ht : Pow10 w) (hM : MaxV w) (hE : RangeV w) :
    Calls Tryz.prog 5 #[] w fun e w' => e = .returned (.bool true) ∧ Below w.heap.size w w' := by
  have HT := hide ht
  have HM := hide hM
  have HE := hide hE
  have c0 := hide (lives_any w ht)
  have HB0 := hide (Below.refl w.heap.size w)
  clear ht hM hE
  have f1 : FloatKind.f64.format.order 4598175219545276416 4598175219545276416 = some .eq := by decide +kernel
  have f2 : FloatKind.f64.format.order 4607182418800017408 4607182418800017408 = some .eq := by decide +kernel
  go_enter Tryz.func5, Tryz.ntmps5
  go_wp2_with fail
  refine (unhide c0).mono ?_; rintro e0 w0 ⟨rfl, hb0⟩
  have HC0 := hide hb0
  clear hb0 c0 HB0
  go_wp2_with fail
  refine (tn0 _).mono ?_; rintro e1 w1 ⟨rfl, hb1⟩
  have HC1 := hide ((unhide HC0).trans (hb1.mono (unhide HC0).size))
  clear hb1 HC0
  go_wp2_with fail
  refine (tn1 _).mono ?_; rintro e2 w2 ⟨rfl, hb2⟩
  have HC2 := hide ((unhide HC1).trans (hb2.mono (unhide HC1).size))
  clear hb2 HC1
  go_wp2_with fail
  refine (tn2 _).mono ?_; rintro e3 w3 ⟨rfl, hb3⟩
  have HC3 := hide ((unhide HC2).trans (hb3.mono (unhide HC2).size))
  clear hb3 HC2
  go_wp2_with fail
  refine (tn3 _).mono ?_; rintro e4 w4 ⟨rfl, hb4⟩
  have HC4 := hide ((unhide HC3).trans (hb4.mono (unhide HC3).size))
  clear hb4 HC3
  go_wp2_with fail
  refine (tn4 _).mono ?_; rintro e5 w5 ⟨rfl, hb5⟩
  have HC5 := hide ((unhide HC4).trans (hb5.mono (unhide HC4).size))
  clear hb5 HC4
  go_wp2_with fail
  refine (tn5 _ ((unhide HE).below (unhide HC5))).mono ?_; rintro e6 w6 ⟨rfl, hb6⟩
  have HC6 := hide ((unhide HC5).trans (hb6.mono (unhide HC5).size))
  clear hb6 HC5
  go_wp2_with fail
  refine (tn6 _ ((unhide HE).below (unhide HC6))).mono ?_; rintro e7 w7 ⟨rfl, hb7⟩
  have HC7 := hide ((unhide HC6).trans (hb7.mono (unhide HC6).size))
  clear hb7 HC6
  go_wp2_with fail
  refine (tn7 _ ((unhide HE).below (unhide HC7))).mono ?_; rintro e8 w8 ⟨rfl, hb8⟩
  have HC8 := hide ((unhide HC7).trans (hb8.mono (unhide HC7).size))
  clear hb8 HC7
  go_wp2_with fail
  refine (tn8 _ ((unhide HM).below (unhide HC8)) ((unhide HE).below (unhide HC8))).mono ?_; rintro e9 w9 ⟨rfl, hb9⟩
  have HC9 := hide ((unhide HC8).trans (hb9.mono (unhide HC8).size))
  clear hb9 HC8
  go_wp2_with fail
  refine (tn9 _ ((unhide HM).below (unhide HC9)) ((unhide HE).below (unhide HC9))).mono ?_; rintro e10 w10 ⟨rfl, hb10⟩
  have HC10 := hide ((unhide HC9).trans (hb10.mono (unhide HC9).size))
  clear hb10 HC9
  go_wp2_with fail
  refine (tn10 _ ((unhide HM).below (unhide HC10)) ((unhide HE).below (unhide HC10))).mono ?_; rintro e11 w11 ⟨rfl, hb11⟩
  have HC11 := hide ((unhide HC10).trans (hb11.mono (unhide HC10).size))
  clear hb11 HC10
  go_wp2_with fail
  (try simp only [List.append_eq, List.cons_append, List.nil_append])
  (try go_wp2_with fail)
  refine (tn11 _ ((unhide HM).below (unhide HC11)) ((unhide HE).below (unhide HC11))).mono ?_; rintro e12 w12 ⟨rfl, hb12⟩
  have HC12 := hide ((unhide HC11).trans (hb12.mono (unhide HC11).size))
  clear hb12 HC11
  go_wp2_with fail
  refine (tn12 _).mono ?_; rintro e13 w13 ⟨rfl, hb13⟩
  have HC13 := hide ((unhide HC12).trans (hb13.mono (unhide HC12).size))
  clear hb13 HC12
  go_wp2_with fail
  refine (tn13 _).mono ?_; rintro e14 w14 ⟨rfl, hb14⟩
  have HC14 := hide ((unhide HC13).trans (hb14.mono (unhide HC13).size))
  clear hb14 HC13
  go_wp2_with fail
  refine (tn14 _).mono ?_; rintro e15 w15 ⟨rfl, hb15⟩
  have HC15 := hide ((unhide HC14).trans (hb15.mono (unhide HC14).size))
  clear hb15 HC14
  go_wp2_with fail
  refine (tn15 _).mono ?_; rintro e16 w16 ⟨rfl, hb16⟩
  have HC16 := hide ((unhide HC15).trans (hb16.mono (unhide HC15).size))
  clear hb16 HC15
  go_wp2_with fail
  refine (tn16 _).mono ?_; rintro e17 w17 ⟨rfl, hb17⟩
  have HC17 := hide ((unhide HC16).trans (hb17.mono (unhide HC16).size))
  clear hb17 HC16
  go_wp2_with fail
  refine (tn17 _).mono ?_; rintro e18 w18 ⟨rfl, hb18⟩
  have HC18 := hide ((unhide HC17).trans (hb18.mono (unhide HC17).size))
  clear hb18 HC17
  go_wp2_with fail
  refine (tn18 _).mono ?_; rintro e19 w19 ⟨rfl, hb19⟩
  have HC19 := hide ((unhide HC18).trans (hb19.mono (unhide HC18).size))
  clear hb19 HC18
  go_wp2_with fail
  refine (tn19 _).mono ?_; rintro e20 w20 ⟨rfl, hb20⟩
  have HC20 := hide ((unhide HC19).trans (hb20.mono (unhide HC19).size))
  clear hb20 HC19
  go_wp2_with fail
  refine (tn20 _).mono ?_; rintro e21 w21 ⟨rfl, hb21⟩
  have HC21 := hide ((unhide HC20).trans (hb21.mono (unhide HC20).size))
  clear hb21 HC20
  go_wp2_with fail
  refine (tn21 _).mono ?_; rintro e22 w22 ⟨rfl, hb22⟩
  have HC22 := hide ((unhide HC21).trans (hb22.mono (unhide HC21).size))
  clear hb22 HC21
  go_wp2_with fail
  refine (tn22 _ ((unhide HT).below (unhide HC22))).mono ?_; rintro e23 w23 ⟨rfl, hb23⟩
  have HC23 := hide ((unhide HC22).trans (hb23.mono (unhide HC22).size))
  clear hb23 HC22
  go_wp2_with fail
  refine (tn23 _ ((unhide HT).below (unhide HC23))).mono ?_; rintro e24 w24 ⟨rfl, hb24⟩
  have HC24 := hide ((unhide HC23).trans (hb24.mono (unhide HC23).size))
  clear hb24 HC23
  go_wp2_with fail
  refine (tn24 _ ((unhide HT).below (unhide HC24))).mono ?_; rintro e25 w25 ⟨rfl, hb25⟩
  have HC25 := hide ((unhide HC24).trans (hb25.mono (unhide HC24).size))
  clear hb25 HC24
  go_wp2_with fail
  refine (tn25 _ ((unhide HT).below (unhide HC25))).mono ?_; rintro e26 w26 ⟨rfl, hb26⟩
  have HC26 := hide ((unhide HC25).trans (hb26.mono (unhide HC25).size))
  clear hb26 HC25
  go_wp2_with fail
  refine (tn26 _).mono ?_; rintro e27 w27 ⟨v, rfl, ho, hb⟩
  obtain ⟨ao, cp, rfl⟩ := (Rd.own ho).form
  have HC27 := hide ((unhide HC26).trans (hb.mono (unhide HC26).size))
  clear hb ho HC26
  go_wp2_with fail
  refine (tn27 _).mono ?_; rintro e28 w28 ⟨v, rfl, ho, hb⟩
  obtain ⟨ao2, cp2, rfl⟩ := (Rd.own ho).form
  have cs := hide (ksameS_any _ _ [(⟨#[34, 97, 44, 98]⟩ : ByteArray)] [(⟨#[34, 97, 44, 98]⟩ : ByteArray)] (by decide) (by decide) _ ((Rd.own ho).alloc (.cells (strV [(⟨#[34, 97, 44, 98]⟩ : ByteArray)]).toArray 9)) (rd_litS w28 [(⟨#[34, 97, 44, 98]⟩ : ByteArray)] 1 rfl))
  rw [show sameLS [(⟨#[34, 97, 44, 98]⟩ : ByteArray)] [(⟨#[34, 97, 44, 98]⟩ : ByteArray)] = true by unfold sameLS; exact decide_eq_true rfl] at cs
  have HC28 := hide (((unhide HC27).trans (hb.mono (unhide HC27).size)).alloc (by have := (unhide HC27).size; have := hb.size; omega) (.cells (strV [(⟨#[34, 97, 44, 98]⟩ : ByteArray)]).toArray 9))
  clear hb ho HC27
  go_wp2_with fail
  refine (unhide cs).mono ?_; rintro e w' ⟨rfl, hb⟩
  have HF := hide ((unhide HC28).trans (hb.mono (unhide HC28).size))
  clear hb cs HC28
  go_wp2_with fail
  go_ret
  exact ⟨rfl, unhide HF⟩
end Go.Proofs.YtbhpcmbbbomknaaGreatDoor.Sp
