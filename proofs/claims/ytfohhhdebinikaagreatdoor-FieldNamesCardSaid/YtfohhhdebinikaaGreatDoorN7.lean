/- FieldNames, the walk: the end. -/
import Derived.Test.YtfohhhdebinikaaGreatDoorN6
namespace Go.Proofs.YtfohhhdebinikaaGreatDoor.Sp
open Go.RowKit Sl

set_option maxRecDepth 100000 in
set_option maxHeartbeats 8000000 in
theorem fnames_any (w : World) (hX : MaxV w) : Calls Tryz.prog 7 #[] w fun e w' => e = .returned (.bool true) ∧ Below w.heap.size w w' := by
  have HX := hide hX
  have HB := hide (Below.refl w.heap.size w)
  have hlA := rd_litS
  have C1 := hide (fun w => row_any w)
  clear hX hlA
  go_enter Tryz.func7, Tryz.ntmps7
  go_upto_region 3 with (go_at_call 9; refine (lives_any _ (unhide HX)).mono ?_; rintro e w1 ⟨rfl, hb⟩; have HB := hide ((unhide HB).trans (hb.mono (unhide HB).size)); clear hb)
  go_upto_region 4 with (first
    | (go_at_call 26; refine (unhide C1 _).mono ?_; rintro e w2 ⟨ao, c, rfl, hr, hb⟩; have RR := hide hr; have HB := hide ((unhide HB).trans (hb.mono (unhide HB).size)); clear hr hb)
    | (go_at_call 11; refine (n_bytes _ _ (unhide RR)).mono ?_; rintro e w2 ⟨rfl, hb⟩; have HB := hide ((unhide HB).trans (hb.mono (unhide HB).size)); clear hb))
  clear RR
  go_upto_region 5 with (go_at_call 11; refine (n_bad _ _ (rd_litF _ badL 1 rfl)).mono ?_; rintro e w3 ⟨rfl, hb⟩; have HB := hide (((unhide HB).alloc (unhide HB).size _).trans (hb.mono (by have := (unhide HB).size; simp; omega))); clear hb)
  go_upto_region 6 with (first
    | (go_at_call 26; refine (unhide C1 _).mono ?_; rintro e w2 ⟨ao, c, rfl, hr, hb⟩; have RR := hide hr; have HB := hide ((unhide HB).trans (hb.mono (unhide HB).size)); clear hr hb)
    | (go_at_call 24; refine (n_get _ _ (unhide RR)).mono ?_; rintro e w2 ⟨rfl, hb⟩; have HB := hide ((unhide HB).trans (hb.mono (unhide HB).size)); clear hb))
  clear RR
  go_upto_region 7 with (first
    | (go_at_call 26; refine (unhide C1 _).mono ?_; rintro e w2 ⟨ao, c, rfl, hr, hb⟩; have RR := hide hr; have HB := hide ((unhide HB).trans (hb.mono (unhide HB).size)); clear hr hb)
    | (go_at_call 24; refine (n_no _ _ (unhide RR)).mono ?_; rintro e w2 ⟨⟨gx, rfl⟩, hb⟩; have HB := hide ((unhide HB).trans (hb.mono (unhide HB).size)); clear hb))
  clear RR
  go_upto_region 8 with (first
    | (go_at_call 26; refine (unhide C1 _).mono ?_; rintro e w2 ⟨ao, c, rfl, hr, hb⟩; have RR := hide hr; have HB := hide ((unhide HB).trans (hb.mono (unhide HB).size)); clear hr hb)
    | (go_at_call 17; refine (n_names _ _ (unhide RR)).mono ?_; rintro e w2 ⟨no, nc, rfl, hn, hb⟩; have RN := hide hn; have HB := hide ((unhide HB).trans (hb.mono (unhide HB).size)); clear hn hb))
  clear RR
  go_wp2_with (first
    | (have h8 := mRow; go_at_call 26; refine (unhide C1 _).mono ?_; rintro e w2 ⟨ao, c, rfl, hr, hb⟩; have RR := hide hr; have HB := hide ((unhide HB).trans (hb.mono (unhide HB).size)); clear hr hb)
    | (have h7 := mL; go_at_call 20; refine (n_same _ _ nm2x rfl _ ((unhide RL).alloc _) (rd_litS _ nm2x 2 rfl)).mono ?_; rintro e w2 ⟨rfl, hb⟩; have HB := hide (((unhide HB).alloc (unhide HB).size _).trans (hb.mono (by have := (unhide HB).size; simp; omega))); clear hb)
    | (have h7 := mA; go_at_call 20; refine (n_same _ _ nm13 rfl _ ((unhide RA).alloc _) (rd_litS _ nm13 2 rfl)).mono ?_; rintro e w2 ⟨rfl, hb⟩; have HB := hide (((unhide HB).alloc (unhide HB).size _).trans (hb.mono (by have := (unhide HB).size; simp; omega))); clear hb)
    | (go_at_call 20; refine (n_same _ _ nmAB rfl _ ((unhide RN).alloc _) (rd_litS _ nmAB 2 rfl)).mono ?_; rintro e w2 ⟨rfl, hb⟩; have mRow := True.intro; have HB := hide (((unhide HB).alloc (unhide HB).size _).trans (hb.mono (by have := (unhide HB).size; simp; omega))); clear hb)
    | (go_at_call 18; refine (n_all _ _ (unhide RR)).mono ?_; rintro e w2 ⟨ao2, c2, rfl, hr, hb⟩; have RA := hide hr; have mA := True.intro; have HB := hide ((unhide HB).trans (hb.mono (unhide HB).size)); clear hr hb)
    | (go_at_call 21; refine (n_list _ _ (unhide RR)).mono ?_; rintro e w2 ⟨ao2, c2, rfl, hr, hb⟩; have RL := hide hr; have mL := True.intro; have HB := hide ((unhide HB).trans (hb.mono (unhide HB).size)); clear hr hb)
    | (have h7 := mS; go_at_call 22; refine (n_set4 _ _ (unhide RR)).mono ?_; rintro e w2 ⟨ao2, c2, rfl, hr, hb⟩; have HB := hide ((unhide HB).trans (hb.mono (unhide HB).size)); clear hr hb)
    | (go_at_call 22; refine (n_set _ _ (unhide RR)).mono ?_; rintro e w2 ⟨ao2, c2, rfl, hr, hb⟩; have RS := hide hr; have mS := True.intro; have HB := hide ((unhide HB).trans (hb.mono (unhide HB).size)); clear hr hb)
    | (have h7 := mN; go_at_call 16; refine (n_ne _ _ (unhide RR)).mono ?_; rintro e w2 ⟨rfl, hb⟩; have HB := hide ((unhide HB).trans (hb.mono (unhide HB).size)); clear hb)
    | (have h7 := mC; go_at_call 16; refine (n_nil _).mono ?_; rintro e w2 ⟨rfl, hb⟩; have mN := True.intro; have HB := hide ((unhide HB).trans (hb.mono (unhide HB).size)); clear hb)
    | (go_at_call 16; refine (n_fs _ _ _ ((unhide RS).alloc _) (rd_litF _ setL9 2 rfl)).mono ?_; rintro e w2 ⟨rfl, hb⟩; have HB := hide (((unhide HB).alloc (unhide HB).size _).trans (hb.mono (by have := (unhide HB).size; simp; omega))); clear hb)
    | (go_at_call 23; refine (n_del _ _ (unhide RR)).mono ?_; rintro e w2 ⟨ao2, c2, rfl, hr, hb⟩; have HB := hide ((unhide HB).trans (hb.mono (unhide HB).size)); clear hr hb)
    | (have h7 := mC; go_at_call 12; refine (n_ck2 _).mono ?_; rintro e w2 ⟨rfl, hb⟩; have HB := hide ((unhide HB).trans (hb.mono (unhide HB).size)); clear hb)
    | (go_at_call 12; refine (n_ck1 _).mono ?_; rintro e w2 ⟨rfl, hb⟩; have mC := True.intro; have HB := hide ((unhide HB).trans (hb.mono (unhide HB).size)); clear hb))
  go_ret
  exact ⟨rfl, unhide HB⟩
end Go.Proofs.YtfohhhdebinikaaGreatDoor.Sp
