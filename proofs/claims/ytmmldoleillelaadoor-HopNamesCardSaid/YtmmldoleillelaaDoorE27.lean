/- HopNames, the walk. -/
import Derived.Test.YtmmldoleillelaaDoorE13
import Derived.Test.YtmmldoleillelaaDoorE14
import Derived.Test.YtmmldoleillelaaDoorC18
import Derived.Test.YtmmldoleillelaaDoorE26
import Derived.Test.YtmmldoleillelaaDoorPlanN
namespace Go.Proofs.YtmmldoleillelaaDoor.Sp
open Go.RowKit Sl

def nmF : List Fld := [(⟨#[72, 111, 115, 116]⟩, ⟨#[104]⟩), (⟨#[67, 111, 110, 116, 101, 110, 116, 45, 76, 101, 110, 103, 116, 104]⟩, ⟨#[50]⟩), (⟨#[69, 120, 112, 101, 99, 116]⟩, ⟨#[49, 48, 48, 45, 99, 111, 110, 116, 105, 110, 117, 101]⟩), (⟨#[118, 105, 97]⟩, ⟨#[49, 46, 49, 32, 97]⟩), (⟨#[84, 69]⟩, ⟨#[120]⟩)]
def nmT : List Fld := [(⟨#[84]⟩, ⟨#[49]⟩)]
def nmX : List Fld := [(⟨#[69, 120, 112, 101, 99, 116]⟩, ⟨#[120]⟩)]
def nmW : List Fld := [(⟨#[72, 111, 115, 116]⟩, ⟨#[104]⟩), (⟨#[86, 105, 97]⟩, ⟨#[49, 46, 49, 32, 97, 44, 32, 49, 46, 48, 32, 112]⟩)]
def nmG : List Fld := [(⟨#[72, 111, 115, 116]⟩, ⟨#[104]⟩), (⟨#[118, 105, 97]⟩, ⟨#[49, 46, 49, 32, 97, 44, 32, 49, 46, 48, 32, 112]⟩)]
def nmV : List Fld := [(⟨#[69, 120, 112, 101, 99, 116]⟩, ⟨#[120]⟩), (⟨#[86, 105, 97]⟩, ⟨#[49, 46, 49, 32, 113]⟩)]
def nmR : List Fld := [(⟨#[69, 120, 112, 101, 99, 116]⟩, ⟨#[120]⟩), (⟨#[86, 105, 97]⟩, ⟨#[49, 46, 49, 32, 113]⟩)]
def nmK : List Fld := [(⟨#[99, 111, 110, 110, 101, 99, 116, 105, 111, 110]⟩, ⟨#[75, 101, 101, 112, 45, 65, 108, 105, 118, 101]⟩)]
def nmC : List Fld := [(⟨#[99, 111, 110, 110, 101, 99, 116, 105, 111, 110]⟩, ⟨#[120, 44, 67, 108, 111, 115, 101]⟩)]
def putB : ByteArray := ⟨#[80, 85, 84]⟩
def nmP : ByteArray := ⟨#[112]⟩
def nmQ : ByteArray := ⟨#[113]⟩
theorem nm_few : Few1 nmF := ⟨by decide, by decide⟩
theorem nm_fewX : Few1 nmX := ⟨by decide, by decide⟩
theorem nm_fwd : fwdF putB nmF 0 nmP = nmG := by decide +kernel
theorem nm_fwdX : fwdF ⟨#[]⟩ nmX 1 nmQ = nmR := by decide +kernel
theorem nm_same : sameFs nmG nmW = true := by decide +kernel
theorem nm_sameX : sameFs nmR nmV = true := by decide +kernel

theorem nm_put (fs tr : Value) (w : World) (hv : Rd w fs 5 2 (fldV nmF)) (hu : ∃ ao n c, tr = .slice ao n c) (ht : Pow10 w) :
    Calls Tryd.prog 24 #[.agg #[.string ⟨#[80, 85, 84]⟩, .string ⟨#[47]⟩, .int .i64 0, .string ⟨#[]⟩, .int .i64 0, fs, .string ⟨#[97, 98]⟩, tr], .string nmP] w fun e w' =>
      ∃ ao c, e = .returned (.tuple #[.agg #[.string ⟨#[80, 85, 84]⟩, .string ⟨#[47]⟩, .int .i64 0, .string ⟨#[]⟩, .int .i64 1, .slice ao 2 c, .string ⟨#[97, 98]⟩, .slice none 0 0], .int .i64 0]) ∧ Rd w' (.slice ao 2 c) 2 2 (fldV nmG) ∧ Below w.heap.size w w' := by
  refine (fwd_b putB ⟨#[47]⟩ ⟨#[]⟩ ⟨#[97, 98]⟩ 0 0 fs tr nmF nm_few (by decide) (by decide) nmP (by decide) (by decide +kernel) w hv hu ht (by decide +kernel) (by decide +kernel)).mono ?_
  rintro e w' ⟨v, rfl, ho, hb⟩
  rw [nm_fwd] at ho
  have hr := Rd.own ho
  obtain ⟨ao, c, rfl⟩ := hr.form
  exact ⟨ao, c, rfl, hr, hb⟩
theorem nm_res (fs tr : Value) (w : World) (hv : Rd w fs 1 2 (fldV nmX)) (hu : ∃ ao n c, tr = .slice ao n c) (ht : Pow10 w) :
    Calls Tryd.prog 24 #[.agg #[.string ⟨#[]⟩, .string ⟨#[]⟩, .int .i64 200, .string ⟨#[]⟩, .int .i64 1, fs, .string ⟨#[]⟩, tr], .string nmQ] w fun e w' =>
      ∃ ao c, e = .returned (.tuple #[.agg #[.string ⟨#[]⟩, .string ⟨#[]⟩, .int .i64 200, .string ⟨#[]⟩, .int .i64 1, .slice ao 2 c, .string ⟨#[]⟩, .slice none 0 0], .int .i64 0]) ∧ Rd w' (.slice ao 2 c) 2 2 (fldV nmR) ∧ Below w.heap.size w w' := by
  refine (fwd_a ⟨#[]⟩ ⟨#[]⟩ ⟨#[]⟩ ⟨#[]⟩ 200 1 fs tr nmX nm_fewX (by decide) (by decide) nmQ (by decide) (by decide +kernel) w hv hu ht (by decide +kernel)).mono ?_
  rintro e w' ⟨v, rfl, ho, hb⟩
  rw [nm_fwdX] at ho
  have hr := Rd.own ho
  obtain ⟨ao, c, rfl⟩ := hr.form
  exact ⟨ao, c, rfl, hr, hb⟩
theorem nm_bad (fs tr : Value) (w : World) :
    Calls Tryd.prog 24 #[.agg #[.string ⟨#[80, 85, 84]⟩, .string ⟨#[47]⟩, .int .i64 0, .string ⟨#[]⟩, .int .i64 0, fs, .string ⟨#[97, 98]⟩, tr], .string ⟨#[]⟩] w fun e w' =>
      e = .returned (.tuple #[.agg #[.string ⟨#[]⟩, .string ⟨#[]⟩, .int .i64 0, .string ⟨#[]⟩, .int .i64 0, .slice none 0 0, .string ⟨#[]⟩, .slice none 0 0], .int .i64 4]) ∧ Below w.heap.size w w' :=
  fwd_bad putB ⟨#[47]⟩ ⟨#[]⟩ ⟨#[97, 98]⟩ 0 0 fs tr ⟨#[]⟩ (by decide) (by decide +kernel) w
theorem nm_s1 (u v : Value) (w : World) (hu : Rd w u 2 2 (fldV nmG)) (hv : Rd w v 2 2 (fldV nmW)) :
    Calls Tryd.prog 25 #[u, v] w fun e w' => e = .returned (.bool true) ∧ Below w.heap.size w w' := by
  have := rsameF_any u v nmG nmW (by decide) (by decide) (by decide) (by decide) w hu hv
  rwa [nm_same] at this
theorem nm_s2 (u v : Value) (w : World) (hu : Rd w u 2 2 (fldV nmR)) (hv : Rd w v 2 2 (fldV nmV)) :
    Calls Tryd.prog 25 #[u, v] w fun e w' => e = .returned (.bool true) ∧ Below w.heap.size w w' := by
  have := rsameF_any u v nmR nmV (by decide) (by decide) (by decide) (by decide) w hu hv
  rwa [nm_sameX] at this
theorem nm_h1 (w : World) : Calls Tryd.prog 12 #[.string ⟨#[107, 101, 101, 112, 45, 65, 76, 73, 86, 69]⟩] w fun e w' => e = .returned (.bool true) ∧ Below w.heap.size w w' := by
  have := hop_any ⟨#[107, 101, 101, 112, 45, 65, 76, 73, 86, 69]⟩ (by decide) w
  rwa [show hopS ⟨#[107, 101, 101, 112, 45, 65, 76, 73, 86, 69]⟩ = true by decide +kernel] at this
theorem nm_h2 (w : World) : Calls Tryd.prog 12 #[.string ⟨#[86, 105, 97]⟩] w fun e w' => e = .returned (.bool false) ∧ Below w.heap.size w w' := by
  have := hop_any ⟨#[86, 105, 97]⟩ (by decide) w
  rwa [show hopS ⟨#[86, 105, 97]⟩ = false by decide +kernel] at this
theorem nm_c1 (w : World) : Calls Tryd.prog 26 #[.agg #[.string ⟨#[]⟩, .string ⟨#[]⟩, .int .i64 0, .string ⟨#[]⟩, .int .i64 0, .slice none 0 0, .string ⟨#[]⟩, .slice none 0 0]] w fun e w' => e = .returned (.bool true) ∧ Below w.heap.size w w' := by
  have := closes_any ⟨#[]⟩ ⟨#[]⟩ ⟨#[]⟩ ⟨#[]⟩ 0 0 (.slice none 0 0) (.slice none 0 0) [] [] ⟨by decide, by decide⟩ w (Rd.nil w 2) (Rd.nil w 2)
  rwa [show closesS [] 0 = true by decide +kernel] at this
theorem nm_c2 (w : World) : Calls Tryd.prog 26 #[.agg #[.string ⟨#[]⟩, .string ⟨#[]⟩, .int .i64 0, .string ⟨#[]⟩, .int .i64 1, .slice none 0 0, .string ⟨#[]⟩, .slice none 0 0]] w fun e w' => e = .returned (.bool false) ∧ Below w.heap.size w w' := by
  have := closes_any ⟨#[]⟩ ⟨#[]⟩ ⟨#[]⟩ ⟨#[]⟩ 0 1 (.slice none 0 0) (.slice none 0 0) [] [] ⟨by decide, by decide⟩ w (Rd.nil w 2) (Rd.nil w 2)
  rwa [show closesS [] 1 = false by decide +kernel] at this
theorem nm_c3 (fs : Value) (w : World) (hv : Rd w fs 1 2 (fldV nmK)) : Calls Tryd.prog 26 #[.agg #[.string ⟨#[]⟩, .string ⟨#[]⟩, .int .i64 0, .string ⟨#[]⟩, .int .i64 0, fs, .string ⟨#[]⟩, .slice none 0 0]] w fun e w' => e = .returned (.bool false) ∧ Below w.heap.size w w' := by
  have := closes_any ⟨#[]⟩ ⟨#[]⟩ ⟨#[]⟩ ⟨#[]⟩ 0 0 (fs) (.slice none 0 0) nmK [] ⟨by decide, by decide⟩ w hv (Rd.nil w 2)
  rwa [show closesS nmK 0 = false by decide +kernel] at this
theorem nm_c4 (fs : Value) (w : World) (hv : Rd w fs 1 2 (fldV nmC)) : Calls Tryd.prog 26 #[.agg #[.string ⟨#[]⟩, .string ⟨#[]⟩, .int .i64 0, .string ⟨#[]⟩, .int .i64 1, fs, .string ⟨#[]⟩, .slice none 0 0]] w fun e w' => e = .returned (.bool true) ∧ Below w.heap.size w w' := by
  have := closes_any ⟨#[]⟩ ⟨#[]⟩ ⟨#[]⟩ ⟨#[]⟩ 0 1 (fs) (.slice none 0 0) nmC [] ⟨by decide, by decide⟩ w hv (Rd.nil w 2)
  rwa [show closesS nmC 1 = true by decide +kernel] at this

theorem belowA {B : Nat} {w0 w w1 : World} {o : Obj} (h : Below B w0 w) (hB : B ≤ w.heap.size) (hb : Below (w.alloc o).heap.size (w.alloc o) w1) : Below B w0 w1 := (h.alloc hB o).trans (hb.mono (by simp; omega))

set_option maxRecDepth 100000 in
set_option maxHeartbeats 4000000 in
theorem names_walk (w : World) (htab : Pow10 w) : Calls Tryd.prog 6 #[] w fun e w' => e = .returned (.bool true) ∧ Below w.heap.size w w' := by
  have HTAB := hide htab
  have HB := hide (Below.refl w.heap.size w)
  clear htab
  go_enter Tryd.func6, Tryd.ntmps6
  go_upto_region 3 with (go_at_call 8; refine (lives_any _).mono ?_; rintro e w1 ⟨rfl, hb1⟩; have HB := hide ((unhide HB).trans (hb1.mono (unhide HB).size)); clear hb1)
  go_upto_region 4 with (go_at_call 20; refine (one_any _ _ _).mono ?_; rintro e w2 ⟨rfl, hb2⟩; (try have R1 := hide ((rd_litF _ nmF 5 rfl).below hb2)); have HB := hide (by first | exact (unhide HB).trans (hb2.mono (unhide HB).size) | exact belowA (unhide HB) (unhide HB).size hb2); clear hb2)
  rename_i w5 HB5 K4 A4
  have HM := hide (Reg.Has.at (w2.alloc (.cells #[.string ⟨#[84]⟩, .string ⟨#[49]⟩] 35)) (w2.heap.size + 1) [.string ⟨#[80, 85, 84]⟩, .string ⟨#[47]⟩, .int .i64 0, .string ⟨#[]⟩, .int .i64 0, .slice (some ⟨w5.heap.size, 0, none⟩) 5 5, .string ⟨#[97, 98]⟩, .slice (some ⟨w2.heap.size, 0, none⟩) 1 1] 24 (by simp))
  have R1 := hide (((unhide R1).alloc (.cells #[.string ⟨#[84]⟩, .string ⟨#[49]⟩] 35)).alloc (.cells #[.string ⟨#[80, 85, 84]⟩, .string ⟨#[47]⟩, .int .i64 0, .string ⟨#[]⟩, .int .i64 0, .slice (some ⟨w5.heap.size, 0, none⟩) 5 5, .string ⟨#[97, 98]⟩, .slice (some ⟨w2.heap.size, 0, none⟩) 1 1] 24))
  have HB := hide (((unhide HB).alloc (unhide HB).size (.cells #[.string ⟨#[84]⟩, .string ⟨#[49]⟩] 35)).alloc (by have := (unhide HB).size; simp; omega) (.cells #[.string ⟨#[80, 85, 84]⟩, .string ⟨#[47]⟩, .int .i64 0, .string ⟨#[]⟩, .int .i64 0, .slice (some ⟨w5.heap.size, 0, none⟩) 5 5, .string ⟨#[97, 98]⟩, .slice (some ⟨w2.heap.size, 0, none⟩) 1 1] 24))
  clear HB5
  generalize w5.heap.size = g5 at *
  generalize (w2.alloc (.cells #[.string ⟨#[84]⟩, .string ⟨#[49]⟩] 35)).alloc (.cells #[.string ⟨#[80, 85, 84]⟩, .string ⟨#[47]⟩, .int .i64 0, .string ⟨#[]⟩, .int .i64 0, .slice (some ⟨g5, 0, none⟩) 5 5, .string ⟨#[97, 98]⟩, .slice (some ⟨w2.heap.size, 0, none⟩) 1 1] 24) = w3 at HM R1 HB ⊢
  generalize w2.heap.size + 1 = gm at *
  generalize w2.heap.size = g2 at *
  go_upto_region 5 with (first
    | (refine wpList_loadM rfl _ rfl gm rfl _ rfl (unhide HM) ?_)
    | (go_at_call 24; refine (nm_put _ _ _ (unhide R1) ⟨_, _, _, rfl⟩ ((unhide HTAB).below (unhide HB))).mono ?_; rintro e w4 ⟨ao4, c4, rfl, hr, hb⟩; have RG := hide hr; have HM := hide ((unhide HM).call hb); have HB := hide ((unhide HB).trans (hb.mono (unhide HB).size)); have zm := (unhide HM).lt; clear hr hb))
  have HA := hide (Reg.Has.new w4 [.string ⟨#[80, 85, 84]⟩, .string ⟨#[47]⟩, .int .i64 0, .string ⟨#[]⟩, .int .i64 1, .slice ao4 2 c4, .string ⟨#[97, 98]⟩, .slice none 0 0] 24)
  have HM := hide ((unhide HM).alloc (.cells #[.string ⟨#[80, 85, 84]⟩, .string ⟨#[47]⟩, .int .i64 0, .string ⟨#[]⟩, .int .i64 1, .slice ao4 2 c4, .string ⟨#[97, 98]⟩, .slice none 0 0] 24))
  have RG := hide ((unhide RG).alloc (.cells #[.string ⟨#[80, 85, 84]⟩, .string ⟨#[47]⟩, .int .i64 0, .string ⟨#[]⟩, .int .i64 1, .slice ao4 2 c4, .string ⟨#[97, 98]⟩, .slice none 0 0] 24))
  have HB := hide ((unhide HB).alloc (unhide HB).size (.cells #[.string ⟨#[80, 85, 84]⟩, .string ⟨#[47]⟩, .int .i64 0, .string ⟨#[]⟩, .int .i64 1, .slice ao4 2 c4, .string ⟨#[97, 98]⟩, .slice none 0 0] 24))
  generalize w4.alloc (.cells #[.string ⟨#[80, 85, 84]⟩, .string ⟨#[47]⟩, .int .i64 0, .string ⟨#[]⟩, .int .i64 1, .slice ao4 2 c4, .string ⟨#[97, 98]⟩, .slice none 0 0] 24) = w5' at HA HM RG HB ⊢
  generalize w4.heap.size = ga at *
  go_upto_region 6 with (first
    | (refine wpList_loadM rfl _ rfl gm rfl _ rfl (unhide HM) ?_)
    | (go_at_call 24; refine (nm_bad _ _ _).mono ?_; rintro e w6 ⟨rfl, hb⟩; have HA := hide ((unhide HA).call hb); have RG := hide ((unhide RG).below hb); have HB := hide ((unhide HB).trans (hb.mono (unhide HB).size)); have za := (unhide HA).lt; clear hb))
  have HA := hide ((unhide HA).alloc (.cells #[.string ⟨#[]⟩, .string ⟨#[]⟩, .int .i64 0, .string ⟨#[]⟩, .int .i64 0, .slice none 0 0, .string ⟨#[]⟩, .slice none 0 0] 24))
  have RG := hide ((unhide RG).alloc (.cells #[.string ⟨#[]⟩, .string ⟨#[]⟩, .int .i64 0, .string ⟨#[]⟩, .int .i64 0, .slice none 0 0, .string ⟨#[]⟩, .slice none 0 0] 24))
  have HB := hide ((unhide HB).alloc (unhide HB).size (.cells #[.string ⟨#[]⟩, .string ⟨#[]⟩, .int .i64 0, .string ⟨#[]⟩, .int .i64 0, .slice none 0 0, .string ⟨#[]⟩, .slice none 0 0] 24))
  generalize w6.alloc (.cells #[.string ⟨#[]⟩, .string ⟨#[]⟩, .int .i64 0, .string ⟨#[]⟩, .int .i64 0, .slice none 0 0, .string ⟨#[]⟩, .slice none 0 0] 24) = w7 at HA RG HB ⊢
  generalize w6.heap.size = g6 at *
  go_upto_region 7 with (first
    | (go_at_call 20; refine (one_any _ _ _).mono ?_; rintro e w8 ⟨rfl, hb⟩; have HA := hide ((unhide HA).call hb); have RG := hide ((unhide RG).below hb); have HB := hide ((unhide HB).trans (hb.mono (unhide HB).size)); clear hb)
    | (go_at_call 24; refine (nm_res _ _ _ (rd_litF w8 nmX 1 rfl) ⟨_, _, _, rfl⟩ ((unhide HTAB).below ((unhide HB).alloc (unhide HB).size _))).mono ?_; rintro e w9 ⟨ao9, c9, rfl, hr, hb⟩; have RR := hide hr; have HA := hide (((unhide HA).alloc _).call hb); have RG := hide (((unhide RG).alloc _).below hb); have HB := hide (belowA (unhide HB) (unhide HB).size hb); have za := (unhide HA).lt; clear hr hb))
  have HX := hide (Reg.Has.new w9 [.string ⟨#[]⟩, .string ⟨#[]⟩, .int .i64 200, .string ⟨#[]⟩, .int .i64 1, .slice ao9 2 c9, .string ⟨#[]⟩, .slice none 0 0] 24)
  have HA := hide ((unhide HA).alloc (.cells #[.string ⟨#[]⟩, .string ⟨#[]⟩, .int .i64 200, .string ⟨#[]⟩, .int .i64 1, .slice ao9 2 c9, .string ⟨#[]⟩, .slice none 0 0] 24))
  have RG := hide ((unhide RG).alloc (.cells #[.string ⟨#[]⟩, .string ⟨#[]⟩, .int .i64 200, .string ⟨#[]⟩, .int .i64 1, .slice ao9 2 c9, .string ⟨#[]⟩, .slice none 0 0] 24))
  have RR := hide ((unhide RR).alloc (.cells #[.string ⟨#[]⟩, .string ⟨#[]⟩, .int .i64 200, .string ⟨#[]⟩, .int .i64 1, .slice ao9 2 c9, .string ⟨#[]⟩, .slice none 0 0] 24))
  have HB := hide ((unhide HB).alloc (unhide HB).size (.cells #[.string ⟨#[]⟩, .string ⟨#[]⟩, .int .i64 200, .string ⟨#[]⟩, .int .i64 1, .slice ao9 2 c9, .string ⟨#[]⟩, .slice none 0 0] 24))
  generalize w9.alloc (.cells #[.string ⟨#[]⟩, .string ⟨#[]⟩, .int .i64 200, .string ⟨#[]⟩, .int .i64 1, .slice ao9 2 c9, .string ⟨#[]⟩, .slice none 0 0] 24) = w10 at HX HA RG RR HB ⊢
  generalize w9.heap.size = gr at *
  go_upto_region 8 with (go_at_call 20; refine (one_any _ _ _).mono ?_; rintro e w11 ⟨rfl, hb⟩; have HX := hide ((unhide HX).call hb); have HA := hide ((unhide HA).call hb); have RG := hide ((unhide RG).below hb); have RR := hide ((unhide RR).below hb); have HB := hide ((unhide HB).trans (hb.mono (unhide HB).size)); clear hb)
  have RW := hide (rd_litF w11 nmW 2 rfl)
  have HX := hide ((unhide HX).alloc (.cells (fldV nmW).toArray 35))
  have HA := hide ((unhide HA).alloc (.cells (fldV nmW).toArray 35))
  have RG := hide ((unhide RG).alloc (.cells (fldV nmW).toArray 35))
  have RR := hide ((unhide RR).alloc (.cells (fldV nmW).toArray 35))
  have HB := hide ((unhide HB).alloc (unhide HB).size (.cells (fldV nmW).toArray 35))
  change Code.wp _ _ _ _ (w11.alloc (.cells (fldV nmW).toArray 35))
  generalize w11.alloc (.cells (fldV nmW).toArray 35) = W at RW HX HA RG RR HB ⊢
  generalize w11.heap.size = gw at *
  have hx9 := unhide HX
  have ha9 := unhide HA
  have p20 := ha9.cell 0 _ rfl; have p21 := ha9.cell 1 _ rfl; have p22 := ha9.cell 2 _ rfl; have p23 := ha9.cell 3 _ rfl; have p24 := ha9.cell 4 _ rfl; have p25 := ha9.cell 5 _ rfl; have p26 := ha9.cell 6 _ rfl; have p27 := ha9.cell 7 _ rfl; have z2 := ha9.lt
  have p30 := hx9.cell 0 _ rfl; have p31 := hx9.cell 1 _ rfl; have p32 := hx9.cell 2 _ rfl; have p33 := hx9.cell 3 _ rfl; have p34 := hx9.cell 4 _ rfl; have p35 := hx9.cell 5 _ rfl; have p36 := hx9.cell 6 _ rfl; have p37 := hx9.cell 7 _ rfl; have z3 := hx9.lt
  have BW := hide (Below.drew (Below.refl W.heap.size W))
  clear hx9 ha9 HX HA HTAB
  simp only [List.append_eq, List.cons_append, List.nil_append]
  refine Reg.region_mix2 opsN (piN0 ++ (piN1 ++ (piN2 ++ (piN3 ++ piN4)))) (by kernel_rfl) (by kernel_rfl) selN planN' (of_decide_eq_true (by kernel_rfl)) (by intro c a d v w h; cases d <;> exact h) ?_
  simp only [piN0, piN1, piN2, piN3, piN4, List.cons_append, List.nil_append, Reg.pickL, List.getElem?_cons_zero, List.getElem?_cons_succ]
  refine Reg.mix_take 22 (by kernel_rfl) ?_
  simp only [List.take_succ_cons, List.take_zero, List.drop_succ_cons, List.drop_zero]
  repeat (go_big_quiet_step (fail))
  refine wpQuiet_nil ?_
  refine Reg.mix_one (by kernel_rfl) ?_
  go_wp2_with ((go_at_call 25; refine (nm_s1 _ _ _ ((unhide RG).below (unhide BW)) ((unhide RW).below (unhide BW))).mono ?_; rintro e x1 ⟨rfl, hb⟩; have BW := hide ((unhide BW).trans (hb.mono (unhide BW).size)); clear hb))
  refine ⟨rfl, ⟨⟨_, unhide BW⟩, rfl⟩, ?_⟩
  clear p20 p21 p22 p23 p24 p25 p26 p27 p30 p31 p32 p33 p34 p36 p37
  refine Reg.mix_take 12 (by kernel_rfl) ?_
  simp only [List.take_succ_cons, List.take_zero, List.drop_succ_cons, List.drop_zero]
  repeat (go_big_quiet_step (fail))
  refine wpQuiet_nil ?_
  refine Reg.mix_one (by kernel_rfl) ?_
  go_wp2_with ((go_at_call 20; refine (one_any _ _ _).mono ?_; rintro e x2 ⟨rfl, hb⟩; have BW := hide ((unhide BW).trans (hb.mono (unhide BW).size)); clear hb))
  refine ⟨rfl, ⟨⟨_, unhide BW⟩, rfl⟩, ?_⟩
  refine Reg.mix_one (by kernel_rfl) ?_
  go_wp2_with ((go_at_call 20; refine (one_any _ _ _).mono ?_; rintro e x3 ⟨rfl, hb⟩; have BW := hide ((unhide BW).trans (hb.mono (unhide BW).size)); clear hb))
  refine ⟨rfl, ⟨⟨_, unhide BW⟩, rfl⟩, ?_⟩
  refine Reg.mix_one (by kernel_rfl) ?_
  go_wp2_with (fail)
  refine ⟨rfl, ⟨⟨_, (unhide BW).alloc (unhide BW).size _⟩, rfl⟩, ?_⟩
  have RV := hide (rd_litF x3 nmV 2 rfl)
  have BW := hide ((unhide BW).alloc (unhide BW).size (.cells (fldV nmV).toArray 35))
  refine Reg.mix_one (by kernel_rfl) ?_
  go_wp2_with ((go_at_call 25; refine (nm_s2 _ _ _ ((unhide RR).below (unhide BW)) (unhide RV)).mono ?_; rintro e x4 ⟨rfl, hb⟩; have BW := hide ((unhide BW).trans (hb.mono (unhide BW).size)); clear hb))
  refine ⟨rfl, ⟨⟨_, unhide BW⟩, rfl⟩, ?_⟩
  refine Reg.mix_take 2 (by kernel_rfl) ?_
  simp only [List.take_succ_cons, List.take_zero, List.drop_succ_cons, List.drop_zero]
  repeat (go_big_quiet_step (fail))
  refine wpQuiet_nil ?_
  refine Reg.mix_one (by kernel_rfl) ?_
  go_wp2_with ((go_at_call 12; refine (nm_h1 _).mono ?_; rintro e x5 ⟨rfl, hb⟩; have BW := hide ((unhide BW).trans (hb.mono (unhide BW).size)); clear hb))
  refine ⟨rfl, ⟨⟨_, unhide BW⟩, rfl⟩, ?_⟩
  refine Reg.mix_take 2 (by kernel_rfl) ?_
  simp only [List.take_succ_cons, List.take_zero, List.drop_succ_cons, List.drop_zero]
  repeat (go_big_quiet_step (fail))
  refine wpQuiet_nil ?_
  refine Reg.mix_one (by kernel_rfl) ?_
  go_wp2_with ((go_at_call 12; refine (nm_h2 _).mono ?_; rintro e x6 ⟨rfl, hb⟩; have BW := hide ((unhide BW).trans (hb.mono (unhide BW).size)); clear hb))
  refine ⟨rfl, ⟨⟨_, unhide BW⟩, rfl⟩, ?_⟩
  refine Reg.mix_take 3 (by kernel_rfl) ?_
  simp only [List.take_succ_cons, List.take_zero, List.drop_succ_cons, List.drop_zero]
  repeat (go_big_quiet_step (fail))
  refine wpQuiet_nil ?_
  refine Reg.mix_one (by kernel_rfl) ?_
  go_wp2_with (fail)
  refine ⟨rfl, ⟨⟨_, unhide BW⟩, rfl⟩, ?_⟩
  refine Reg.mix_one (by kernel_rfl) ?_
  go_wp2_with ((go_at_call 26; refine (nm_c1 _).mono ?_; rintro e x7 ⟨rfl, hb⟩; have BW := hide ((unhide BW).trans (hb.mono (unhide BW).size)); clear hb))
  refine ⟨rfl, ⟨⟨_, unhide BW⟩, rfl⟩, ?_⟩
  refine Reg.mix_take 2 (by kernel_rfl) ?_
  simp only [List.take_succ_cons, List.take_zero, List.drop_succ_cons, List.drop_zero]
  repeat (go_big_quiet_step (fail))
  refine wpQuiet_nil ?_
  refine Reg.mix_one (by kernel_rfl) ?_
  go_wp2_with (fail)
  refine ⟨rfl, ⟨⟨_, unhide BW⟩, rfl⟩, ?_⟩
  refine Reg.mix_one (by kernel_rfl) ?_
  go_wp2_with ((go_at_call 26; refine (nm_c2 _).mono ?_; rintro e x8 ⟨rfl, hb⟩; have BW := hide ((unhide BW).trans (hb.mono (unhide BW).size)); clear hb))
  refine ⟨rfl, ⟨⟨_, unhide BW⟩, rfl⟩, ?_⟩
  refine Reg.mix_take 3 (by kernel_rfl) ?_
  simp only [List.take_succ_cons, List.take_zero, List.drop_succ_cons, List.drop_zero]
  repeat (go_big_quiet_step (fail))
  refine wpQuiet_nil ?_
  refine Reg.mix_one (by kernel_rfl) ?_
  go_wp2_with ((go_at_call 20; refine (one_any _ _ _).mono ?_; rintro e x9 ⟨rfl, hb⟩; have BW := hide ((unhide BW).trans (hb.mono (unhide BW).size)); clear hb))
  refine ⟨rfl, ⟨⟨_, unhide BW⟩, rfl⟩, ?_⟩
  refine Reg.mix_one (by kernel_rfl) ?_
  go_wp2_with (fail)
  refine ⟨rfl, ⟨⟨_, (unhide BW).alloc (unhide BW).size _⟩, rfl⟩, ?_⟩
  have RK := hide (rd_litF x9 nmK 1 rfl)
  have BW := hide ((unhide BW).alloc (unhide BW).size (.cells (fldV nmK).toArray 35))
  refine Reg.mix_one (by kernel_rfl) ?_
  go_wp2_with (fail)
  refine ⟨rfl, ⟨⟨_, unhide BW⟩, rfl⟩, ?_⟩
  refine Reg.mix_one (by kernel_rfl) ?_
  go_wp2_with ((go_at_call 26; refine (nm_c3 _ _ (unhide RK)).mono ?_; rintro e x10 ⟨rfl, hb⟩; have BW := hide ((unhide BW).trans (hb.mono (unhide BW).size)); clear hb))
  refine ⟨rfl, ⟨⟨_, unhide BW⟩, rfl⟩, ?_⟩
  refine Reg.mix_take 3 (by kernel_rfl) ?_
  simp only [List.take_succ_cons, List.take_zero, List.drop_succ_cons, List.drop_zero]
  repeat (go_big_quiet_step (fail))
  refine wpQuiet_nil ?_
  refine Reg.mix_one (by kernel_rfl) ?_
  go_wp2_with ((go_at_call 20; refine (one_any _ _ _).mono ?_; rintro e x11 ⟨rfl, hb⟩; have BW := hide ((unhide BW).trans (hb.mono (unhide BW).size)); clear hb))
  refine ⟨rfl, ⟨⟨_, unhide BW⟩, rfl⟩, ?_⟩
  refine Reg.mix_one (by kernel_rfl) ?_
  go_wp2_with (fail)
  refine ⟨rfl, ⟨⟨_, (unhide BW).alloc (unhide BW).size _⟩, rfl⟩, ?_⟩
  have RC := hide (rd_litF x11 nmC 1 rfl)
  have BW := hide ((unhide BW).alloc (unhide BW).size (.cells (fldV nmC).toArray 35))
  refine Reg.mix_one (by kernel_rfl) ?_
  go_wp2_with (fail)
  refine ⟨rfl, ⟨⟨_, unhide BW⟩, rfl⟩, ?_⟩
  refine Reg.mix_one (by kernel_rfl) ?_
  go_wp2_with ((go_at_call 26; refine (nm_c4 _ _ (unhide RC)).mono ?_; rintro e x12 ⟨rfl, hb⟩; have BW := hide ((unhide BW).trans (hb.mono (unhide BW).size)); clear hb))
  refine ⟨rfl, ⟨⟨_, unhide BW⟩, rfl⟩, ?_⟩
  refine Reg.mix_take 2 (by kernel_rfl) ?_
  simp only [List.take_succ_cons, List.take_zero, List.drop_succ_cons, List.drop_zero]
  repeat (go_big_quiet_step (fail))
  refine wpQuiet_nil ?_
  refine Reg.mix_nil ?_
  go_wp2_with fail
  go_ret
  exact ⟨rfl, (unhide HB).trans ((unhide BW).mono (unhide HB).size)⟩
end Go.Proofs.YtmmldoleillelaaDoor.Sp
