/- start.Request. -/
import Derived.Test.YtfkobhagdjaleaaGreatDoorA5
namespace Go.Proofs.YtfkobhagdjaleaaGreatDoor.Sp
open Go.RowKit

def reqOK (l : List UInt8) : Bool := (cutS 32 l).2.2 && (cutS 32 (cutS 32 l).2.1).2.2 && tokenS (cutS 32 l).1 && seenS (cutS 32 (cutS 32 l).2.1).1
def reqV (l : List UInt8) : Int × Int := ver (cutS 32 (cutS 32 l).2.1).2.1
/-- the method, the target, the version's second number, the status -/
def req (l : List UInt8) : List UInt8 × List UInt8 × Int × Int :=
  if reqOK l = true then (if (reqV l).2 = 0 then ((cutS 32 l).1, (cutS 32 (cutS 32 l).2.1).1, reqV l) else ([], [], reqV l)) else ([], [], 0, 400)


def ReqPost (s : ByteArray) (w : World) (e : Ending) (w' : World) : Prop :=
  e = .returned (.tuple #[.string ⟨(req s.data.toList).1.toArray⟩, .string ⟨(req s.data.toList).2.1.toArray⟩, .int .i64 (req s.data.toList).2.2.1, .int .i64 (req s.data.toList).2.2.2]) ∧ Below w.heap.size w w'

theorem req_bad (s : ByteArray) (w w' : World) (h : reqOK s.data.toList = false) (hb : Below w.heap.size w w') : ReqPost s w (.returned (.tuple #[.string ⟨#[]⟩, .string ⟨#[]⟩, .int .i64 0, .int .i64 400])) w' := by
  unfold ReqPost req
  rw [h]
  exact ⟨rfl, hb⟩

theorem req_ok (s m t : ByteArray) (p : Int × Int) (w w' : World) (h : reqOK s.data.toList = true) (hv : reqV s.data.toList = p) (h0 : p.2 = 0) (hm : m.data.toList = (cutS 32 s.data.toList).1) (ht : t.data.toList = (cutS 32 (cutS 32 s.data.toList).2.1).1) (hb : Below w.heap.size w w') :
    ReqPost s w (.returned (.tuple #[.string m, .string t, .int .i64 p.1, .int .i64 p.2])) w' := by
  unfold ReqPost req
  rw [if_pos h, hv, if_pos h0, ← hm, ← ht]
  exact ⟨rfl, hb⟩
theorem req_ver (s : ByteArray) (p : Int × Int) (w w' : World) (h : reqOK s.data.toList = true) (hv : reqV s.data.toList = p) (h0 : ¬ p.2 = 0) (hb : Below w.heap.size w w') :
    ReqPost s w (.returned (.tuple #[.string ⟨#[]⟩, .string ⟨#[]⟩, .int .i64 p.1, .int .i64 p.2])) w' := by
  unfold ReqPost req
  rw [if_pos h, hv, if_neg h0]
  exact ⟨rfl, hb⟩

set_option maxHeartbeats 1000000 in
theorem request_any (s : ByteArray) (hs : s.size < 4294967281) (w : World) (hM : MaxV w) :
    Calls Tryz.prog 8 #[.string s] w (ReqPost s w) := by
  obtain ⟨m, hm⟩ := of_list (cutS 32 s.data.toList).1
  obtain ⟨r, hr⟩ := of_list (cutS 32 s.data.toList).2.1
  obtain ⟨t, ht⟩ := of_list (cutS 32 r.data.toList).1
  obtain ⟨v, hv⟩ := of_list (cutS 32 r.data.toList).2.1
  have hl := cutS_len 32 s.data.toList
  have hl2 := cutS_len 32 r.data.toList
  have sm := size_list hm
  have sr := size_list hr
  have zs : s.data.toList.length = s.size := by simp
  have zr : r.data.toList.length = r.size := by simp
  have hrs : r.size < 4294967281 := by omega
  have hms : m.size ≤ 9223372036854775807 := by omega
  clear sm sr zs zr hl hl2
  obtain ⟨ok, hok⟩ : ∃ b, b = (cutS 32 s.data.toList).2.2 := ⟨_, rfl⟩
  obtain ⟨is, his⟩ : ∃ b, b = (cutS 32 r.data.toList).2.2 := ⟨_, rfl⟩
  have hO : reqOK s.data.toList = (ok && is && tokenS m.data.toList && seenS t.data.toList) := by
    unfold reqOK; rw [← hr, ← hm, ← ht, ← hok, ← his]
  have hV : reqV s.data.toList = ver v.data.toList := by unfold reqV; rw [← hr, ← hv]
  have c1 := hide (fun w => cut_any s 32 m r ok hm hr hok hs w)
  have c2 := hide (fun w => cut_any r 32 t v is ht hv his hrs w)
  have HM := hide hM
  have HO := Lib.hid hO
  have HV := Lib.hid hV
  have E1 := Lib.hid hm
  have E2 : Hid (t.data.toList = (cutS 32 (cutS 32 s.data.toList).2.1).1) := Lib.hid (by rw [ht, hr])
  clear hO hV hm hr ht hv hok his hM
  go_enter Tryz.func8, Tryz.ntmps8
  go_wp2_with fail
  refine (unhide c1 _ (unhide HM)).mono ?_; rintro e w1 ⟨rfl, hb1⟩
  have HM1 := hide ((unhide HM).below hb1)
  go_wp2_with fail
  refine (unhide c2 _ (unhide HM1)).mono ?_; rintro e w2 ⟨rfl, hb2⟩
  have hb := hb1.trans (hb2.mono hb1.size)
  clear hb1 hb2 HM HM1 c1 c2
  cases ok
  · go_wp2_with fail
    refine bodyPost_ret (Mem.results_tmp4 Tryz.results8 _ _ _) rfl ?_
    exact req_bad s w _ (by rw [HO.out]; rfl) hb
  cases is
  · go_wp2_with fail
    refine bodyPost_ret (Mem.results_tmp4 Tryz.results8 _ _ _) rfl ?_
    exact req_bad s w _ (by rw [HO.out]; rfl) hb
  go_wp2_with fail
  refine (token_any m hms _).mono ?_; rintro e w3 ⟨rfl, hb3⟩
  replace hb := hb.trans (hb3.mono hb.size)
  clear hb3
  cases hT : tokenS m.data.toList
  · go_wp2_with fail
    refine bodyPost_ret (Mem.results_tmp4 Tryz.results8 _ _ _) rfl ?_
    exact req_bad s w _ (by rw [HO.out, hT]; rfl) hb
  go_wp2_with fail
  refine (seen_any t _).mono ?_; rintro e w4 ⟨rfl, hb4⟩
  replace hb := hb.trans (hb4.mono hb.size)
  clear hb4
  cases hS : seenS t.data.toList
  · go_wp2_with fail
    refine bodyPost_ret (Mem.results_tmp4 Tryz.results8 _ _ _) rfl ?_
    exact req_bad s w _ (by rw [HO.out, hT, hS]; rfl) hb
  have hO : reqOK s.data.toList = true := by rw [HO.out, hT, hS]; rfl
  have HO2 := Lib.hid hO
  clear hT hS hO HO
  go_wp2_with fail
  refine (version_any v _).mono ?_; rintro e w5 ⟨rfl, rfl⟩
  by_cases h0 : (ver v.data.toList).2 = 0
  · have H0 := Lib.hid h0
    have h0' : ((ver v.data.toList).2 == 0) = true := by rw [h0]; rfl
    clear h0
    go_wp2_with fail
    refine bodyPost_ret (Mem.results_tmp4 Tryz.results8 _ _ _) rfl ?_
    exact req_ok s m t _ w _ HO2.out (by rw [HV.out]) H0.out E1.out E2.out hb
  · have H0 := Lib.hid h0
    have h0' : ((ver v.data.toList).2 == 0) = false := by simp [h0]
    clear h0
    go_wp2_with fail
    refine bodyPost_ret (Mem.results_tmp4 Tryz.results8 _ _ _) rfl ?_
    exact req_ver s _ w _ HO2.out (by rw [HV.out]) H0.out hb
end Go.Proofs.YtfkobhagdjaleaaGreatDoor.Sp
