/- The walk of the law StartVersions. -/
import Derived.Test.YtfkobhagdjaleaaA9
namespace Go.Proofs.Ytfkobhagdjaleaa.Sp
open Go.RowKit

def getL : List UInt8 := [71, 69, 84]
def reqOf (p : Int × Int) : List UInt8 × List UInt8 × Int × Int := if p.2 = 0 then (getL, [47], p) else ([], [], p)
theorem req_v (v : List UInt8) : req (71 :: 69 :: 84 :: 32 :: 47 :: 32 :: v) = reqOf (ver v) := by
  have h1 : cutS 32 (71 :: 69 :: 84 :: 32 :: 47 :: 32 :: v) = (getL, 47 :: 32 :: v, true) := by simp [cutS, getL]
  have h2 : cutS 32 (47 :: 32 :: v) = ([47], v, true) := by simp [cutS]
  have hO : reqOK (71 :: 69 :: 84 :: 32 :: 47 :: 32 :: v) = true := by
    unfold reqOK; rw [h1, h2]
    have a1 : tokenS getL = true := by decide +kernel
    have a2 : seenS [47] = true := by decide +kernel
    simp only [a1, a2]; rfl
  have hV : reqV (71 :: 69 :: 84 :: 32 :: 47 :: 32 :: v) = ver v := by unfold reqV; rw [h1, h2]
  unfold req reqOf
  rw [if_pos hO, hV, h1, h2]
theorem ver_abc (a b c : UInt8) : ver [72, 84, 84, 80, 47, a, b, c] = verC a b c := by
  unfold ver
  rw [if_pos ⟨rfl, rfl⟩]
  rfl
theorem ver_right {l : List UInt8} (h : (ver l).2 ≠ 400) : l.length = 8 ∧ l.take 5 = verP ∧ (l.getD 6 0).toNat = 46 ∧ digI (l.getD 5 0).toNat = true ∧ digI (l.getD 7 0).toNat = true := by
  unfold ver at h
  by_cases h1 : Lib.hasPrefix l verP = true ∧ (l.drop 5).length = 3
  · rw [if_pos h1] at h
    obtain ⟨h1, h2⟩ := h1
    have hl : l.length = 8 := by rw [List.length_drop] at h2; omega
    have ht : l.take 5 = verP := by
      have := Lib.hasPrefix_of_take l verP
      rw [h1] at this
      simp only [Bool.and_eq_true, beq_iff_eq] at this
      exact this.2
    by_cases hc : digI (l.getD 5 0).toNat = true ∧ (l.getD 6 0).toNat = 46 ∧ digI (l.getD 7 0).toNat = true
    · exact ⟨hl, ht, hc.2.1, hc.1, hc.2.2⟩
    · rw [verC_bad hc] at h; exact absurd rfl h
  · rw [if_neg h1] at h; exact absurd rfl h
theorem getD_at (s : ByteArray) (i : Nat) (h : i < s.size) : s.data.toList.getD i 0 = s[i] := by
  have : i < s.data.toList.length := by simpa using h
  rw [List.getD_eq_getElem?_getD, List.getElem?_eq_getElem this]
  rfl

theorem reqOf_bad {p : Int × Int} (h : p.2 ≠ 0) : reqOf p = ([], [], p.1, p.2) := by unfold reqOf; rw [if_neg h]
theorem reqOf_ok {p : Int × Int} (h : p.2 = 0) : reqOf p = (getL, [47], p.1, p.2) := by unfold reqOf; rw [if_pos h]

/-- The second half: a line with any text for its version. -/
theorem request_v (v s : ByteArray) (hs : s.data.toList = 71 :: 69 :: 84 :: 32 :: 47 :: 32 :: v.data.toList) (hv : s.size < 4294967281) (w : World) (hM : MaxV w) :
    ∃ m t : ByteArray, Calls Try.prog 10 #[.string s] w fun e w' => e = .returned (.tuple #[.string m, .string t, .int .i64 (ver v.data.toList).1, .int .i64 (ver v.data.toList).2]) ∧ Below w.heap.size w w' := by
  by_cases h : (ver v.data.toList).2 = 0
  · exact ⟨⟨getL.toArray⟩, ⟨#[47]⟩, request_at s _ _ _ _ (by rw [hs, req_v, reqOf_ok h]) hv w hM⟩
  · exact ⟨⟨#[]⟩, ⟨#[]⟩, request_at s _ _ _ _ (by rw [hs, req_v, reqOf_bad h]) hv w hM⟩

def digsB (a b : UInt8) : Bool := decide (digI a.toNat = true ∧ digI b.toNat = true)
def knownB (a b : UInt8) : Bool := decide (a.toNat = 49 ∧ (b.toNat = 48 ∨ b.toNat = 49))
theorem known_cases (a b : UInt8) : (digsB a b = true ∧ knownB a b = true ∧ 48 ≤ b.toNat ∧ b.toNat ≤ 49 ∧ verC a 46 b = ((b.toNat : Int) - 48, 0)) ∨
    (digsB a b = true ∧ knownB a b = false ∧ verC a 46 b = (0, 505)) ∨
    (digsB a b = false ∧ knownB a b = false ∧ verC a 46 b = (0, 400)) := by
  by_cases h : digI a.toNat = true ∧ digI b.toNat = true
  · have hd : digsB a b = true := decide_eq_true h
    obtain ⟨h1, h2⟩ := h
    have b1 := digI_t h2
    by_cases h3 : a.toNat ≠ 49 ∨ 49 < b.toNat
    · exact .inr (.inl ⟨hd, decide_eq_false (by omega), verC_other ⟨h1, rfl, h2⟩ h3⟩)
    · exact .inl ⟨hd, decide_eq_true (by omega), by omega, by omega, verC_ok ⟨h1, rfl, h2⟩ h3⟩
  · exact .inr (.inr ⟨decide_eq_false h, decide_eq_false (fun k => h ⟨by unfold digI; simp; omega, by unfold digI; simp; omega⟩), verC_bad (fun k => h ⟨k.1, k.2.2⟩)⟩)

set_option maxRecDepth 100000 in
set_option maxHeartbeats 2000000 in
theorem vers_long (a b : UInt8) (v : ByteArray) (hl : 20 < v.size) (hm : v.size ≤ 9223372036854775807) (w : World) (hM : MaxV w) :
    Calls Try.prog 4 #[.int .u8 a.toNat, .int .u8 b.toNat, .string v] w fun e w' => e = .returned (.bool true) ∧ Below w.heap.size w w' := by
  have cL := hide (lives_any w hM)
  clear hM
  go_enter Try.func4, Try.ntmps4
  go_wp2_with fail
  refine (unhide cL).mono ?_; rintro e w1 ⟨rfl, hb⟩
  go_wp2_with fail
  go_ret
  exact ⟨rfl, hb⟩

set_option maxRecDepth 100000 in
set_option maxHeartbeats 4000000 in
theorem vers_any (a b : UInt8) (v : ByteArray) (hl : v.size ≤ 20) (w : World) (hM : MaxV w) :
    Calls Try.prog 4 #[.int .u8 a.toNat, .int .u8 b.toNat, .string v] w fun e w' => e = .returned (.bool true) ∧ Below w.heap.size w w' := by
  have cL := hide (lives_any w hM)
  have HM := hide hM
  have hK := known_cases a b
  have la := a.toNat_lt
  have lb := b.toNat_lt
  clear hM
  go_enter Try.func4, Try.ntmps4
  go_wp2_with fail
  refine (unhide cL).mono ?_; rintro e w1 ⟨rfl, hb⟩
  replace HM := hide ((unhide HM).below hb)
  clear cL
  go_upto_region 5 with fail
  go_cut [7] (fun x wc => x = .bool (digsB a b) ∧ w1 = wc)
  case first =>
    clear hb hK
    go_wp2_with fail
    all_goals go_meet
    all_goals refine ⟨?_, rfl⟩
    all_goals refine congrArg Value.bool ?_
    all_goals (unfold digsB digI; simp only [decide_eq_true_eq]; (first | (with_reducible refine dec_t ?_; omega) | (with_reducible refine dec_f ?_; omega) | (with_reducible refine dec_d ?_; omega) | (with_reducible refine dec_e ?_; omega) | (with_reducible refine dec_n ?_; omega) | (with_reducible refine dec_nd ?_; omega)))
  case rest =>
  obtain ⟨rfl, rfl⟩ := hcut
  go_upto_region 6 with fail
  go_cut [8] (fun x wc => x = .bool (knownB a b) ∧ w1 = wc)
  case first =>
    clear hb hK
    go_wp2_with fail
    all_goals go_meet
    all_goals refine ⟨?_, rfl⟩
    all_goals refine congrArg Value.bool ?_
    all_goals (unfold knownB; (first | (with_reducible refine dec_t ?_; omega) | (with_reducible refine dec_f ?_; omega) | (with_reducible refine dec_d ?_; omega) | (with_reducible refine dec_e ?_; omega) | (with_reducible refine dec_n ?_; omega) | (with_reducible refine dec_nd ?_; omega)))
  case rest =>
  obtain ⟨rfl, rfl⟩ := hcut
  have hx : (⟨#[71, 69, 84, 32, 47, 32, 72, 84, 84, 80, 47]⟩ ++ (⟨([a, 46, b] : List UInt8).toArray⟩ : ByteArray) : ByteArray).data.toList = 71 :: 69 :: 84 :: 32 :: 47 :: 32 :: [72, 84, 84, 80, 47, a, 46, b] := by rw [app_data]; rfl
  have hxs : (⟨#[71, 69, 84, 32, 47, 32, 72, 84, 84, 80, 47]⟩ ++ (⟨([a, 46, b] : List UInt8).toArray⟩ : ByteArray) : ByteArray).size < 4294967281 := by
    rw [size_list hx]; simp
  have hy : (⟨#[71, 69, 84, 32, 47, 32]⟩ ++ v : ByteArray).data.toList = 71 :: 69 :: 84 :: 32 :: 47 :: 32 :: v.data.toList := by rw [app_data]; rfl
  have hys : (⟨#[71, 69, 84, 32, 47, 32]⟩ ++ v : ByteArray).size < 4294967281 := by
    rw [size_list hy]
    have : v.data.toList.length = v.size := by simp
    simp; omega
  have cX := hide (fun w hM => request_v ⟨([72, 84, 84, 80, 47, a, 46, b] : List UInt8).toArray⟩ _ hx hxs w hM)
  have cY := hide (fun w hM => request_v v _ hy hys w hM)
  clear hx hxs hy hys
  have HB := Reg.Has.at w1 w1.heap.size (Mem.bytesV [a, 46, b]) 5 rfl
  go_wp2_with (refine Mem.wpList_text rfl 32 9 5 _ rfl _ _ _ [a, 46, b] rfl Try.underlying32 Try.underlying9 Try.underlying5 rfl HB ?_)
  have hbA : Below w1.heap.size w1 (w1.alloc (.cells #[.int .u8 a.toNat, .int .u8 46, .int .u8 b.toNat] 5)) := (Below.refl _ _).alloc (Nat.le_refl _) _
  obtain ⟨m, t, c⟩ := unhide cX _ ((unhide HM).below hbA)
  refine c.mono ?_; rintro e w2 ⟨rfl, hb2⟩
  replace HM := hide (((unhide HM).below hbA).below hb2)
  replace hb := (hb.trans (hbA.mono hb.size)).trans (hb2.mono (by simp; have := hb.size; omega))
  clear hb2 hbA c cX HB
  rw [ver_abc]
  rcases hK with ⟨hd, hk, h4, h5, hv⟩ | ⟨hd, hk, hv⟩ | ⟨hd, hk, hv⟩
  all_goals
    rw [hv]
    clear hv
    go_wp2_with fail
  all_goals
    obtain ⟨m2, t2, c2⟩ := unhide cY _ (unhide HM)
    refine c2.mono ?_; rintro e w3 ⟨rfl, hb3⟩
    replace hb := hb.trans (hb3.mono hb.size)
    clear hb3 c2 cY HM
    by_cases h4 : (ver v.data.toList).2 = 400
    · have h4' : ((ver v.data.toList).2 == 400) = true := by rw [h4]; rfl
      clear h4
      go_upto_region 16 with fail
      go_cut [18] (fun x wc => ∃ r : Bool, x = .bool r ∧ w3 = wc)
      case first =>
        clear hb h4'
        go_wp2_with fail
        all_goals go_meet
        all_goals exact ⟨_, rfl, rfl⟩
      case rest =>
      obtain ⟨r, rfl, rfl⟩ := hcut
      cases r
      all_goals
        go_wp2_with fail
        go_ret
        exact ⟨rfl, hb⟩
    · obtain ⟨r1, r2, r3, r4, r5⟩ := ver_right h4
      have z8 : v.size = 8 := by rw [← r1]; simp
      have k5 : 5 < v.size := by omega
      have k6 : 6 < v.size := by omega
      have k7 : 7 < v.size := by omega
      have hp : ((v.extract 0 5).toList == [72, 84, 84, 80, 47]) = true := by
        rw [Lib.toList_data, Lib.extract_data]
        show (v.data.toList.take 5 == verP) = true
        rw [r2]; rfl
      rw [getD_at v 6 k6] at r3
      rw [getD_at v 5 k5] at r4
      rw [getD_at v 7 k7] at r5
      have q5 := digI_t r4
      have q7 := digI_t r5
      have q6 : (((v[6]'k6).toNat : Int) == 46) = true := by rw [r3]; rfl
      clear r1 r2 r3 r4 r5 h4
      go_wp2_with fail
      go_ret
      exact ⟨rfl, hb⟩
end Go.Proofs.Ytfkobhagdjaleaa.Sp
