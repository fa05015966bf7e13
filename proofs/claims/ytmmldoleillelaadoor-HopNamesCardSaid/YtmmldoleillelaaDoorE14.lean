/- Closes, by both. -/
import Derived.Test.YtmmldoleillelaaDoorE5
namespace Go.Proofs.YtmmldoleillelaaDoor.Sp
open Go.RowKit Sl Go.Maps

def closeB : ByteArray := ⟨#[99, 108, 111, 115, 101]⟩
def keepaB : ByteArray := ⟨#[107, 101, 101, 112, 45, 97, 108, 105, 118, 101]⟩
def closesM (M : List ByteArray) (mi : Int) : Bool := M.any (samN closeB) || (decide (mi = 0) && !M.any (samN keepaB))
def closesS (F : List Fld) (mi : Int) : Bool := closesM (listB F connB) mi
theorem has_low (M : List ByteArray) (x : ByteArray) (hx : lower x.data.toList = x.data.toList) : Maps.has (setL (M.map low)) (keyL x) = M.any (samN x) := by
  rw [has_setL, List.any_map]
  unfold samN same
  rw [hx]
  rfl

set_option maxRecDepth 100000 in
set_option maxHeartbeats 2000000 in
theorem closes_any (me ta re bo : ByteArray) (st mi : Int) (fs tr : Value) (F T : List Fld) (hF : Few F) (w : World) (hv : Rd w fs F.length 2 (fldV F)) (hu : Rd w tr T.length 2 (fldV T)) :
    Calls Tryd.prog 26 #[.agg (msgV me ta st re mi fs bo tr)] w fun e w' => e = .returned (.bool (closesS F mi)) ∧ Below w.heap.size w w' := by
  obtain ⟨ao, cap, rfl⟩ := hv.form
  obtain ⟨bo', caq, rfl⟩ := hu.form
  have hfew := listB_few hF connB
  have HB0 := hide ((Below.refl w.heap.size w).alloc (Nat.le_refl _) (.cells #[.string me, .string ta, .int .i64 st, .string re, .int .i64 mi, .slice ao F.length cap, .string bo, .slice bo' T.length caq] 24))
  have hlist := hide (fun w' (h : Below w.heap.size w w') => flist_any _ F connB hF (by decide) w' (hv.below h))
  have hcl : closesS F mi = closesM (listB F connB) mi := rfl
  rw [hcl]
  obtain ⟨M, hM⟩ : ∃ M, listB F connB = M := ⟨_, rfl⟩
  rw [hM] at hlist hfew ⊢
  obtain ⟨c, hc⟩ : ∃ c, M.any (samN closeB) = c := ⟨_, rfl⟩
  obtain ⟨p, hp⟩ : ∃ p, M.any (samN keepaB) = p := ⟨_, rfl⟩
  have h1 := has_low M closeB (by decide +kernel)
  have h2 := has_low M keepaB (by decide +kernel)
  rw [hc] at h1
  rw [hp] at h2
  have hfin : closesM M mi = (c || (decide (mi = 0) && !p)) := by unfold closesM; rw [hc, hp]
  rw [hfin]
  have HH1 := Lib.hid h1
  have HH2 := Lib.hid h2
  have HFEW := hide hfew
  have HK1 := Lib.hid (keyB closeB (by decide))
  have HK2 := Lib.hid (keyB keepaB (by decide))
  have x5 : ∀ w1, Below (w.alloc (.cells #[.string me, .string ta, .int .i64 st, .string re, .int .i64 mi, .slice ao F.length cap, .string bo, .slice bo' T.length caq] 24)).heap.size (w.alloc (.cells #[.string me, .string ta, .int .i64 st, .string re, .int .i64 mi, .slice ao F.length cap, .string bo, .slice bo' T.length caq] 24)) w1 → w1.cell? ⟨w.heap.size, 4, none⟩ = some (.int .i64 mi) := by
    intro w1 hb
    refine cell_call hb ?_
    rw [World.cell?_alloc_at _ _ _ _ rfl]
    simp
  have X5 := hide x5
  clear hv hu hM hc hp h1 h2 hfin hfew hF hcl x5
  unfold msgV
  go_enter Tryd.func26, Tryd.ntmps26
  go_wp2_with (first
    | (at_lookup; refine wpList_lookup_own_unit _ rfl _ _ 49 rfl 9 52 (string_keyed Tryd.underlying9) Tryd.underlying49 (zeroU _) b M.length _ rfl ((unhide S2).call ((Below.refl _ _).alloc (Nat.le_refl _) _)) _ _ rfl HK2.out ?_; rw [HH2.out])
    | (at_lookup; refine wpList_lookup_own_unit _ rfl _ _ 49 rfl 9 52 (string_keyed Tryd.underlying9) Tryd.underlying49 (zeroU _) b M.length _ rfl (unhide S2) _ _ rfl HK1.out ?_; rw [HH1.out])
    | (go_at_call 34; refine (unhide hlist _ (unhide HB0)).mono ?_; rintro e w1 ⟨v1, rfl, ho1, hb1⟩; obtain ⟨co, cq, rfl⟩ := (Rd.own ho1).form; have B1 := hide hb1; have hnm := hide (names_any _ M (unhide HFEW) w1 (Rd.own ho1)); clear ho1 hb1)
    | (go_at_call 33; refine (unhide hnm).mono ?_; rintro e w2 ⟨b, rfl, hs2, hb2⟩; have B2 := hide ((unhide B1).trans (hb2.mono (unhide B1).size)); have S2 := hide hs2; have y5 := unhide X5 w2 (unhide B2); have z5 : w.heap.size < w2.heap.size := World.block_lt_of_cell? w2 ⟨w.heap.size, 4, none⟩ y5; clear hs2 hb2))
  all_goals go_ret
  all_goals
    have hb0 := unhide HB0
    have hb2 := unhide B2
    have hq := hb0.trans (hb2.mono hb0.size)
    refine ⟨ret_bool ?_, by exact (by repeat (first | (with_reducible exact Below.refl _ _) | (with_reducible assumption) | (with_reducible refine Below.drew ?_) | (with_reducible refine below_drewN ?_ _) | ((with_reducible refine bAlloc ?_ ?_ _); focus (first | omega | (simp; done) | (simp; omega))) | ((with_reducible refine bSet ?_ ?_ _); focus (first | omega | (simp; done) | (simp; omega))) | (refine Below.trans ?_ (Below.mono (by with_reducible assumption) (by first | omega | (simp; done) | (simp; omega))))))⟩
  all_goals (clear HB0 X5 B2 HFEW hnm S2 hlist hb0 hb2 hq B1; simp_all)

def closesK (M : List ByteArray) (mi : Int) (k : Nat) : Bool := decide (mi ≠ 0) || (M.take k).any (samN keepaB)
set_option maxRecDepth 100000 in
set_option maxHeartbeats 2000000 in
theorem rcloses_any (me ta re bo : ByteArray) (st mi : Int) (fs tr : Value) (F T : List Fld) (hF : Few F) (w : World) (hv : Rd w fs F.length 2 (fldV F)) (hu : Rd w tr T.length 2 (fldV T)) :
    Calls Tryd.prog 31 #[.agg (msgV me ta st re mi fs bo tr)] w fun e w' => e = .returned (.bool (closesS F mi)) ∧ Below w.heap.size w w' := by
  obtain ⟨ao, cap, rfl⟩ := hv.form
  obtain ⟨bo', caq, rfl⟩ := hu.form
  have hfew := listB_few hF connB
  have HB0 := hide ((Below.refl w.heap.size w).alloc (Nat.le_refl _) (.cells #[.string me, .string ta, .int .i64 st, .string re, .int .i64 mi, .slice ao F.length cap, .string bo, .slice bo' T.length caq] 24))
  have hlist := hide (fun w' (h : Below w.heap.size w w') => rlist_any _ F connB hF (by decide) w' (hv.below h))
  have hcl : closesS F mi = closesM (listB F connB) mi := rfl
  rw [hcl]
  obtain ⟨M, hM⟩ : ∃ M, listB F connB = M := ⟨_, rfl⟩
  rw [hM] at hlist hfew ⊢
  have HFEW := hide hfew
  have hml := hfew.1
  have x5 : ∀ w1, Below (w.alloc (.cells #[.string me, .string ta, .int .i64 st, .string re, .int .i64 mi, .slice ao F.length cap, .string bo, .slice bo' T.length caq] 24)).heap.size (w.alloc (.cells #[.string me, .string ta, .int .i64 st, .string re, .int .i64 mi, .slice ao F.length cap, .string bo, .slice bo' T.length caq] 24)) w1 → w1.cell? ⟨w.heap.size, 4, none⟩ = some (.int .i64 mi) := by
    intro w1 hb
    refine cell_call hb ?_
    rw [World.cell?_alloc_at _ _ _ _ rfl]
    simp
  have X5 := hide x5
  obtain ⟨nz, hnz⟩ : ∃ nz : Bool, (mi != 0) = nz := ⟨_, rfl⟩
  have HNZ := Lib.hid hnz
  clear hv hu hM hfew hF hcl x5
  unfold msgV
  go_enter Tryd.func31, Tryd.ntmps31
  go_wp2_with (go_at_call 11; refine (unhide hlist _ (unhide HB0)).mono ?_; rintro e w1 ⟨v1, rfl, ho1, hb1⟩; obtain ⟨co, cq, rfl⟩ := (Rd.own ho1).form; have R1 := hide (Rd.own ho1); have y5 := unhide X5 w1 hb1; have B1 := hide ((unhide HB0).trans (hb1.mono (by simp))); clear ho1 hb1)
  clear X5 hnz
  go_loopw [4, 5] (fun g i wr => ∃ k : Nat, i = .int .i64 k ∧ k ≤ M.length ∧ g = .bool (nz || (M.take k).any (samN keepaB)) ∧ (M.take k).any (samN closeB) = false ∧ Below w1.heap.size w1 wr) (fun _ i _ => M.length - (intOf i).toNat)
  case atStart => exact ⟨0, rfl, Nat.zero_le _, by simp, rfl, Below.refl _ _⟩
  case round =>
    obtain ⟨k, rfl, hk, rfl, hno, hbel⟩ := hrel
    have HNO := Lib.hid hno
    have HB := hide hbel
    obtain ⟨gn, hgn⟩ : ∃ gn, (nz || (M.take k).any (samN keepaB)) = gn := ⟨_, rfl⟩
    rw [hgn]
    have HG := Lib.hid hgn
    clear hno hgn
    rcases Nat.lt_or_ge k M.length with hlt | hge
    · obtain ⟨b, off, rfl, hb, c1⟩ := str_cell ((unhide R1).below hbel) k hlt
      have hsz := (unhide HFEW).2 M[k] (List.getElem_mem _)
      have HT1 := Lib.hid (any_take M (samN closeB) k hlt)
      have HT2 := Lib.hid (any_take M (samN keepaB) k hlt)
      have HM := Lib.hid (List.getElem_mem hlt)
      obtain ⟨x, hx⟩ : ∃ x, M[k] = x := ⟨_, rfl⟩
      rw [hx] at c1 hsz HT1 HT2 HM
      clear hx hbel
      have hc1 := hide (rsame_any x closeB (by omega) (by decide))
      have hc2 := hide (rsame_any x keepaB (by omega) (by decide))
      obtain ⟨sc, hsc⟩ : ∃ sc, same x.data.toList closeB.data.toList = sc := ⟨_, rfl⟩
      obtain ⟨sk, hsk⟩ : ∃ sk, same x.data.toList keepaB.data.toList = sk := ⟨_, rfl⟩
      rw [hsc] at hc1
      rw [hsk] at hc2
      have HSC := Lib.hid (show samN closeB x = sc from hsc)
      have HSK := Lib.hid (show samN keepaB x = sk from hsk)
      clear hsc hsk
      cases sc
      · cases gn
        all_goals
          go_upto_region 8 with (go_at_call 13; refine (unhide hc1 _).mono ?_; rintro e w2 ⟨rfl, hb2⟩; have d1 := cell_call hb2 c1; have hbz := Nat.lt_of_lt_of_le hb hb2.size; have HB := hide ((unhide HB).trans (hb2.mono (unhide HB).size)); clear hb2)
          go_wp2_with (go_at_call 13; refine (unhide hc2 _).mono ?_; rintro e w3 ⟨rfl, hb3⟩; have HB := hide ((unhide HB).trans (hb3.mono (unhide HB).size)); clear hb3)
          go_roundw
          case rel =>
            refine ⟨k + 1, by go_num, by omega, ?_, by rw [HT1.out, HNO.out, HSC.out]; rfl, unhide HB⟩
            rw [HT2.out, ← Bool.or_assoc, HG.out, HSK.out]; rfl
          case measure => simp [intOf]; omega
      · have hfin : closesM M mi = true := by
          unfold closesM
          rw [Bool.or_eq_true]
          exact .inl (List.any_eq_true.2 ⟨x, HM.out, HSC.out⟩)
        have HF := Lib.hid hfin
        clear hfin
        go_wp2_with (go_at_call 13; refine (unhide hc1 _).mono ?_; rintro e w2 ⟨rfl, hb2⟩; have HB := hide ((unhide HB).trans (hb2.mono (unhide HB).size)); clear hb2)
        go_ret
        exact ⟨by rw [HF.out] <;> rfl, (unhide B1).trans ((unhide HB).mono (unhide B1).size)⟩
    · have h1 := HNO.out
      have h2 := HG.out
      rw [List.take_of_length_le hge] at h1 h2
      have hfin : closesM M mi = !gn := by
        unfold closesM
        rw [h1, ← h2, ← HNZ.out]
        by_cases hz : mi = 0 <;> simp [hz]
      have HF := Lib.hid hfin
      clear h1 h2 hfin hbel
      go_wp2_with fail
      go_ret
      exact ⟨by rw [HF.out] <;> rfl, (unhide B1).trans ((unhide HB).mono (unhide B1).size)⟩
end Go.Proofs.YtmmldoleillelaaDoor.Sp
