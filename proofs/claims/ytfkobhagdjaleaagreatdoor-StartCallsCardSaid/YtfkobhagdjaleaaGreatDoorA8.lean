/- start.Target. -/
import Derived.Test.YtfkobhagdjaleaaGreatDoorA7
import Derived.Lib.IndexAny
namespace Go.Proofs.YtfkobhagdjaleaaGreatDoor.Sp
open Go.RowKit

/-! ### plain -/
def httpL : List UInt8 := [104, 116, 116, 112, 58, 47, 47]
def connectL : List UInt8 := [67, 79, 78, 78, 69, 67, 84]
def optionsL : List UInt8 := [79, 80, 84, 73, 79, 78, 83]
def isAbs (l : List UInt8) : Bool := decide (7 < l.length) && same (l.take 7) httpL
def restT (l : List UInt8) : List UInt8 := if isAbs l = true then l.drop 7 else []
def notEnd (c : UInt8) : Bool := c != 47 && c != 63
def hostOf (r : List UInt8) : List UInt8 := r.takeWhile notEnd
def restOf (r : List UInt8) : List UInt8 := r.dropWhile notEnd
def pathOf (p : List UInt8) : List UInt8 := if Lib.hasPrefix p [47] = true then p else 47 :: p
def tbad : (Int × List UInt8 × List UInt8) × Int := ((0, [], []), 400)
def absT (r : List UInt8) : (Int × List UInt8 × List UInt8) × Int := if (portS (hostOf r)).2 = true then ((2, lower (hostOf r), pathOf (restOf r)), 0) else tbad
def hashN (l : List UInt8) : Int := Lib.indexByte l 35
def tgt (m l : List UInt8) : (Int × List UInt8 × List UInt8) × Int :=
  if seenS l = false then tbad
  else if 0 ≤ hashN l then tbad
  else if (m == connectL) = true then (if (portS l).2 = true ∧ 0 < (portS l).1 then ((3, lower l, []), 0) else tbad)
  else if (m == optionsL) = true ∧ (l == [42]) = true then ((4, [], []), 0)
  else if l.getD 0 0 = 47 then ((1, [], l), 0)
  else if restT l = [] then tbad
  else absT (restT l)

theorem any_host : ∀ r : List UInt8, (hostOf r = r ∧ restOf r = [] ∧ Lib.indexAny r [47, 63] = -1) ∨ (∃ i : Nat, i < r.length ∧ Lib.indexAny r [47, 63] = i ∧ hostOf r = r.take i ∧ restOf r = r.drop i)
  | [] => .inl ⟨rfl, rfl, rfl⟩
  | c :: t => by
    unfold hostOf restOf Lib.indexAny
    by_cases hc : notEnd c = true
    · have h1 : ([47, 63] : List UInt8).contains c = false := by
        unfold notEnd at hc
        simp at hc ⊢
        exact hc
      rw [List.takeWhile_cons_of_pos hc, List.dropWhile_cons_of_pos hc, h1]
      simp only [Bool.false_eq_true, if_false]
      rcases any_host t with ⟨a, b, d⟩ | ⟨i, hi, a, b, d⟩
      · left
        unfold hostOf at a; unfold restOf at b
        rw [a, b, d]
        exact ⟨rfl, rfl, rfl⟩
      · right
        unfold hostOf at b; unfold restOf at d
        have hne : (Lib.indexAny t [47, 63] == -1) = false := by rw [a]; simp
        refine ⟨i + 1, by simp; omega, ?_, by rw [b]; rfl, by rw [d]; rfl⟩
        rw [hne, a]; simp
    · have h1 : ([47, 63] : List UInt8).contains c = true := by
        unfold notEnd at hc
        simp at hc ⊢
        by_cases h : c = 47
        · exact .inl h
        · exact .inr (hc h)
      rw [List.takeWhile_cons_of_neg hc, List.dropWhile_cons_of_neg hc, h1]
      exact .inr ⟨0, by simp, rfl, rfl, rfl⟩

theorem seen_ascii {l : List UInt8} (h : seenS l = true) : ∀ c ∈ l, c.toNat < 128 := by
  intro c hc
  unfold seenS at h
  rw [Bool.and_eq_true, List.all_eq_true] at h
  have := h.2 c hc
  unfold seenB at this
  simp at this
  omega

def TgtPost (m s : ByteArray) (w : World) (e : Ending) (w' : World) : Prop :=
  e = .returned (.tuple #[.agg #[.int .i64 (tgt m.data.toList s.data.toList).1.1, .string ⟨(tgt m.data.toList s.data.toList).1.2.1.toArray⟩, .string ⟨(tgt m.data.toList s.data.toList).1.2.2.toArray⟩], .int .i64 (tgt m.data.toList s.data.toList).2]) ∧ Below w.heap.size w w'
theorem tp_of {m s : ByteArray} {w w' : World} {f st : Int} {h p : ByteArray} (ht : tgt m.data.toList s.data.toList = ((f, h.data.toList, p.data.toList), st)) (hb : Below w.heap.size w w') :
    TgtPost m s w (.returned (.tuple #[.agg #[.int .i64 f, .string h, .string p], .int .i64 st])) w' := by
  unfold TgtPost
  rw [ht]
  exact ⟨rfl, hb⟩

theorem tgt_info : (Tryz.prog.info? 32).map (·.size) = some 3 := by kernel_rfl
theorem tgt_load {w : World} {b : Nat} {x0 x1 x2 : Value} (H : Reg.Has w b [x0, x1, x2]) (v0 v1 v2 : Value) :
    (loadVar 32 ⟨b, 0, none⟩).run Tryz.prog (((w.setCell ⟨b, 0, none⟩ v0).setCell ⟨b, 1, none⟩ v1).setCell ⟨b, 2, none⟩ v2) = .ok (.agg #[v0, v1, v2]) (((w.setCell ⟨b, 0, none⟩ v0).setCell ⟨b, 1, none⟩ v1).setCell ⟨b, 2, none⟩ v2) :=
  run_loadVar_mid _ b 0 _ [v0, v1, v2] _ (has_range (((H.put 0 v0).put 1 v1).put 2 v2)) Tryz.underlying32 rfl tgt_info
theorem below3 {w w' : World} {b : Nat} (hb : Below w.heap.size w w') (h : w.heap.size ≤ b) (v0 v1 v2 : Value) : Below w.heap.size w (((w'.setCell ⟨b, 0, none⟩ v0).setCell ⟨b, 1, none⟩ v1).setCell ⟨b, 2, none⟩ v2) :=
  ((hb.setCell (p := ⟨b, 0, none⟩) h v0).setCell (p := ⟨b, 1, none⟩) h v1).setCell (p := ⟨b, 2, none⟩) h v2

theorem hash_any (s : ByteArray) (w : World) : Calls Tryz.prog 36 #[.string s, .int .u8 35] w fun e w' => e = .returned (.int .i64 (hashN s.data.toList)) ∧ w = w' := by
  refine (Tryz.strings_IndexByte _ _ _).mono ?_
  rintro e w' ⟨rfl, rfl⟩
  exact ⟨rfl, rfl⟩

/-- what strings.IndexAny finds -/
def anyN (r : List UInt8) : Int := Lib.indexAny r [47, 63]
theorem any_any (r : ByteArray) (hs : r.size < 4294967281) (ha : ∀ c ∈ r.data.toList, c.toNat < 128) (w : World) :
    Calls Tryz.prog 38 #[.string r, .string ⟨#[47, 63]⟩] w fun e w' => e = .returned (.int .i64 (anyN r.data.toList)) ∧ Below w.heap.size w w' := by
  refine (Tryz.strings_IndexAny_laid r ⟨#[47, 63]⟩ w hs (by decide) (fun j b h => ha b (List.mem_of_getElem? h)) (fun j b h => ?_)).mono ?_
  · have : b ∈ ([47, 63] : List UInt8) := List.mem_of_getElem? h
    simp at this
    rcases this with rfl | rfl <;> decide
  · rintro e w' ⟨rfl, hb⟩
    exact ⟨rfl, hb⟩
theorem hp_any (s : ByteArray) (w : World) : Calls Tryz.prog 39 #[.string s, .string ⟨#[47]⟩] w fun e w' => e = .returned (.bool (Lib.hasPrefix s.data.toList [47])) ∧ w = w' := by
  refine (Tryz.strings_HasPrefix _ _ _).mono ?_
  rintro e w' ⟨rfl, rfl⟩
  exact ⟨rfl, rfl⟩

set_option maxRecDepth 100000 in
set_option maxHeartbeats 4000000 in
theorem target_any (m s : ByteArray) (hs : s.size < 4294967281) (w : World) :
    Calls Tryz.prog 16 #[.string m, .string s] w (TgtPost m s w) := by
  have hs1 : s.size ≤ 9223372036854775807 := by omega
  have zs : s.data.toList.length = s.size := by simp
  obtain ⟨ps, hps⟩ : ∃ p, p = portS s.data.toList := ⟨_, rfl⟩
  have cP := hide (fun w => port_any s hs1 w)
  rw [← hps] at cP
  have HPS := Lib.hid hps
  have ZS := Lib.hid zs
  clear hps zs
  go_enter Tryz.func16, Tryz.ntmps16
  go_wp2_with fail
  refine (unhide cP _).mono ?_; rintro e w' ⟨rfl, rfl⟩
  have H := Reg.Has.at w w.heap.size [.int .i64 0, .string ⟨#[]⟩, .string ⟨#[]⟩] 32 rfl
  have bel : Below w.heap.size w (w.alloc (.cells #[.int .i64 0, .string ⟨#[]⟩, .string ⟨#[]⟩] 32)) := (Below.refl _ _).alloc (Nat.le_refl _) _
  generalize hw0 : w.alloc (.cells #[.int .i64 0, .string ⟨#[]⟩, .string ⟨#[]⟩] 32) = w0 at *
  clear hw0
  go_upto_region 3 with fail
  go_cut [23] (fun v wc => v = .bool (isAbs s.data.toList) ∧ Reg.Has wc w.heap.size [.int .i64 0, .string ⟨#[]⟩, .string ⟨#[]⟩] ∧ Below w.heap.size w wc)
  case first =>
    by_cases h7 : 7 < s.size
    · have h7i : decide ((7 : Int) < s.size) = true := decide_eq_true (by omega)
      have hx : (s.extract 0 7).data.toList = s.data.toList.take 7 := by rw [Lib.extract_data]; rfl
      have hxs : (s.extract 0 7).size ≤ 9223372036854775807 := by rw [size_list hx, List.length_take]; omega
      have cS := hide (fun w => same_any (s.extract 0 7) ⟨#[104, 116, 116, 112, 58, 47, 47]⟩ hxs (by decide) w)
      rw [hx] at cS
      have hA : isAbs s.data.toList = same (s.data.toList.take 7) httpL := by unfold isAbs; rw [ZS.out, decide_eq_true h7]; rfl
      have HA := Lib.hid hA
      clear hx hxs hA
      go_wp2_with fail
      refine (unhide cS _).mono ?_; rintro e w1 ⟨rfl, hb1⟩
      replace H := H.call hb1
      replace bel := bel.trans (hb1.mono bel.size)
      clear hb1
      go_wp2_with fail
      go_meet
      exact ⟨by rw [HA.out]; rfl, H, bel⟩
    · have h7i : decide ((7 : Int) < s.size) = false := decide_eq_false (by omega)
      have hA : isAbs s.data.toList = false := by unfold isAbs; rw [ZS.out, decide_eq_false h7]; rfl
      have HA := Lib.hid hA
      clear hA
      go_wp2_with fail
      go_meet
      exact ⟨by rw [HA.out], H, bel⟩
  case rest =>
  obtain ⟨rfl, H, bel⟩ := hcut
  go_upto_if 23 with fail
  go_cut [8] (fun v wx => ∃ r : ByteArray, v = .string r ∧ r.data.toList = restT s.data.toList ∧ wc = wx)
  case first =>
    cases hA : isAbs s.data.toList
    · go_wp2_with fail
      go_meet
      exact ⟨_, rfl, by unfold restT; rw [hA]; rfl, rfl⟩
    · have h7 : 7 < s.size := by
        unfold isAbs at hA
        rw [Bool.and_eq_true, decide_eq_true_iff, ZS.out] at hA
        exact hA.1
      go_wp2_with fail
      go_meet
      exact ⟨_, rfl, by unfold restT; rw [hA, if_pos rfl, Lib.extract_to_end], rfl⟩
  case rest =>
  obtain ⟨r, rfl, hr, rfl⟩ := hcut
  have HR := Lib.hid hr
  clear hr
  go_wp2_with fail
  refine (seen_any s _).mono ?_; rintro e w2 ⟨rfl, hb2⟩
  replace H := H.call hb2
  replace bel := bel.trans (hb2.mono bel.size)
  clear hb2
  have pa := H.cell 0 _ rfl; have qa := H.cell 1 _ rfl; have ra := H.cell 2 _ rfl; have ua := H.free 0 (by simp); have va := H.free 1 (by simp); have xa := H.free 2 (by simp); have za := H.lt
  cases hS : seenS s.data.toList
  · have ht : tgt m.data.toList s.data.toList = tbad := by unfold tgt; rw [if_pos hS]
    have HT := Lib.hid ht
    clear ht
    go_wp2_with fail
    refine bodyPost_ret (Mem.results_cell2 Tryz.results16 (ad := ⟨w.heap.size, 0, none⟩) rfl (tgt_load H _ _ _)) rfl ?_
    exact tp_of HT.out (below3 bel (Nat.le_refl _) _ _ _)
  go_wp2_with fail
  refine (hash_any s _).mono ?_; rintro e w' ⟨rfl, rfl⟩
  by_cases hh : 0 ≤ hashN s.data.toList
  · have ht : tgt m.data.toList s.data.toList = tbad := by unfold tgt; rw [if_neg (by rw [hS]; decide), if_pos hh]
    have HT := Lib.hid ht
    clear ht
    go_wp2_with fail
    refine bodyPost_ret (Mem.results_cell2 Tryz.results16 (ad := ⟨w.heap.size, 0, none⟩) rfl (tgt_load H _ _ _)) rfl ?_
    exact tp_of HT.out (below3 bel (Nat.le_refl _) _ _ _)
  have ht0 : tgt m.data.toList s.data.toList = if (m.data.toList == connectL) = true then (if (portS s.data.toList).2 = true ∧ 0 < (portS s.data.toList).1 then ((3, lower s.data.toList, []), 0) else tbad)
      else if (m.data.toList == optionsL) = true ∧ (s.data.toList == [42]) = true then ((4, [], []), 0)
      else if s.data.toList.getD 0 0 = 47 then ((1, [], s.data.toList), 0)
      else if restT s.data.toList = [] then tbad
      else absT (restT s.data.toList) := by
    unfold tgt; rw [if_neg (by rw [hS]; decide), if_neg hh]
  have HT0 := Lib.hid ht0
  have HS := Lib.hid hS
  have HH := Lib.hid hh
  have hhi : decide (0 ≤ hashN s.data.toList) = false := decide_eq_false hh
  clear ht0 hS hh
  cases hc : (m.toList == [67, 79, 78, 78, 69, 67, 84])
  case true =>
    have hc2 : (m.data.toList == connectL) = true := by rw [← Lib.toList_data]; exact hc
    have ht1 := HT0.out
    rw [hc2, if_pos rfl, ← HPS.out] at ht1
    clear HT0
    by_cases hp1 : ps.2 = true
    · by_cases hp2 : 0 < ps.1
      · rw [if_pos ⟨hp1, hp2⟩] at ht1
        have HT := Lib.hid ht1
        clear ht1 hc2
        go_wp2_with fail
        refine (lower_any s hs1 _).mono ?_; rintro e w3 ⟨rfl, hb3⟩
        clear pa qa ra ua va xa za
        replace H := H.call hb3
        replace bel := bel.trans (hb3.mono bel.size)
        clear hb3
        have pb := H.cell 0 _ rfl; have qb := H.cell 1 _ rfl; have rb := H.cell 2 _ rfl; have ub := H.free 0 (by simp); have vb := H.free 1 (by simp); have xb := H.free 2 (by simp); have zb := H.lt
        go_wp2_with fail
        refine bodyPost_ret (Mem.results_cell2 Tryz.results16 (ad := ⟨w.heap.size, 0, none⟩) rfl (tgt_load H _ _ _)) rfl ?_
        exact tp_of HT.out (below3 bel (Nat.le_refl _) _ _ _)
      · rw [if_neg (fun h => hp2 h.2)] at ht1
        have HT := Lib.hid ht1
        clear ht1 hc2
        go_wp2_with fail
        refine bodyPost_ret (Mem.results_cell2 Tryz.results16 (ad := ⟨w.heap.size, 0, none⟩) rfl (tgt_load H _ _ _)) rfl ?_
        exact tp_of HT.out (below3 bel (Nat.le_refl _) _ _ _)
    · rw [if_neg (fun h => hp1 h.1)] at ht1
      have HT := Lib.hid ht1
      have hp1' : ps.2 = false := by simpa using hp1
      clear ht1 hc2 hp1
      go_wp2_with fail
      refine bodyPost_ret (Mem.results_cell2 Tryz.results16 (ad := ⟨w.heap.size, 0, none⟩) rfl (tgt_load H _ _ _)) rfl ?_
      exact tp_of HT.out (below3 bel (Nat.le_refl _) _ _ _)
  case false =>
    have hc2 : (m.data.toList == connectL) = false := by rw [← Lib.toList_data]; exact hc
    have ht1 := HT0.out
    rw [hc2, if_neg (by decide)] at ht1
    clear HT0 hc2
    cases ho : (m.toList == [79, 80, 84, 73, 79, 78, 83] && s.toList == [42])
    case true =>
      rw [Bool.and_eq_true] at ho
      obtain ⟨ho1, ho2⟩ := ho
      rw [if_pos ⟨by rw [← Lib.toList_data]; exact ho1, by rw [← Lib.toList_data]; exact ho2⟩] at ht1
      have HT := Lib.hid ht1
      clear ht1
      go_wp2_with fail
      refine bodyPost_ret (Mem.results_cell2 Tryz.results16 (ad := ⟨w.heap.size, 0, none⟩) rfl (tgt_load H _ _ _)) rfl ?_
      exact tp_of HT.out (below3 bel (Nat.le_refl _) _ _ _)
    case false =>
      rw [if_neg (by rw [← Lib.toList_data, ← Lib.toList_data]; rintro ⟨a, b⟩; rw [show (m.toList == optionsL) = (m.toList == [79, 80, 84, 73, 79, 78, 83]) from rfl] at a; rw [a, b] at ho; cases ho)] at ht1
      have HT1 := Lib.hid ht1
      clear ht1
      have h0 : 0 < s.size := by
        rw [← ZS.out]
        have := HS.out
        cases hl : s.data.toList with
        | nil => rw [hl] at this; cases this
        | cons c t => simp
      have hg : s.data.toList.getD 0 0 = s[0] := by
        have : 0 < s.data.toList.length := by rw [ZS.out]; exact h0
        rw [List.getD_eq_getElem?_getD, List.getElem?_eq_getElem this]
        rfl
      have HG := Lib.hid hg
      clear hg
      by_cases h47 : s[0].toNat = 47
      · have ht1 := HT1.out
        rw [if_pos (by rw [HG.out]; exact UInt8.toNat_inj.1 h47)] at ht1
        have HT := Lib.hid ht1
        have h47' : ((s[0].toNat : Int) == 47) = true := by rw [h47]; rfl
        clear ht1 h47
        cases ho1 : (m.toList == [79, 80, 84, 73, 79, 78, 83])
        · go_wp2_with fail
          refine bodyPost_ret (Mem.results_cell2 Tryz.results16 (ad := ⟨w.heap.size, 0, none⟩) rfl (tgt_load H _ _ _)) rfl ?_
          exact tp_of HT.out (below3 bel (Nat.le_refl _) _ _ _)
        · rw [ho1, Bool.true_and] at ho
          go_wp2_with fail
          refine bodyPost_ret (Mem.results_cell2 Tryz.results16 (ad := ⟨w.heap.size, 0, none⟩) rfl (tgt_load H _ _ _)) rfl ?_
          exact tp_of HT.out (below3 bel (Nat.le_refl _) _ _ _)
      · have ht1 := HT1.out
        rw [if_neg (by rw [HG.out]; intro h; exact h47 (by rw [h]; rfl))] at ht1
        have HT2 := Lib.hid ht1
        have h47' : ((s[0].toNat : Int) == 47) = false := by rw [Bool.eq_false_iff]; intro h; rw [beq_iff_eq] at h; omega
        clear ht1 h47 HT1 HG
        have rl : r.data.toList.length = r.size := by simp
        have rs : r.size ≤ s.size := by
          rw [← rl, HR.out, ← ZS.out]; unfold restT; split <;> simp
        have ra : ∀ c ∈ r.data.toList, c.toNat < 128 := by
          rw [HR.out]; intro c hc; unfold restT at hc
          split at hc
          · exact seen_ascii HS.out c (List.mem_of_mem_drop hc)
          · cases hc
        have RA := hide ra
        have RL := Lib.hid rl
        clear ra rl
        have HO := Lib.hid ho
        clear ho
        rcases empty_case r with ⟨e1, e2⟩ | ⟨e1, e2⟩
        · have ht1 := HT2.out
          rw [if_pos (by rw [← HR.out]; exact e2)] at ht1
          have HT := Lib.hid ht1
          clear ht1 e2
          cases ho1 : (m.toList == [79, 80, 84, 73, 79, 78, 83])
          · go_wp2_with fail
            refine bodyPost_ret (Mem.results_cell2 Tryz.results16 (ad := ⟨w.heap.size, 0, none⟩) rfl (tgt_load H _ _ _)) rfl ?_
            exact tp_of HT.out (below3 bel (Nat.le_refl _) _ _ _)
          · have ho2 := HO.out
            rw [ho1, Bool.true_and] at ho2
            go_wp2_with fail
            refine bodyPost_ret (Mem.results_cell2 Tryz.results16 (ad := ⟨w.heap.size, 0, none⟩) rfl (tgt_load H _ _ _)) rfl ?_
            exact tp_of HT.out (below3 bel (Nat.le_refl _) _ _ _)
        · have ht1 := HT2.out
          rw [if_neg (by rw [← HR.out]; exact e2), ← HR.out] at ht1
          have HT2 := Lib.hid ht1
          clear ht1 e2
          go_upto_region 9 with fail
          go_cut [46] (fun v wc => v = .bool false ∧ w2 = wc)
          case first =>
            cases ho1 : (m.toList == [79, 80, 84, 73, 79, 78, 83])
            · go_wp2_with fail
              go_meet
              exact ⟨rfl, rfl⟩
            · have ho2 := HO.out
              rw [ho1, Bool.true_and] at ho2
              go_wp2_with fail
              go_meet
              exact ⟨rfl, rfl⟩
          case rest =>
          obtain ⟨rfl, rfl⟩ := hcut
          clear HO
          go_wp2_with fail
          refine (any_any r (by omega) (unhide RA) _).mono ?_; rintro e w3 ⟨rfl, hb3⟩
          replace H := H.call hb3
          replace bel := bel.trans (hb3.mono bel.size)
          clear hb3 pa qa ra ua va xa za RA
          go_upto_if 66 with fail
          go_cut [9] (fun v wc => ∃ n : Nat, n ≤ r.size ∧ v = .int .i64 n ∧ hostOf r.data.toList = r.data.toList.take n ∧ restOf r.data.toList = r.data.toList.drop n ∧ w3 = wc)
          case first =>
            rcases any_host r.data.toList with ⟨a1, a2, a3⟩ | ⟨i, hi, a3, a1, a2⟩
            · have A1 := Lib.hid a1
              have A2 := Lib.hid a2
              have a3' : anyN r.data.toList < 0 := by unfold anyN; rw [a3]; decide
              clear a1 a2 a3
              go_wp2_with fail
              go_meet
              exact ⟨r.size, Nat.le_refl _, rfl, by rw [A1.out, List.take_of_length_le (by rw [RL.out]; exact Nat.le_refl _)], by rw [A2.out, List.drop_eq_nil_of_le (by rw [RL.out]; exact Nat.le_refl _)], rfl⟩
            · have A1 := Lib.hid a1
              have A2 := Lib.hid a2
              have A3 := Lib.hid a3
              have a3' : 0 ≤ anyN r.data.toList := by unfold anyN; rw [a3]; omega
              rw [RL.out] at hi
              clear a1 a2 a3
              go_wp2_with fail
              go_meet
              exact ⟨i, by omega, by unfold anyN; rw [A3.out], A1.out, A2.out, rfl⟩
          case rest =>
          obtain ⟨n, hn, rfl, a1, a2, rfl⟩ := hcut
          have e1 : (r.extract n r.size).data.toList = restOf r.data.toList := by rw [Lib.extract_to_end, a2]
          have e2 : (r.extract 0 n).data.toList = hostOf r.data.toList := by rw [Lib.extract_data, a1]; rfl
          have xs : (r.extract 0 n).size ≤ 9223372036854775807 := by
            rw [size_list e2, a1, List.length_take]; omega
          have cH := hide (fun w => hp_any (r.extract n r.size) w)
          rw [e1] at cH
          have cO := hide (fun w => host_any (r.extract 0 n) xs w)
          have cL := hide (fun w => lower_any (r.extract 0 n) xs w)
          rw [e2] at cO cL
          have E1 := Lib.hid e1
          clear e1 e2 a1 a2 xs
          go_wp2_with fail
          refine (unhide cH _).mono ?_; rintro e w' ⟨rfl, rfl⟩
          go_upto_if 74 with fail
          go_cut [10] (fun v wc => ∃ q : ByteArray, v = .string q ∧ q.data.toList = pathOf (restOf r.data.toList) ∧ w3 = wc)
          case first =>
            cases hb : Lib.hasPrefix (restOf r.data.toList) [47]
            · go_wp2_with fail
              go_meet
              refine ⟨_, rfl, ?_, rfl⟩
              unfold pathOf
              rw [hb, if_neg (by decide), ← E1.out, app_data]
              rfl
            · go_wp2_with fail
              go_meet
              exact ⟨_, rfl, by unfold pathOf; rw [hb, if_pos rfl]; exact E1.out, rfl⟩
          case rest =>
          obtain ⟨q, rfl, hq, rfl⟩ := hcut
          have HQ := Lib.hid hq
          clear hq cH E1
          have pb := H.cell 0 _ rfl; have qb := H.cell 1 _ rfl; have rb := H.cell 2 _ rfl; have ub := H.free 0 (by simp); have vb := H.free 1 (by simp); have xb := H.free 2 (by simp); have zb := H.lt
          go_wp2_with fail
          refine (unhide cO _).mono ?_; rintro e w' ⟨rfl, rfl⟩
          cases hP : (portS (hostOf r.data.toList)).2
          · have ht1 := HT2.out
            unfold absT at ht1
            rw [hP, if_neg (by decide)] at ht1
            have HT := Lib.hid ht1
            clear ht1
            go_wp2_with fail
            refine bodyPost_ret (Mem.results_cell2 Tryz.results16 (ad := ⟨w.heap.size, 0, none⟩) rfl (tgt_load H _ _ _)) rfl ?_
            exact tp_of HT.out (below3 bel (Nat.le_refl _) _ _ _)
          · have ht1 := HT2.out
            unfold absT at ht1
            rw [hP, if_pos rfl, ← HQ.out] at ht1
            have HT := Lib.hid ht1
            clear ht1
            go_wp2_with fail
            refine (unhide cL _).mono ?_; rintro e w4 ⟨rfl, hb4⟩
            clear pb qb rb ub vb xb zb
            replace H := H.call hb4
            replace bel := bel.trans (hb4.mono bel.size)
            clear hb4
            have pc := H.cell 0 _ rfl; have qc := H.cell 1 _ rfl; have rc := H.cell 2 _ rfl; have uc := H.free 0 (by simp); have vc := H.free 1 (by simp); have xc := H.free 2 (by simp); have zc := H.lt
            go_wp2_with fail
            refine bodyPost_ret (Mem.results_cell2 Tryz.results16 (ad := ⟨w.heap.size, 0, none⟩) rfl (tgt_load H _ _ _)) rfl ?_
            exact tp_of HT.out (below3 bel (Nat.le_refl _) _ _ _)
end Go.Proofs.YtfkobhagdjaleaaGreatDoor.Sp
