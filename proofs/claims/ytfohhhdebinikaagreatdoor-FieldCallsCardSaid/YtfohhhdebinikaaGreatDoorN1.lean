/- field.Names: the iterator. -/
import Derived.Test.YtfohhhdebinikaaGreatDoorF5
import Derived.Test.YtfohhhdebinikaaGreatDoorC6
import Derived.RangeFuncNested
import Derived.RangeFuncBound
import Derived.RangeFuncCalls
import Derived.RangeFuncLeaves
import Derived.Shelf.Abstract
import Derived.Shelf.RegionOpen
import Derived.WalkKit
import Derived.OwnWalkIn
import Derived.TacticsInMore
import Derived.LoopNIn
import Derived.LoopIn
import Derived.Maps.OwnIn
import Derived.Maps.AppendAt
namespace Go.Proofs.YtfohhhdebinikaaGreatDoor.Sp
open Go.RowKit Sl Go.Maps Go.Shelf
attribute [local go_sem] Oper.semAt_some

def hasB (K : List ByteArray) (x : ByteArray) : Bool := K.any fun y => y.data.toList == x.data.toList
def addU (K : List ByteArray) (f : Fld) : List ByteArray := if hasB K (low f.1) = true then K else K ++ [low f.1]
/-- the names, small, each where it stands first -/
def uniq (L : List Fld) : List ByteArray := L.foldl addU []
theorem uniq_take (L : List Fld) (k : Nat) (h : k < L.length) : uniq (L.take (k + 1)) = addU (uniq (L.take k)) L[k] := by
  unfold uniq
  rw [List.take_succ_eq_append_getElem h, List.foldl_append]
  rfl
theorem foldl_len : ∀ (L : List Fld) (K : List ByteArray), (L.foldl addU K).length ≤ K.length + L.length
  | [], K => Nat.le_refl _
  | f :: t, K => by
    rw [List.foldl_cons, List.length_cons]
    refine Nat.le_trans (foldl_len t (addU K f)) ?_
    have : (addU K f).length ≤ K.length + 1 := by
      unfold addU
      split
      · omega
      · simp
    omega
theorem uniq_len (L : List Fld) : (uniq L).length ≤ L.length := by
  have := foldl_len L []
  unfold uniq
  simpa using this
theorem isSet.walks {w w' : World} {b n : Nat} {K : List ByteArray} (h : isSet w b n K) (hk : KeepsWalks w w') : isSet w' b n K := by
  obtain ⟨es, clock, h1, F, hs, hD⟩ := h
  exact ⟨es, clock, hk.same b _ h1 rfl, F, hs, hD⟩
theorem grown_below {w w' : World} (hb : Below w.heap.size w w') : w.grownBy w' none := ⟨hb.os, hb.tape, hb.output, hb.size, fun k hk _ => hb.block k hk⟩

theorem isMap {w : World} {b n : Nat} {K : List ByteArray} (h : isSet w b n K) : ∃ o : Obj, w.heap[b]? = some o ∧ o.isWalk = true := by
  obtain ⟨es, clock, h1, _⟩ := h
  exact ⟨_, h1, rfl⟩

def KpN (n₀ : Nat) (W W' : World) : Prop := Below n₀ W W' ∧ KeepsWalks W W'

set_option maxRecDepth 100000 in
set_option maxHeartbeats 4000000 in
theorem names1_in (n : Nat) (hn : 1 ≤ n) (l Bn : Nat) (u : Value) (L : List Fld) (hL : L.length ≤ 1000000) (hf : ∀ f ∈ L, f.1.size ≤ 100000) (w0 : World) (hu : Rd w0 u L.length 2 (fldV L)) (J Jx : List ByteArray → World → Prop)
    (hY : ∀ pre x W, J pre W → pre.length < L.length → YieldAt Fence.wide (n - 1) Tryz.prog l #[.string x] W fun e W' =>
      (e = .returned (.bool true) ∧ J (pre ++ [x]) W' ∧ KpN w0.heap.size W W') ∨ (e = .returned (.bool false) ∧ Jx (pre ++ [x]) W'))
    (W : World) (hJ : AbidesFrom W.heap.size J) (hb : Below w0.heap.size w0 W) (hBn : W.cell? ⟨Bn, 0, none⟩ = some u) (h0 : J [] W) :
    CallsIn Fence.wide n Tryz.prog 67 #[.func (.yield l) #[] #[], .pointer (some ⟨Bn, 0, none⟩)] W fun e W' => (∃ v, e = .returned v) ∧
      ((∃ ys, ys = uniq L ∧ J ys W') ∨ (∃ pre : List ByteArray, True ∧ Jx pre W')) := by
  have hmm := @run_makeMap Tryz.prog
  obtain ⟨ao, cap, rfl⟩ := hu.form
  have HU := hide hu
  have HF := hide hf
  have HY := hide hY
  have HJ := hide hJ
  have HBe := hide hb
  have H0 := hide h0
  clear hu hf hY hJ hb h0
  refine callsIn_of_wp Tryz.func67 rfl trivial ?_ rfl
  simp only [Tryz.ntmps67, List.size_toArray, List.length_cons, List.length_nil, Nat.reduceAdd, Nat.reduceSub, Array.replicate_succ, Array.replicate_zero, List.push_toArray, List.append_toArray, List.nil_append, List.cons_append]
  have hB1 := cell_call ((Below.refl W.heap.size W).alloc (Nat.le_refl _) (.map #[] 0)) hBn
  clear hBn
  gi_wp2
  gi_loopw [12] (fun i wr => ∃ k : Nat, i = .int .i64 k ∧ k ≤ L.length ∧ isSet wr W.heap.size (uniq (L.take k)).length (uniq (L.take k)) ∧ J (uniq (L.take k)) wr ∧ Below w0.heap.size w0 wr ∧ W.heap.size ≤ wr.heap.size) (fun i _ => L.length - (intOf i).toNat)
  case atStart =>
    refine ⟨0, rfl, Nat.zero_le _, World.ownsMap_made _ _ _ _, ?_, (unhide HBe).alloc (unhide HBe).size _, by simp⟩
    exact (unhide HJ) _ _ _ none (unhide H0) (World.grownBy_alloc W _ none) (fun r e => by cases e)
  case round =>
    obtain ⟨k, rfl, hk, hset, hj, hbel, hsz⟩ := hrel
    rcases Nat.lt_or_ge k L.length with hlt | hge
    · obtain ⟨b, off, rfl, hb, d1, d2⟩ := fld_cells ((unhide HU).below hbel) rfl k hlt
      have hx2 := (unhide HF) L[k] (List.getElem_mem _)
      have hut := uniq_take L k hlt
      have hul : (uniq (L.take k)).length ≤ k := by have := uniq_len (L.take k); rw [List.length_take] at this; omega
      obtain ⟨⟨x, y⟩, hxy⟩ : ∃ x, L[k] = x := ⟨_, rfl⟩
      rw [hxy] at d1 d2 hx2 hut
      have hlw : (⟨(lower x.data.toList).toArray⟩ : ByteArray).size = x.size := lower_size _
      have hkey := keyB (low x) (by show (⟨(lower x.data.toList).toArray⟩ : ByteArray).size ≤ _; rw [hlw]; exact hx2)
      have hlc : ∀ w, Calls Tryz.prog 66 #[.string x] w fun e w' => e = .returned (.string (low x)) ∧ Below w.heap.size w w' := fun w => lower_any x (by simp only at hx2; omega) w
      unfold addU at hut
      simp only at hut
      obtain ⟨z, hz⟩ : ∃ z, low x = z := ⟨_, rfl⟩
      obtain ⟨K, hK⟩ : ∃ K, uniq (L.take k) = K := ⟨_, rfl⟩
      rw [hz] at hkey hlc
      rw [hK] at hset hj hul
      rw [hK, hz] at hut
      have HK := Lib.hid hkey
      have HL := hide hlc
      have HS := hide hset
      have HJJ := hide hj
      have HBB := hide hbel
      clear hkey hlc hset hj hbel hz hxy hx2 hlw
      obtain ⟨is, his⟩ : ∃ is, hasB K z = is := ⟨_, rfl⟩
      have hhas : Maps.has (setL K) (keyL z) = is := (has_setL K z).trans his
      rw [his] at hut
      have HH := Lib.hid hhas
      have HUT := Lib.hid hut
      clear his hhas hut
      cases is
      · have hut2 : uniq (L.take (k + 1)) = K ++ [z] := by rw [HUT.out, if_neg (by decide)]
        have HU2 := Lib.hid hut2
        clear hut2 HUT
        gi_wp2_with (first
          | (gi_at_lookup; refine wpListIn_lookup_own_unit _ rfl _ _ 79 rfl 9 80 (string_keyed Tryz.underlying9) Tryz.underlying79 (zeroU _) W.heap.size _ _ rfl (unhide HS2) _ _ rfl HK.out ?_; rw [HH.out])
          | (gi_at_mapUpdate; refine wpListIn_mapUpdate_own _ rfl _ _ _ 79 rfl 9 80 (string_keyed Tryz.underlying9) Tryz.underlying79 (unitElem (H := Unit)) W.heap.size K.length _ rfl (unhide HS3) (by unfold maxLen; omega) _ _ _ rfl rfl HK.out _ [] unitElem_mk ?_; intro w3 h3 hg3; have HS4 := hide h3; have HG := hide hg3; have hj3 : J K w3 := (unhide HJ) _ _ _ (some W.heap.size) (unhide HJ3) hg3 (fun r e => by cases e; exact ⟨Nat.le_refl _, isMap (unhide HS3)⟩); obtain ⟨fn, tmps, assign, body, hy, hR⟩ := (unhide HY) K z w3 hj3 (by omega); have HRR := hide hR; clear h3 hg3 hj3 hR)
          | (refine ⟨trivial, ?_⟩; gi_at_call 66; refine (callsIn_wide.2 (unhide HL _)).mono ?_; rintro e w2 ⟨rfl, hb2⟩; have hb3 : Below wr.heap.size wr w2 := ((Below.refl wr.heap.size wr).alloc (Nat.le_refl _) (.cells #[.string x, .string y] 30)).trans (hb2.mono (by simp)); have HS2 := hide ((unhide HS).call hb3); have HS3 := hide ((unhide HS).call (hb3.alloc hb3.size (.cells #[] 80))); have HB3 := hide (hb3.alloc hb3.size (.cells #[] 80)); have HJ3 := hide ((unhide HJ) _ _ _ none (unhide HJJ) (grown_below (hb3.alloc hb3.size (.cells #[] 80))) (fun r e => by cases e)); clear hb2 hb3))
        have hb4 : Below w0.heap.size w0 w3 := ((unhide HBB).trans ((unhide HB3).mono (unhide HBB).size)).grown (unhide HG) (Nat.le_trans (unhide HBB).size (unhide HB3).size) (fun j hj => by cases hj; exact (unhide HBe).size)
        have hz4 : W.heap.size ≤ w3.heap.size := Nat.le_trans (Nat.le_trans hsz (unhide HB3).size) (unhide HG).size
        have hs4 : isSet w3 W.heap.size (K ++ [z]).length (K ++ [z]) := by
          have h9 := unhide HS4
          unfold isSet
          rw [setL_snoc, List.length_append]
          exact h9
        have HS5 := hide hs4
        have HB5 := hide hb4
        clear hs4 hb4
        refine (unhide HRR).mono ?_
        rintro e w4 (⟨rfl, hj4, hk4⟩ | ⟨rfl, hj4⟩)
        · have HJ4 := hide hj4
          have HK4 := hide hk4
          clear hj4 hk4
          gi_wp2
          go_roundw
          case rel =>
            exact ⟨k + 1, by go_num, by omega, by rw [HU2.out]; exact (unhide HS5).walks (unhide HK4).2, by rw [HU2.out]; exact unhide HJ4, (unhide HB5).trans (unhide HK4).1, Nat.le_trans hz4 (unhide HK4).1.size⟩
          case measure => simp [intOf]; omega
        · have HJ4 := hide hj4
          clear hj4
          gi_wp2
          refine bodyPost_ret (results_none rfl _ _ _) rfl ?_
          exact ⟨⟨_, rfl⟩, .inr ⟨_, trivial, unhide HJ4⟩⟩
      · gi_wp2_with (first
          | (gi_at_lookup; refine wpListIn_lookup_own_unit _ rfl _ _ 79 rfl 9 80 (string_keyed Tryz.underlying9) Tryz.underlying79 (zeroU _) W.heap.size _ _ rfl (unhide HS2) _ _ rfl HK.out ?_; rw [HH.out])
          | (refine ⟨trivial, ?_⟩; gi_at_call 66; refine (callsIn_wide.2 (unhide HL _)).mono ?_; rintro e w2 ⟨rfl, hb2⟩; have hb3 : Below wr.heap.size wr w2 := ((Below.refl wr.heap.size wr).alloc (Nat.le_refl _) (.cells #[.string x, .string y] 30)).trans (hb2.mono (by simp)); have HS2 := hide ((unhide HS).call hb3); have HB3 := hide (hb3.alloc hb3.size (.cells #[] 80)); clear hb2 hb3))
        have hut2 : uniq (L.take (k + 1)) = K := by rw [HUT.out, if_pos (by first | rfl | trivial)]
        go_roundw
        case rel =>
          refine ⟨k + 1, by go_num, by omega, by rw [hut2]; exact (unhide HS2).call ((Below.refl _ _).alloc (Nat.le_refl _) _), ?_, (unhide HBB).trans ((unhide HB3).mono (unhide HBB).size), Nat.le_trans hsz (unhide HB3).size⟩
          rw [hut2]
          exact (unhide HJ) _ _ _ none (unhide HJJ) (grown_below (unhide HB3)) (fun r e => by cases e)
        case measure => simp [intOf]; omega
    · have hT : L.take k = L := List.take_of_length_le hge
      rw [hT] at hj
      have HJJ := hide hj
      clear hset hj hbel hT
      gi_wp2
      go_end0
      exact ⟨⟨_, rfl⟩, .inl ⟨_, rfl, unhide HJJ⟩⟩
end Go.Proofs.YtfohhhdebinikaaGreatDoor.Sp
