/- Sets of names: by the program. -/
import Derived.Test.YtmmldoleillelaaDoorC5
import Derived.Maps.OwnSet
import Derived.Maps.Views
import Derived.StringKeys
namespace Go.Proofs.YtmmldoleillelaaDoor.Sp
open Go.RowKit Sl Go.Maps

def low (x : ByteArray) : ByteArray := ofL (lower x.data.toList)
def keyL (x : ByteArray) : Lit := .string x.data.toList
/-- the set of these keys -/
def setL (K : List ByteArray) : DataW Unit := setOf (.agg []) (K.map keyL)
def isSet (w : World) (b n : Nat) (K : List ByteArray) : Prop := w.ownsMap Tryd.prog 9 unitElem b n (setL K)
theorem zeroU (w : World) : (zeroValue 52).run Tryd.prog w = .ok (.agg #[]) w := by kernel_rfl
theorem keyB (x : ByteArray) (hx : x.size ≤ 100000) : keyOf Tryd.prog 9 (.string x) = some (keyL x) := by
  have := WideMaps.keyOf_string_mk (P := Tryd.prog) Tryd.underlying9 (s := x) (by unfold maxLen; omega)
  exact this
theorem setL_snoc (K : List ByteArray) (x : ByteArray) : setL (K ++ [x]) = (setL K).put (keyL x) (.agg []) := by
  unfold setL
  rw [List.map_append]
  exact setOf_snoc _ _ _
theorem has_setL (K : List ByteArray) (x : ByteArray) : Maps.has (setL K) (keyL x) = K.any (fun y => y.data.toList == x.data.toList) := by
  unfold setL
  rw [has_setOf _ _ _ (by intro y hy; obtain ⟨z, _, rfl⟩ := List.mem_map.1 hy; trivial), List.any_map]
  congr 1
theorem isSet.call {w w' : World} {b n : Nat} {K : List ByteArray} (h : isSet w b n K) (hb : Below w.heap.size w w') : isSet w' b n K := by
  have hlt := World.ownsMap.lt h
  obtain ⟨es, clock, h1, F, hs, hD⟩ := h
  exact ⟨es, clock, (hb.block b hlt).trans h1, F, hs, hD⟩

/-- few texts, of few bytes -/
def FewS (A : List ByteArray) : Prop := A.length ≤ 1000000 ∧ ∀ x ∈ A, x.size ≤ 100000

set_option maxHeartbeats 2000000 in
theorem names_any (v : Value) (A : List ByteArray) (hA : FewS A) (w : World) (hv : Rd w v A.length 1 (strV A)) :
    Calls Tryd.prog 33 #[v] w fun e w' => ∃ b, e = .returned (.map (some b)) ∧ isSet w' b A.length (A.map low) ∧ Below w.heap.size w w' := by
  have hmm := @run_makeMap Tryd.prog
  obtain ⟨ao, cap, rfl⟩ := hv.form
  have HV := hide hv
  have HF := hide hA.2
  have hl1 := hA.1
  clear hv hA
  go_enter Tryd.func33, Tryd.ntmps33
  go_wp2_with fail
  go_loopw [9] (fun i wr => ∃ k : Nat, i = .int .i64 k ∧ k ≤ A.length ∧ isSet wr w.heap.size k ((A.take k).map low) ∧ Below w.heap.size w wr) (fun i _ => A.length - (intOf i).toNat)
  case atStart => exact ⟨0, rfl, Nat.zero_le _, World.ownsMap_made _ _ _ _, (Below.refl _ _).alloc (Nat.le_refl _) _⟩
  case round =>
    obtain ⟨k, rfl, hk, hset, hbel⟩ := hrel
    have HS := hide hset
    rcases Nat.lt_or_ge k A.length with hlt | hge
    · obtain ⟨b, off, rfl, hb, c1⟩ := str_cell (unhide HV) k hlt
      have d1 := (hbel.cell (p := ⟨b, off + k, none⟩) hb).trans c1
      have hsz := (unhide HF) A[k] (List.getElem_mem _)
      have hT : (A.take (k + 1)).map low = (A.take k).map low ++ [low A[k]] := by
        rw [List.take_succ_eq_append_getElem hlt, List.map_append]; rfl
      have HT := Lib.hid hT
      have hkey := keyB (low A[k]) (by unfold low; rw [show (ofL (lower A[k].data.toList)).size = A[k].size from lower_size _]; exact hsz)
      have HK := Lib.hid hkey
      clear c1 hset hT hkey
      go_wp2_with (first
        | (at_mapUpdate; refine wpList_mapUpdate_own _ rfl _ _ _ 49 rfl 9 52 (string_keyed Tryd.underlying9) Tryd.underlying49 (unitElem (H := Unit)) w.heap.size k _ rfl (unhide H1) (by unfold maxLen; omega) _ _ _ rfl rfl HK.out _ [] unitElem_mk ?_; intro w3 h3 hg3; have H3 := hide h3; have G3 := hide hg3; clear h3 hg3)
        | (go_at_call 38; refine (lower_any _ (by omega) _).mono ?_; rintro e w2 ⟨rfl, hb2⟩; have H1 := hide ((unhide HS).call hb2)))
      go_roundw
      case rel =>
        refine ⟨k + 1, by go_num, by omega, ?_, (hbel.trans (hb2.mono hbel.size)).grown (unhide G3) (Nat.le_trans hbel.size hb2.size) (fun j hj => by cases hj; exact Nat.le_refl _)⟩
        rw [HT.out]
        unfold isSet
        rw [setL_snoc]; exact unhide H3
      case measure => simp [intOf]; omega
    · have hT : (A.take k).map low = A.map low := by rw [List.take_of_length_le hge]
      have HT := Lib.hid hT
      have hk2 : k = A.length := by omega
      have HK := Lib.hid hk2
      clear hT hset hk2
      go_wp2_with fail
      go_ret
      refine ⟨_, rfl, ?_, hbel⟩
      have := unhide HS
      rw [HT.out, HK.out] at this
      exact this

def hopsR : List ByteArray := [⟨#[67, 111, 110, 110, 101, 99, 116, 105, 111, 110]⟩, ⟨#[75, 101, 101, 112, 45, 65, 108, 105, 118, 101]⟩, ⟨#[80, 114, 111, 120, 121, 45, 67, 111, 110, 110, 101, 99, 116, 105, 111, 110]⟩, ⟨#[84, 69]⟩, ⟨#[84, 114, 97, 105, 108, 101, 114]⟩, ⟨#[84, 114, 97, 110, 115, 102, 101, 114, 45, 69, 110, 99, 111, 100, 105, 110, 103]⟩, ⟨#[85, 112, 103, 114, 97, 100, 101]⟩]
theorem rd_lit (w : World) (A : List ByteArray) (n : Nat) (hn : A.length = n) : Rd (w.alloc (.cells (strV A).toArray 9)) (.slice (some ⟨w.heap.size, 0, none⟩) n n) n 1 (strV A) := by
  subst hn
  refine ⟨_, _, rfl, Nat.le_refl _, (fun h => by cases h), strV_len A, fun _ => ⟨w.heap.size, 0, rfl, by simp, fun i u hu => ?_⟩⟩
  rw [World.cell?_alloc_at _ _ _ _ rfl]
  simpa using hu

theorem hops_any (w : World) : Calls Tryd.prog 40 #[] w fun e w' => ∃ b, e = .returned (.map (some b)) ∧ isSet w' b 7 (hopsR.map low) ∧ Below w.heap.size w w' := by
  have hc := hide (names_any (.slice (some ⟨w.heap.size, 0, none⟩) 7 7) hopsR ⟨by decide, by decide⟩ _ (rd_lit w hopsR 7 rfl))
  go_enter Tryd.func40, Tryd.ntmps40
  go_wp2_with (go_at_call 33; refine (unhide hc).mono ?_; rintro e w1 ⟨b, rfl, hs, hb⟩; have HS := hide hs; clear hs)
  go_ret
  exact ⟨b, rfl, unhide HS, ((Below.refl _ _).alloc (Nat.le_refl _) _).trans (hb.mono (by simp))⟩

/-- a name of a field of one hop -/
def hopS (name : ByteArray) : Bool := (hopsR.map low).any fun y => y.data.toList == lower name.data.toList

theorem hop_any (name : ByteArray) (hn : name.size ≤ 100000) (w : World) :
    Calls Tryd.prog 12 #[.string name] w fun e w' => e = .returned (.bool (hopS name)) ∧ Below w.heap.size w w' := by
  have hkey := keyB (low name) (by unfold low; rw [show (ofL (lower name.data.toList)).size = name.size from lower_size _]; exact hn)
  have HK := Lib.hid hkey
  clear hkey
  go_enter Tryd.func12, Tryd.ntmps12
  go_wp2_with (first
    | (at_lookup; refine wpList_lookup_own_unit _ rfl _ _ 49 rfl 9 52 (string_keyed Tryd.underlying9) Tryd.underlying49 (zeroU _) b 7 _ rfl (unhide HS2) _ _ rfl HK.out ?_)
    | (go_at_call 40; refine (hops_any _).mono ?_; rintro e w1 ⟨b, rfl, hs, hb⟩; have HS := hide hs; clear hs)
    | (go_at_call 38; refine (lower_any _ (by omega) _).mono ?_; rintro e w2 ⟨rfl, hb2⟩; have HS2 := hide ((unhide HS).call hb2)))
  go_ret
  refine ⟨?_, ((hb.trans (hb2.mono hb.size)).alloc (Nat.le_trans hb.size hb2.size) _)⟩
  rw [has_setL]; rfl
end Go.Proofs.YtmmldoleillelaaDoor.Sp
