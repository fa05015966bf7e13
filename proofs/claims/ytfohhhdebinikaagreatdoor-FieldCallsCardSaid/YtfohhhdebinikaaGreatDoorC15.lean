/- Set. -/
import Derived.Test.YtfohhhdebinikaaGreatDoorC14
namespace Go.Proofs.YtfohhhdebinikaaGreatDoor.Sp
open Go.RowKit Sl

def setR (name value : ByteArray) : Bool → List Fld → List Fld
  | true, [] => []
  | false, [] => [(name, value)]
  | there, f :: t => if isN name f = true then (if there = true then setR name value true t else (f.1, value) :: setR name value true t) else f :: setR name value there t
def setB (L : List Fld) (name value : ByteArray) : List Fld := setR name value false L

theorem setR_true (name value : ByteArray) : ∀ L : List Fld, setR name value true L = keepF (stepS name) true L
  | [] => rfl
  | f :: t => by
    rw [setR, keepF, setR_true name value t]
    unfold stepS
    cases h : isN name f <;> simp
theorem setR_false (name value : ByteArray) : ∀ L : List Fld,
    ((∀ k (h : k < (keepF (stepS name) false L).length), isN name (keepF (stepS name) false L)[k] = false) → setR name value false L = keepF (stepS name) false L ++ [(name, value)]) ∧
    (∀ k (h : k < (keepF (stepS name) false L).length), (∀ j (h1 : j < k) (h2 : j < (keepF (stepS name) false L).length), isN name (keepF (stepS name) false L)[j] = false) → isN name (keepF (stepS name) false L)[k] = true →
      setR name value false L = (keepF (stepS name) false L).set k ((keepF (stepS name) false L)[k].1, value))
  | [] => ⟨fun _ => rfl, fun k h => absurd h (Nat.not_lt_zero _)⟩
  | f :: t => by
    have ih := setR_false name value t
    cases hf : isN name f
    · have e1 : keepF (stepS name) false (f :: t) = f :: keepF (stepS name) false t := by
        rw [keepF]; unfold stepS; simp [hf]
      have e2 : setR name value false (f :: t) = f :: setR name value false t := by rw [setR, if_neg (by rw [hf]; decide)]
      simp only [e1, e2]
      refine ⟨fun h => ?_, fun k h ha hk => ?_⟩
      · rw [ih.1 (fun k hk => by have := h (k + 1) (by simp; omega); simpa using this)]; rfl
      · cases k with
        | zero => simp [hf] at hk
        | succ k =>
          rw [ih.2 k (by simpa using h) (fun j h1 h2 => by have := ha (j + 1) (by omega) (by simp; omega); simpa using this) (by simpa using hk)]
          simp
    · have e1 : keepF (stepS name) false (f :: t) = f :: keepF (stepS name) true t := by
        rw [keepF]; unfold stepS; simp [hf]
      have e2 : setR name value false (f :: t) = (f.1, value) :: keepF (stepS name) true t := by rw [setR, if_pos hf, if_neg (by decide), setR_true]
      simp only [e1, e2]
      refine ⟨fun h => ?_, fun k h ha hk => ?_⟩
      · have := h 0 (by simp); simp [hf] at this
      · cases k with
        | zero => simp
        | succ k => have := ha 0 (by omega) (by simp); simp [hf] at this

theorem set_same {α : Type} (l : List α) (i : Nat) (a : α) (h : l[i]? = some a) : l.set i a = l := by
  obtain ⟨hi, e⟩ := List.getElem?_eq_some_iff.1 h
  rw [← e]
  exact List.set_getElem_self hi

set_option maxRecDepth 100000 in
set_option maxHeartbeats 2000000 in
theorem fset_any (v : Value) (L : List Fld) (name value : ByteArray) (hL : L.length ≤ 100000) (hsz : ∀ f ∈ L, f.1.size ≤ 2000) (hn : name.size ≤ 100000) (w : World) (hv : Rd w v L.length 2 (fldV L)) :
    Calls Tryz.prog 22 #[v, .string name, .string value] w (RetF w (setB L name value)) := by
  have hmf : ∀ (fn : Fn) (first cap : Array Value) (w : World), (Instr.makeFunc fn first cap).run Tryz.prog w = .ok (.func fn first cap) w := fun _ _ _ _ => rfl
  obtain ⟨ao, cap, rfl⟩ := hv.form
  obtain ⟨M, hM⟩ : ∃ M, keepF (stepS name) false L = M := ⟨_, rfl⟩
  have hres := setR_false name value L
  rw [hM] at hres
  have hMl : M.length ≤ 100000 := by rw [← hM]; exact Nat.le_trans (keepF_len _ _ _) hL
  have hMs : ∀ f ∈ M, f.1.size ≤ 2000 := fun f hf => hsz f (keepF_mem (stepS name) false L f (by rw [hM]; exact hf))
  have HRES := hide hres
  have HM := Lib.hid hM
  have HMS := hide hMs
  have HV := hide hv
  have HSZ := hide hsz
  have hcl := hide (clone_any _ L hL ((w.alloc (.cells #[.string name] 9)).alloc (.cells #[.bool false] 4)) (((unhide HV).alloc _).alloc _))
  have hs1 : ((w.alloc (.cells #[.string name] 9)).alloc (.cells #[.bool false] 4)).heap.size = w.heap.size + 2 := by simp
  have hs0 : (w.alloc (.cells #[.string name] 9)).heap.size = w.heap.size + 1 := by simp
  have hI0 : ((w.alloc (.cells #[.string name] 9)).alloc (.cells #[.bool false] 4)).heap[w.heap.size + 1]? = some (.cells #[.bool false] 4 (0, 0)) ∧ ((w.alloc (.cells #[.string name] 9)).alloc (.cells #[.bool false] 4)).heap[w.heap.size]? = some (.cells #[.string name] 9 (0, 0)) :=
    ⟨by rw [← hs0]; exact alloc_at _ _, by rw [Below.heap_alloc _ _ _ (by omega)]; exact alloc_at _ _⟩
  have hbl0 : Below w.heap.size w ((w.alloc (.cells #[.string name] 9)).alloc (.cells #[.bool false] 4)) := ((Below.refl _ _).alloc (Nat.le_refl _) _).alloc (by omega) _
  have HB0 := hide hbl0
  have HS1 := Lib.hid hs1
  have HI0 := hide hI0
  clear hres hM hv hsz hs1 hs0 hI0 hMs hbl0
  generalize hW : (w.alloc (.cells #[.string name] 9)).alloc (.cells #[.bool false] 4) = W at *
  have HW := Lib.hid hW
  clear hW
  have hsW := HS1.out
  go_enter Tryz.func22, Tryz.ntmps22
  go_upto_region 4 with (first
    | (go_at_call 52; (try rw [HW.out]); refine (unhide hcl).mono ?_; rintro e w3 ⟨v3, rfl, ho3, hb3⟩; have B3 := hide hb3; have hdl := hide (delete_any (stepS name) 53 #[.pointer (some ⟨w.heap.size + 1, 0, none⟩), .pointer (some ⟨w.heap.size, 0, none⟩)] W.heap.size (some (w.heap.size + 1)) _ (set1_clo name hn (w.heap.size + 1) w.heap.size _ (by omega) (by omega) (by omega)) (fun _ _ => rfl) v3 L (by omega) (unhide HSZ) false w3 ho3 ⟨(hb3.block _ (by omega)).trans (unhide HI0).1, (hb3.block _ (by omega)).trans (unhide HI0).2⟩ hb3.size); rw [HM.out] at hdl; clear ho3 hb3)
    | (go_at_call 51; refine (unhide hdl).mono ?_; rintro e w4 ⟨v4, rfl, ho4, hi4, ha4⟩; have H4 := hide ho4; have I4 := hide hi4; have A4 := hide ha4; have hix := hide (index_found (stepN name) 55 #[.pointer (some ⟨w.heap.size, 0, none⟩)] W.heap.size none _ (set2_clo name hn w.heap.size _ (by omega)) (fun _ _ => rfl) v4 M (by omega) (unhide HMS) () w4 ho4 hi4.2 (Nat.le_trans (unhide B3).size ha4.size)); clear ho4 hi4 ha4)
    | (go_at_call 54; refine (unhide hix).mono ?_; rintro e w5 ⟨r, rfl, hh⟩; have HH := hide hh; clear hh))
  obtain ⟨hr, hown, haft⟩ := unhide HH
  have hB3 := unhide B3
  have hA4 := unhide A4
  have hbel : Below w.heap.size w w5 := by
    have h1 : Below w.heap.size w w3 := (unhide HB0).trans (hB3.mono (by omega))
    have h2 : Below w.heap.size w3 w4 := ⟨hA4.os, hA4.tape, hA4.output, hA4.size, fun k hk => hA4.block k (by omega) (fun e => by have := Option.some.inj e; omega)⟩
    exact (h1.trans h2).trans (haft.below.mono (by omega))
  have hsz5 : W.heap.size ≤ w5.heap.size := Nat.le_trans hB3.size (Nat.le_trans hA4.size haft.size)
  have hnc := cell_of_one ((haft.block w.heap.size (by omega) (by simp)).trans (unhide I4).2)
  have HBEL := hide hbel
  have HO := hide hown
  have hzw : w.heap.size < w5.heap.size := by omega
  clear hB3 hA4 hbel HH haft hix hdl hcl B3 H4 I4 A4 HI0 HB0
  rcases hr with ⟨rfl, ha, _⟩ | ⟨k, hk, rfl, ha, ht, _⟩
  · have hout : setB L name value = M ++ [(name, value)] := (unhide HRES).1 (fun k h => ha k h)
    have HOUT := Lib.hid hout
    have HOW := hide (⟨hown, Below.refl _ _, hsz5⟩ : Own w5 w5 W.heap.size 30 2 v4 M.length (fldV M))
    clear hout ha hown
    go_wp2_with (at_builtin; refine wpList_pushF (w0 := w5) rfl _ _ rfl W.heap.size _ _ _ rfl (unhide HOW) name value rfl _ rfl (by omega) ?_; intro v' w6 h6; obtain ⟨ao', cp', rfl⟩ := (Rd.own h6.own).form; have H6 := hide h6; clear h6)
    go_ret
    have h6 := unhide H6
    refine ⟨_, rfl, ?_, (unhide HBEL).trans (h6.bel.mono (by omega))⟩
    rw [HOUT.out, List.length_append, fldV_app]
    exact World.ownsRow.mono h6.own (by omega)
  · have hout : setB L name value = M.set k (M[k].1, value) := (unhide HRES).2 k hk (fun j h h2 => ha j h h2) ht
    have HOUT := Lib.hid hout
    obtain ⟨gb, cp, rfl, _⟩ := World.ownsRow.form hown (by omega)
    have hgB : W.heap.size ≤ gb := row_base hown gb rfl
    have y1 := (own_fld hown rfl k hk).1
    have y2 := (own_fld hown rfl k hk).2
    have f2 := hown.frozenAt (k * 2 + 1)
    clear hout ha ht hown
    go_wp2_with fail
    go_ret
    have hset : (fldV M).set (k * 2 + 1) (.string value) = fldV (M.set k (M[k].1, value)) := by
      rw [← fldV_set]
      rw [set_same _ _ _ (fldV_get M k hk).1]
    have h7 := ((unhide HO).stored (k * 2 + 1) (.string value)).1
    rw [hset] at h7
    refine ⟨_, rfl, ?_, (unhide HBEL).setCell (by show w.heap.size ≤ gb; omega) _⟩
    rw [HOUT.out, List.length_set]
    exact World.ownsRow.mono h7 (by omega)
end Go.Proofs.YtfohhhdebinikaaGreatDoor.Sp
