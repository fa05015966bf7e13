/- The closures of Del and Set; Del. -/
import Derived.Test.YtfohhhdebinikaaGreatDoorC12
namespace Go.Proofs.YtfohhhdebinikaaGreatDoor.Sp
open Go.RowKit Sl
theorem cell_call {W w' : World} {a : Addr} {v : Value} (hb : Below W.heap.size W w') (h : W.cell? a = some v) : w'.cell? a = some v :=
  (hb.cell (World.block_lt_of_cell? W a h)).trans h
theorem keepF_unit (p : Fld → Bool) (L : List Fld) : keepF (fun (_ : Unit) f => (p f, ())) () L = L.filter fun f => !p f := by
  induction L with
  | nil => rfl
  | cons f t ih =>
    rw [keepF]
    cases hp : p f
    · rw [if_neg (by simp), List.filter_cons_of_pos (by simp [hp])]
      exact congrArg (f :: ·) ih
    · rw [if_pos rfl, List.filter_cons_of_neg (by simp [hp])]
      exact ih

theorem del1_any (x y name : ByteArray) (g : Nat) (w : World) (hg : w.heap[g]? = some (.cells #[.string name] 9 (0, 0))) (hx : x.size ≤ 100000) (hn : name.size ≤ 100000) :
    Calls Tryz.prog 56 #[.agg #[.string x, .string y], .pointer (some ⟨g, 0, none⟩)] w fun e w' => e = .returned (.bool (isN name (x, y))) ∧ Below w.heap.size w w' := by
  have hgl := lt_of_block hg
  have hgc := cell_of_one hg
  go_enter Tryz.func56, Tryz.ntmps56
  go_wp2_with (go_at_call 47; refine (same_any _ _ (by omega) (by omega) _).mono ?_; rintro e w2 ⟨rfl, hb2⟩)
  go_ret
  exact ⟨rfl, ((Below.refl _ _).alloc (Nat.le_refl _) _).trans (hb2.mono (by simp))⟩
theorem set2_any (x y name : ByteArray) (g : Nat) (w : World) (hg : w.heap[g]? = some (.cells #[.string name] 9 (0, 0))) (hx : x.size ≤ 100000) (hn : name.size ≤ 100000) :
    Calls Tryz.prog 55 #[.agg #[.string x, .string y], .pointer (some ⟨g, 0, none⟩)] w fun e w' => e = .returned (.bool (isN name (x, y))) ∧ Below w.heap.size w w' := by
  have hgl := lt_of_block hg
  have hgc := cell_of_one hg
  go_enter Tryz.func55, Tryz.ntmps55
  go_wp2_with (go_at_call 47; refine (same_any _ _ (by omega) (by omega) _).mono ?_; rintro e w2 ⟨rfl, hb2⟩)
  go_ret
  exact ⟨rfl, ((Below.refl _ _).alloc (Nat.le_refl _) _).trans (hb2.mono (by simp))⟩

def stepN (name : ByteArray) (_ : Unit) (f : Fld) : Bool × Unit := (isN name f, ())
def stepS (name : ByteArray) (there : Bool) (f : Fld) : Bool × Bool := (there && isN name f, there || isN name f)

theorem del_clo (name : ByteArray) (hn : name.size ≤ 100000) (g : Nat) (B : Nat) (hg : g < B) :
    Clo 56 #[.pointer (some ⟨g, 0, none⟩)] B none (fun w (_ : Unit) => w.heap[g]? = some (.cells #[.string name] 9 (0, 0))) (stepN name) := by
  refine ⟨fun w w' s h hbl => (hbl.block g hg).trans h, fun w s f h hf hB => ?_, fun T h => by cases h⟩
  refine (del1_any f.1 f.2 name g w h (by omega) hn).mono ?_
  rintro e w' ⟨rfl, hbl⟩
  exact ⟨rfl, (hbl.block g (by omega)).trans h, hbl.os, hbl.tape, hbl.output, hbl.size, fun k hk _ => hbl.block k hk⟩
theorem set2_clo (name : ByteArray) (hn : name.size ≤ 100000) (g : Nat) (B : Nat) (hg : g < B) :
    Clo 55 #[.pointer (some ⟨g, 0, none⟩)] B none (fun w (_ : Unit) => w.heap[g]? = some (.cells #[.string name] 9 (0, 0))) (stepN name) := by
  refine ⟨fun w w' s h hbl => (hbl.block g hg).trans h, fun w s f h hf hB => ?_, fun T h => by cases h⟩
  refine (set2_any f.1 f.2 name g w h (by omega) hn).mono ?_
  rintro e w' ⟨rfl, hbl⟩
  exact ⟨rfl, (hbl.block g (by omega)).trans h, hbl.os, hbl.tape, hbl.output, hbl.size, fun k hk _ => hbl.block k hk⟩

set_option maxHeartbeats 2000000 in
theorem set1_any (x y name : ByteArray) (there : Bool) (t g : Nat) (w : World) (ht : w.heap[t]? = some (.cells #[.bool there] 4 (0, 0))) (hg : w.heap[g]? = some (.cells #[.string name] 9 (0, 0))) (htg : t ≠ g) (hx : x.size ≤ 100000) (hn : name.size ≤ 100000) :
    Calls Tryz.prog 53 #[.agg #[.string x, .string y], .pointer (some ⟨t, 0, none⟩), .pointer (some ⟨g, 0, none⟩)] w fun e w' => e = .returned (.bool (stepS name there (x, y)).1) ∧ w'.heap[t]? = some (.cells #[.bool (stepS name there (x, y)).2] 4 (0, 0)) ∧ w'.heap[g]? = some (.cells #[.string name] 9 (0, 0)) ∧ w.grownBy w' (some t) := by
  have hgl := lt_of_block hg
  have hgc := cell_of_one hg
  have htl := lt_of_block ht
  have htc := cell_of_one ht
  have htf := free_of_one ht
  have HT := hide ht
  have HG := hide hg
  clear ht hg
  obtain ⟨m, hm⟩ : ∃ m, same x.data.toList name.data.toList = m := ⟨_, rfl⟩
  have hst : stepS name there (x, y) = (there && m, there || m) := by rw [← hm]; rfl
  rw [hst]
  have HM := Lib.hid hm
  clear hm hst
  go_enter Tryz.func53, Tryz.ntmps53
  cases there
  all_goals
    go_wp2_with (go_at_call 47; refine (same_any _ _ (by omega) (by omega) _).mono ?_; rintro e w2 ⟨he, hb2⟩; rw [HM.out] at he; subst he; have t2 := (hb2.block t (by simp; omega)).trans ((Below.heap_alloc _ _ _ (by omega)).trans (unhide HT)); have g2 := (hb2.block g (by simp; omega)).trans ((Below.heap_alloc _ _ _ (by omega)).trans (unhide HG)); have d2 := cell_of_one t2; have f2 := free_of_one t2; have T2 := hide t2; have G2 := hide g2; have B2 := hide hb2; clear hb2 t2 g2)
    go_ret
    have hbl : Below w.heap.size w w2 := ((Below.refl _ _).alloc (Nat.le_refl _) _).trans ((unhide B2).mono (by simp))
    refine ⟨rfl, one_setCell (unhide T2), (Below.heap_setCell _ _ _ _ (by show g ≠ t; exact fun e => htg e.symm)).trans (unhide G2), hbl.os, hbl.tape, hbl.output, Nat.le_trans hbl.size (by simp [World.setCell]), fun k hk hne => (Below.heap_setCell _ _ _ _ (by show k ≠ t; intro e; subst e; exact hne rfl)).trans (hbl.block k hk)⟩

theorem set1_clo (name : ByteArray) (hn : name.size ≤ 100000) (t g : Nat) (B : Nat) (hg : g < B) (ht : t < B) (htg : t ≠ g) :
    Clo 53 #[.pointer (some ⟨t, 0, none⟩), .pointer (some ⟨g, 0, none⟩)] B (some t) (fun w (there : Bool) => w.heap[t]? = some (.cells #[.bool there] 4 (0, 0)) ∧ w.heap[g]? = some (.cells #[.string name] 9 (0, 0))) (stepS name) := by
  refine ⟨fun w w' s h hbl => ⟨(hbl.block t ht).trans h.1, (hbl.block g hg).trans h.2⟩, fun w s f h hf hB => ?_, fun T h => by cases h; exact ht⟩
  refine (set1_any f.1 f.2 name s t g w h.1 h.2 htg (by omega) hn).mono ?_
  rintro e w' ⟨rfl, h1, h2, h3⟩
  exact ⟨rfl, ⟨h1, h2⟩, h3⟩

def delF (L : List Fld) (name : ByteArray) : List Fld := L.filter fun f => !isN name f

set_option maxRecDepth 100000 in
set_option maxHeartbeats 2000000 in
theorem fdel_any (v : Value) (L : List Fld) (name : ByteArray) (hL : L.length ≤ 100000) (hsz : ∀ f ∈ L, f.1.size ≤ 2000) (hn : name.size ≤ 100000) (w : World) (hv : Rd w v L.length 2 (fldV L)) :
    Calls Tryz.prog 23 #[v, .string name] w (RetF w (delF L name)) := by
  have hmf : ∀ (fn : Fn) (first cap : Array Value) (w : World), (Instr.makeFunc fn first cap).run Tryz.prog w = .ok (.func fn first cap) w := fun _ _ _ _ => rfl
  obtain ⟨ao, cap, rfl⟩ := hv.form
  have hres : delF L name = keepF (stepN name) () L := (keepF_unit _ L).symm
  have HRES := Lib.hid hres
  have HV := hide hv
  have HSZ := hide hsz
  have hcl := hide (clone_any _ L hL (w.alloc (.cells #[.string name] 9)) ((unhide HV).alloc _))
  have hs1 : (w.alloc (.cells #[.string name] 9)).heap.size = w.heap.size + 1 := by simp
  have HS1 := Lib.hid hs1
  clear hres hv hsz hs1
  go_enter Tryz.func23, Tryz.ntmps23
  go_wp2_with (first
    | (go_at_call 52; refine (unhide hcl).mono ?_; rintro e w3 ⟨v3, rfl, ho3, hb3⟩; have B3 := hide hb3; have hdl := hide (delete_any (stepN name) 56 #[.pointer (some ⟨w.heap.size, 0, none⟩)] (w.alloc (.cells #[.string name] 9)).heap.size none _ (del_clo name hn w.heap.size _ (by simp)) (fun _ _ => rfl) v3 L (by omega) (unhide HSZ) () w3 ho3 ((hb3.block _ (by simp)).trans (alloc_at _ _)) hb3.size); clear ho3 hb3)
    | (go_at_call 51; refine (unhide hdl).mono ?_; rintro e w4 ⟨v4, rfl, ho4, hi4, ha4⟩; have H4 := hide ho4; have A4 := hide ha4; clear ho4 hi4 ha4))
  go_ret
  have hb3 := unhide B3
  have hb4 := (unhide A4).below
  have hs1 := HS1.out
  refine ⟨_, rfl, ?_, (((Below.refl _ _).alloc (Nat.le_refl _) _).trans (hb3.mono (by omega))).trans (hb4.mono (by omega))⟩
  rw [HRES.out]
  exact World.ownsRow.mono (unhide H4) (by omega)
end Go.Proofs.YtfohhhdebinikaaGreatDoor.Sp
