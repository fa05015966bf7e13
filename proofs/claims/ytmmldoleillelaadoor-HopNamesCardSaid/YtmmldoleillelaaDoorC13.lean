/- Strip. -/
import Derived.Test.YtmmldoleillelaaDoorC11
import Derived.Test.YtmmldoleillelaaDoorC12
namespace Go.Proofs.YtmmldoleillelaaDoor.Sp
open Go.RowKit Sl

theorem pieces_size : ∀ (n : Nat) (q : Bool) (cur l : List UInt8), l.length ≤ n → ∀ p ∈ pieces q cur l, p.length ≤ cur.length + l.length := by
  intro n
  induction n with
  | zero =>
    intro q cur l h p hp
    have : l = [] := List.eq_nil_of_length_eq_zero (by omega)
    subst this
    simp [pieces] at hp
    subst hp; simp
  | succ n ih =>
    intro q cur l h p hp
    match l with
    | [] => simp [pieces] at hp; subst hp; simp
    | [c] =>
      rw [pieces] at hp
      split at hp
      · simp at hp; subst hp; simp
      · split at hp
        · simp at hp; rcases hp with rfl | rfl <;> simp
        · simp at hp; subst hp; simp
    | c :: d :: t =>
      rw [pieces] at hp
      simp only [List.length_cons] at h ⊢
      split at hp
      · have := ih q (cur ++ [c, d]) t (by omega) p hp; simp at this; omega
      · split at hp
        · have := ih (!q) (cur ++ [c]) (d :: t) (by simp; omega) p hp; simp at this; omega
        · split at hp
          · rcases List.mem_cons.1 hp with rfl | hp
            · omega
            · have := ih q [] (d :: t) (by simp; omega) p hp; simp at this; omega
          · have := ih q (cur ++ [c]) (d :: t) (by simp; omega) p hp; simp at this; omega
theorem splitB_size (s : ByteArray) : ∀ x ∈ splitB s, x.size ≤ s.size := by
  intro x hx
  unfold splitB splitS keep at hx
  obtain ⟨l, hl, rfl⟩ := List.mem_map.1 hx
  obtain ⟨p, hp, rfl⟩ := List.mem_map.1 (List.mem_filter.1 hl).1
  have h1 := pieces_size s.data.toList.length false [] s.data.toList (Nat.le_refl _) p hp
  have h2 := trim_len p
  have h3 : (ofL (trimW p)).size = (trimW p).length := size_list rfl
  rw [h3]
  simp at h1
  omega
theorem listB_few {L : List Fld} (hL : Few L) (name : ByteArray) : FewS (listB L name) := by
  obtain ⟨h1, h2⟩ := allB_small hL name
  refine ⟨?_, fun x hx => ?_⟩
  · have h3 := flat_len (allB L name) 2000 h2
    have h4 : (allB L name).length * 2001 ≤ 100 * 2001 := Nat.mul_le_mul_right _ h1
    have h5 : (allB L name).length * (2000 + 1) = (allB L name).length * 2001 := rfl
    unfold listB
    omega
  · unfold listB flatB at hx
    obtain ⟨s, hs, hx⟩ := List.mem_flatMap.1 hx
    have := splitB_size s x hx
    have := h2 s hs
    omega

def connB : ByteArray := ⟨#[67, 111, 110, 110, 101, 99, 116, 105, 111, 110]⟩
def stepG (K : List ByteArray) (_ : Unit) (f : Fld) : Bool × Unit := (goneS K f.1, ())
def stripF (L : List Fld) : List Fld := L.filter fun f => !goneS ((listB L connB).map low) f.1
theorem keepF_unit (p : Fld → Bool) (L : List Fld) : keepF (fun (_ : Unit) f => (p f, ())) () L = L.filter fun f => !p f := by
  induction L with
  | nil => rfl
  | cons f t ih =>
    rw [keepF]
    cases hp : p f
    · rw [if_neg (by simp), List.filter_cons_of_pos (by simp [hp])]
      exact congrArg (f :: ·) ih
    · rw [if_pos rfl, List.filter_cons_of_neg (by simp [hp])]
      exact ih

theorem strip_clo (g b n : Nat) (K : List ByteArray) (B : Nat) (hg : g < B) (hb : b < B) :
    Clo 37 #[.pointer (some ⟨g, 0, none⟩)] B none (fun w (_ : Unit) => w.heap[g]? = some (.cells #[.map (some b)] 49 (0, 0)) ∧ isSet w b n K) (stepG K) := by
  refine ⟨fun w w' s h hbl => ⟨(hbl.block g hg).trans h.1, ?_⟩, fun w s f h hf hB => ?_, fun T h => by cases h⟩
  · obtain ⟨es, clock, h1, F, hs, hD⟩ := h.2
    exact ⟨es, clock, (hbl.block b hb).trans h1, F, hs, hD⟩
  · refine (strip1_any f.1 f.2 g b n K w h.1 h.2 (by omega)).mono ?_
    rintro e w' ⟨rfl, hbl⟩
    exact ⟨rfl, ⟨(hbl.block g (by omega)).trans h.1, h.2.call hbl⟩, hbl.os, hbl.tape, hbl.output, hbl.size, fun k hk _ => hbl.block k hk⟩

set_option maxRecDepth 100000 in
set_option maxHeartbeats 2000000 in
theorem strip_any (v : Value) (L : List Fld) (hL : Few L) (w : World) (hv : Rd w v L.length 2 (fldV L)) :
    Calls Tryd.prog 10 #[v] w (RetF w (stripF L)) := by
  have hmf : ∀ (fn : Fn) (first cap : Array Value) (w : World), (Instr.makeFunc fn first cap).run Tryd.prog w = .ok (.func fn first cap) w := fun _ _ _ _ => rfl
  obtain ⟨ao, cap, rfl⟩ := hv.form
  obtain ⟨M, hM⟩ : ∃ M, listB L connB = M := ⟨_, rfl⟩
  have hfew := listB_few hL connB
  rw [hM] at hfew
  have hlist := hide (flist_any _ L connB hL (by decide) w hv)
  rw [hM] at hlist
  have hres : stripF L = keepF (stepG (M.map low)) () L := by rw [← hM]; exact (keepF_unit _ L).symm
  have HM := Lib.hid hM
  have HRES := Lib.hid hres
  have HV := hide hv
  have HF := hide hfew
  have hl100 := hL.1
  have hsz : ∀ f ∈ L, f.1.size ≤ 2000 := fun f hf => (hL.2 f hf).1
  have HSZ := hide hsz
  clear hM hres hv hfew hL hsz
  go_enter Tryd.func10, Tryd.ntmps10
  go_wp2_with (first
    | (go_at_call 34; refine (unhide hlist).mono ?_; rintro e w1 ⟨v1, rfl, ho1, hb1⟩; have H1 := hide ho1; have B1 := hide hb1; have hnm := hide (names_any _ M (unhide HF) w1 (Rd.own ho1)); clear ho1 hb1)
    | (go_at_call 33; refine (unhide hnm).mono ?_; rintro e w2 ⟨b, rfl, hs2, hb2⟩; have B2 := hide ((unhide B1).trans (hb2.mono (unhide B1).size)); have S2 := hide hs2; have hcl := hide (clone_any _ L (by omega) (w2.alloc (.cells #[.map (some b)] 49)) (((unhide HV).below (unhide B2)).alloc _)); clear hs2 hb2)
    | (go_at_call 36; refine (unhide hcl).mono ?_; rintro e w3 ⟨v3, rfl, ho3, hb3⟩; have H3 := hide ho3; have B3 := hide hb3; have hdl := hide (delete_any (stepG (M.map low)) 37 #[.pointer (some ⟨w2.heap.size, 0, none⟩)] (w2.alloc (.cells #[.map (some b)] 49)).heap.size none _ (strip_clo w2.heap.size b M.length (M.map low) _ (by simp) (Nat.lt_of_lt_of_le (World.ownsMap.lt (unhide S2)) (by simp))) (fun _ _ => rfl) v3 L (by omega) (unhide HSZ) () w3 ho3 ⟨(hb3.block _ (by simp)).trans (alloc_at _ _), ((unhide S2).call ((Below.refl _ _).alloc (Nat.le_refl _) _)).call hb3⟩ hb3.size); clear ho3 hb3)
    | (go_at_call 35; refine (unhide hdl).mono ?_; rintro e w4 ⟨v4, rfl, ho4, hi4, ha4⟩; have H4 := hide ho4; have A4 := hide ha4; clear ho4 hi4 ha4))
  go_ret
  have hb2 := unhide B2
  have hb3 := unhide B3
  have hb4 := (unhide A4).below
  have hs1 : (w2.alloc (.cells #[.map (some b)] 49)).heap.size = w2.heap.size + 1 := by simp
  refine ⟨_, rfl, ?_, (hb2.trans ((((Below.refl _ _).alloc (Nat.le_refl _) _).trans (hb3.mono (by omega))).mono hb2.size)).trans (hb4.mono (by have := hb2.size; omega))⟩
  rw [HRES.out]
  exact World.ownsRow.mono (unhide H4) (by have := hb2.size; omega)
end Go.Proofs.YtmmldoleillelaaDoor.Sp
