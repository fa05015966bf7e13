/- What field.Names tells, collected. -/
import Derived.Test.YtfohhhdebinikaaGreatDoorN1
namespace Go.Proofs.YtfohhhdebinikaaGreatDoor.Sp
open Go.RowKit Sl Go.Maps Go.Shelf
attribute [local go_sem] Oper.semAt_some

theorem KpN_t {n₀ : Nat} {A B C : World} (h : KpN n₀ A B) (k : KpN n₀ B C) : KpN n₀ A C := ⟨belowK_t h.1 k.1, walksK_t h.2 k.2⟩
theorem KpN_b {n₀ : Nat} {w : World} (hn : n₀ ≤ w.heap.size) (W : World) (l : Nat) (o o' : Obj) (hl : w.heap.size ≤ l) (h : W.heap[l]? = some o) (hc : o.isCells = false) (hw : o.isWalk = false) : KpN n₀ W (W.putObj l o') :=
  ⟨belowK_b hn W l o o' hl h hc hw, walksK_b (w := w) W l o o' hl h hc hw⟩

set_option maxHeartbeats 1000000 in
theorem names0_in (n : Nat) (ao : Option Addr) (m cap : Nat) (w : World) :
    CallsIn Fence.wide n Tryz.prog 48 #[.slice ao m cap] w fun e w' => e = .returned (.func (.func 67) #[] #[.pointer (some ⟨w.heap.size, 0, none⟩)]) ∧ w' = w.alloc (.cells #[.slice ao m cap] 22) := by
  refine callsIn_of_wp Tryz.func48 rfl trivial ?_ rfl
  simp only [Tryz.ntmps48, List.size_toArray, List.length_cons, List.length_nil, Nat.reduceAdd, Nat.reduceSub, Array.replicate_succ, Array.replicate_zero, List.push_toArray, List.append_toArray, List.nil_append, List.cons_append]
  gi_wp2
  go_ret
  exact ⟨rfl, rfl⟩

theorem names_stops (n : Nat) (hn : 1 ≤ n) (Bn : Nat) (u : Value) (L : List Fld) (hL : L.length ≤ 1000000) (hf : ∀ f ∈ L, f.1.size ≤ 100000) (w0 w : World) (hu : Rd w0 u L.length 2 (fldV L)) (hb : Below w0.heap.size w0 w) (hBn : w.cell? ⟨Bn, 0, none⟩ = some u) :
    SeqStopsK Fence.wide n Tryz.prog 67 #[.pointer (some ⟨Bn, 0, none⟩)] (fun x : ByteArray => #[.string x]) (KpN w0.heap.size) (fun ys => ys = uniq L) (fun _ => True) L.length w := fun l J Jx W hW hJ _ hY h0 =>
  names1_in n hn l Bn u L hL hf w0 hu J Jx hY W hJ (hb.trans (hW.mono hb.size)) (cell_call hW hBn) h0

theorem seq_eql (g : Nat) (lb : Array Value) (w : World) : (binOp .eql 68 (.func (.func g) #[] lb) .nilFunc).run Tryz.prog w = .ok (.bool false) w := by
  first | kernel_rfl | (simp [binOp, go_sem]; done)

theorem infoS : (Tryz.prog.info? 9).map (fun i => (i.zero, i.size, i.bytes)) = some (some (.string ⟨#[]⟩), 1, 16) := by kernel_rfl

set_option maxRecDepth 100000 in
set_option maxHeartbeats 4000000 in
theorem lnames_in (n : Nat) (hn : 4 ≤ n) (u : Value) (L : List Fld) (hL : L.length ≤ 1000000) (hf : ∀ f ∈ L, f.1.size ≤ 100000) (w : World) (hu : Rd w u L.length 2 (fldV L)) :
    CallsIn Fence.wide n Tryz.prog 17 #[u] w fun e W' => ∃ v, e = .returned (.tuple #[v, .bool true]) ∧ W'.ownsRow w.heap.size 9 1 v (uniq L).length (strV (uniq L)) ∧ Below w.heap.size w W' := by
  have h1 : 1 ≤ n := by omega
  obtain ⟨i0, hi, hz0, hz1, hz2⟩ := info_parts infoS
  obtain ⟨ao, cap, rfl⟩ := hu.form
  have HU := hide hu
  have HF := hide hf
  clear hu hf
  have hse := seq_eql 67
  refine callsIn_of_wp_marks Tryz.func17 rfl trivial ?_ rfl
  simp only [Tryz.ntmps17, List.size_toArray, List.length_cons, List.length_nil, Nat.reduceAdd, Nat.reduceSub, Array.replicate_succ, Array.replicate_zero, List.push_toArray, List.append_toArray, List.nil_append, List.cons_append]
  gi_wp2_with (refine ⟨trivial, ?_⟩; gi_at_call 48; refine (names0_in (n - 1) _ _ _ _).mono ?_; rintro e w' ⟨rfl, rfl⟩)
  have s1 : (w.alloc (.cells #[.slice ao L.length cap] 22)).heap.size = w.heap.size + 1 := by simp
  have s2 : ((w.alloc (.cells #[.slice ao L.length cap] 22)).alloc (.cells #[.slice none 0 0] 37)).heap.size = w.heap.size + 1 + 1 := by simp
  have s3 : (((w.alloc (.cells #[.slice ao L.length cap] 22)).alloc (.cells #[.slice none 0 0] 37)).alloc (.cells #[.bool false] 4)).heap.size = w.heap.size + 1 + 1 + 1 := by simp
  have s4 : ((((w.alloc (.cells #[.slice ao L.length cap] 22)).alloc (.cells #[.slice none 0 0] 37)).alloc (.cells #[.bool false] 4)).alloc (.cells #[.slice ao L.length cap] 22)).heap.size = w.heap.size + 1 + 1 + 1 + 1 := by simp
  have bL := (((Boxed.new w 22 (.slice ao L.length cap)).alloc (.cells #[.slice none 0 0] 37)).alloc (.cells #[.bool false] 4)).alloc (.cells #[.slice ao L.length cap] 22) |>.alloc (.cells #[.slice none 0 0] 37)
  have bR := ((Boxed.new (w.alloc (.cells #[.slice ao L.length cap] 22)) 37 (.slice none 0 0)).alloc (.cells #[.bool false] 4)).alloc (.cells #[.slice ao L.length cap] 22) |>.alloc (.cells #[.slice none 0 0] 37)
  have bK := ((Boxed.new ((w.alloc (.cells #[.slice ao L.length cap] 22)).alloc (.cells #[.slice none 0 0] 37)) 4 (.bool false)).alloc (.cells #[.slice ao L.length cap] 22)).alloc (.cells #[.slice none 0 0] 37)
  have bC := (Boxed.new (((w.alloc (.cells #[.slice ao L.length cap] 22)).alloc (.cells #[.slice none 0 0] 37)).alloc (.cells #[.bool false] 4)) 22 (.slice ao L.length cap)).alloc (.cells #[.slice none 0 0] 37)
  have bO := Boxed.new ((((w.alloc (.cells #[.slice ao L.length cap] 22)).alloc (.cells #[.slice none 0 0] 37)).alloc (.cells #[.bool false] 4)).alloc (.cells #[.slice ao L.length cap] 22)) 37 (.slice none 0 0)
  have hB0 : Below w.heap.size w (((((w.alloc (.cells #[.slice ao L.length cap] 22)).alloc (.cells #[.slice none 0 0] 37)).alloc (.cells #[.bool false] 4)).alloc (.cells #[.slice ao L.length cap] 22)).alloc (.cells #[.slice none 0 0] 37)) :=
    (((((Below.refl _ w).alloc (Nat.le_refl _) _).alloc (by simp) _).alloc (by simp; omega) _).alloc (by simp; omega) _).alloc (by simp; omega) _
  have s5 : (((((w.alloc (.cells #[.slice ao L.length cap] 22)).alloc (.cells #[.slice none 0 0] 37)).alloc (.cells #[.bool false] 4)).alloc (.cells #[.slice ao L.length cap] 22)).alloc (.cells #[.slice none 0 0] 37)).heap.size = w.heap.size + 5 := by simp
  rw [s1] at bR
  rw [s2] at bK
  rw [s3] at bC
  rw [s4] at bO
  generalize ((((w.alloc (.cells #[.slice ao L.length cap] 22)).alloc (.cells #[.slice none 0 0] 37)).alloc (.cells #[.bool false] 4)).alloc (.cells #[.slice ao L.length cap] 22)).alloc (.cells #[.slice none 0 0] 37) = w5 at *
  clear s1 s2 s3 s4
  refine wpIn_rangeFunc_ownG rfl h1 (gf := 67) (lb := #[.pointer (some ⟨w.heap.size + 1 + 1 + 1, 0, none⟩)]) rfl trivial (enters_of Tryz.func67 (by kernel_rfl) rfl)
    (names_stops (n - 1) (by omega) (w.heap.size + 1 + 1 + 1) _ L hL (unhide HF) w w5 (unhide HU) hB0 bC.cell) KpN_t (KpN_b (by omega)) (Below.refl _ _) (fun _ => rfl)
    (fun pre W => (∃ v, Boxed W (w.heap.size + 1 + 1 + 1 + 1) 37 v ∧ W.ownsRow w.heap.size 9 1 v pre.length (strV pre) ∧ True) ∧ ((Boxed W w.heap.size 22 (.slice ao L.length cap) ∧ (Boxed W (w.heap.size + 1) 37 (.slice none 0 0) ∧ Boxed W (w.heap.size + 1 + 1) 4 (.bool false))) ∧ Below w.heap.size w W))
    (fun _ _ _ => False)
    (OwnFrom.and (Own.from (holdsRow_own w.heap.size (w.heap.size + 1 + 1 + 1 + 1) 37 9 1 (fun pre => pre.length) (fun pre => strV pre) (fun _ _ => True)) _)
      (OwnFrom.and (OwnFrom.and (Own.from (boxed_own _ _ _) _) (OwnFrom.and (Own.from (boxed_own _ _ _) _) (Own.from (boxed_own _ _ _) _))) (ownFrom_below (Nat.le_refl _) (by omega))))
    (fun _ _ _ _ _ hs _ _ => hs)
    ⟨⟨_, bO, World.ownsRow_nil _ _ _ _, trivial⟩, ⟨bL, bR, bK⟩, hB0⟩
    (fun x => { tmps := #[.slice ao L.length cap, .pointer (some ⟨w.heap.size, 0, none⟩), .pointer (some ⟨w.heap.size + 1, 0, none⟩), .pointer (some ⟨w.heap.size + 1 + 1, 0, none⟩), .func (.func 67) #[] #[.pointer (some ⟨w.heap.size + 1 + 1 + 1, 0, none⟩)], .pointer (some ⟨w.heap.size + 1 + 1 + 1 + 1, 0, none⟩), .string x, .slice ao L.length cap, .func (.func 67) #[] #[.pointer (some ⟨w.heap.size + 1 + 1 + 1, 0, none⟩)], .func (.func 67) #[] #[.pointer (some ⟨w.heap.size + 1 + 1 + 1, 0, none⟩)], .bool false, .func (.func 67) #[] #[.pointer (some ⟨w.heap.size + 1 + 1 + 1, 0, none⟩)], .string x, undef, undef, undef, undef, undef, undef, undef, undef, undef, undef], defers := [] }) ?assign ?body ?done ?stop
  case assign =>
    intro l x W K hK
    gi_wp2
    exact hK
  case body =>
    rintro l pre x W ⟨⟨v, hv, hrow, _⟩, ⟨bL, bR, bK⟩, hB⟩ hlt
    have hc := hv.cell
    have hc2 := bL.cell
    obtain ⟨va, vc, rfl⟩ := (Rd.own hrow).form
    gi_wp2_with (gi_at_builtin; refine wpListIn_append_own _ rfl _ _ 37 rfl w.heap.size 9 i0 (.string ⟨#[]⟩) 1 16 Tryz.underlying37 hi hz0 hz1 hz2 rfl (by decide) _ _ _ rfl (hrow.alloc _) ⟨W.heap.size, 0, none⟩ 1 1 [.string x] rfl rfl (cell_one_new _ _ _) (by simp [Value.oneCell']) (by unfold maxLen; omega) (by omega) (by have := hB.size; simp; omega) ?_; intro v' w1 hown' hgrow _; obtain ⟨g', cap', rfl⟩ := ownsRow_succ hown'; obtain ⟨hv1, hv2, hr2, hk2, hb2⟩ := hv.appended (by decide) hrow hB.size (by omega) hown' hgrow; have hc1 := hv1.cell; have hf1 := hv1.frozen)
    have kp : ∀ {B : Nat} {t : TypeId} {u : Value}, Boxed W B t u → t ≠ 9 → B ≠ w.heap.size + 1 + 1 + 1 + 1 → Boxed (w1.setCell ⟨w.heap.size + 1 + 1 + 1 + 1, 0, none⟩ (.slice (some ⟨g', 0, none⟩) (pre.length + 1) cap')) B t u :=
      fun h hte hne => ((h.alloc _).kept hgrow (h.not_row hte hrow)).other hne _
    have hsv : strV (pre ++ [x]) = strV pre ++ [.string x] := by simp [strV]
    exact ⟨hk2.from _, ⟨hb2, hk2.walks⟩, ⟨_, hv2, by rw [hsv, List.length_append]; exact hr2, trivial⟩, ⟨kp bL (by decide) (by omega), kp bR (by decide) (by omega), kp bK (by decide) (by omega)⟩, hB.trans hb2⟩
  case done =>
    rintro D ys W hD rfl ⟨⟨v, hv, hrow, _⟩, ⟨bL, bR, bK⟩, hB⟩ hK
    have hc := hv.cell
    have hc1 := bR.cell
    have hf1 := bR.frozen
    have hc2 := bK.cell
    have hf2 := bK.frozen
    obtain ⟨va, vc, rfl⟩ := (Rd.own hrow).form
    gi_wp2
    have bR2 := (bR.set (.slice va (uniq L).length vc)).other (B' := w.heap.size + 1 + 1) (by omega) (.bool true)
    have bK2 := (bK.other (B' := w.heap.size + 1) (by omega) (.slice va (uniq L).length vc)).set (.bool true)
    have hr1 := hrow.kept (grownBy_setCell' W (w.heap.size + 1) (.slice va (uniq L).length vc)) (.inr (bR.not_row (by decide) hrow).symm)
    have hr2 := hr1.kept (grownBy_setCell' _ (w.heap.size + 1 + 1) (.bool true)) (.inr ((bK.other (B' := w.heap.size + 1) (by omega) (.slice va (uniq L).length vc)).not_row (by decide) hr1).symm)
    have hK2 := (KeepsOthers.setCell (W.setCell ⟨w.heap.size + 1, 0, none⟩ (.slice va (uniq L).length vc)) ⟨w.heap.size + 1 + 1, 0, none⟩ (.bool true)).same D _ ((KeepsOthers.setCell W ⟨w.heap.size + 1, 0, none⟩ (.slice va (uniq L).length vc)).same D _ hK rfl) rfl
    have hB2 := (hB.setCell (p := ⟨w.heap.size + 1, 0, none⟩) (by simp) (.slice va (uniq L).length vc)).setCell (p := ⟨w.heap.size + 1 + 1, 0, none⟩) (by simp; omega) (.bool true)
    generalize (W.setCell ⟨w.heap.size + 1, 0, none⟩ (.slice va (uniq L).length vc)).setCell ⟨w.heap.size + 1 + 1, 0, none⟩ (.bool true) = W2 at *
    have hB3 := hB2.trans (belowK_b (w := w) (Nat.le_refl _) W2 D _ (.deferred none) (by omega) hK2 rfl rfl)
    have hr3 := ownsRow_putObj hr2 (.deferred none) hK2 rfl
    have c1 := cell_kept bR2.cell (grownBy_putObj' W2 D (.deferred none)) (fun r e => by cases e; exact ⟨_, hK2, rfl⟩)
    have c2 := cell_kept bK2.cell (grownBy_putObj' W2 D (.deferred none)) (fun r e => by cases e; exact ⟨_, hK2, rfl⟩)
    refine ⟨by simp, .inl ⟨_, _, rfl, run_takeDeferred hK2, ?_⟩⟩
    exact ⟨_, by simp [results, Tryz.results17, go_sem, *], _, rfl, hr3, hB3⟩
  case stop =>
    rintro D c pre W _ _ h _
    exact h.elim
theorem lnames_any (u : Value) (L : List Fld) (hL : L.length ≤ 1000000) (hf : ∀ f ∈ L, f.1.size ≤ 100000) (w : World) (hu : Rd w u L.length 2 (fldV L)) :
    Calls Tryz.prog 17 #[u] w fun e W' => ∃ v, e = .returned (.tuple #[v, .bool true]) ∧ W'.ownsRow w.heap.size 9 1 v (uniq L).length (strV (uniq L)) ∧ Below w.heap.size w W' :=
  callsIn_wide.1 (lnames_in 4 (Nat.le_refl _) u L hL hf w hu)
end Go.Proofs.YtfohhhdebinikaaGreatDoor.Sp
