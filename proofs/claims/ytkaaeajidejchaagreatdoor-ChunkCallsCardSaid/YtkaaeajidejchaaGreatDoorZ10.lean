/- Lemmas for the statement's proof, several texts in one: Rf, M9, P14, T6, L1, C21, Frame. -/
import Derived.Test.YtkaaeajidejchaaGreatDoorZ09
import Derived.Test.YtkaaeajidejchaaGreatDoorZ04
import Derived.Test.YtkaaeajidejchaaGreatDoorZ06
import Derived.OrdersHeld
import Derived.Lib.BufferRead
import Derived.Test.YtkaaeajidejchaaGreatDoorZ08
import Derived.Test.YtkaaeajidejchaaGreatDoorZ05
import Derived.Test.YtkaaeajidejchaaGreatDoorZ01
import Derived.Lib.AppendIntMem
import Derived.Lib.LaidTab
import Derived.LaidSub
import Derived.LaidLaws
import Derived.Lib.TrailingZeros
import Derived.ProofKit
import Derived.OpenShut
import Derived.Deep.SlicePairs
import Derived.SizedLaws
import Derived.Lib.SmallJoins
import Derived.Test.YtkaaeajidejchaaGreatDoorRows
import Derived.WalkKit
import Derived.Below
import Derived.Carry
/- The reference's Check, Line and Bytes (chapter 2), for seats that hold Rt and Ch: lines of R5. -/
namespace Go.Proofs.YtkaaeajidejchaaGreatDoor.Reg
open Go.RowKit Go

section
variable {P : Program} {ops : Array Oper} {md : Region.Mode} {S : World → Prop} {Q : Exit → Act → World → Prop}

inductive Plan where
  | done
  | run (π : List Nat) (p : Plan)
  | two (i j : Nat) (p q : Plan)

def planB (md : Region.Mode) (ops : Array Oper) : Plan → Array Bool → Bool
  | .done, listed => (Region.ready md ops listed).isEmpty
  | .run π p, listed => mixP md ops π listed && planB md ops p (lay listed π)
  | .two i j p q, listed => (decide (Region.ready md ops listed = [i, j]) && ((ops[i]?).isSome && (ops[j]?).isSome)) && (planB md ops p (listed.setIfInBounds i true) && planB md ops q (listed.setIfInBounds j true))
def planLen : Plan → Nat
  | .done => 0
  | .run π p => π.length + planLen p
  | .two _ _ p q => 1 + max (planLen p) (planLen q)
def wpPlan (P : Program) (ops : Array Oper) (S : World → Prop) (Q : Exit → Act → World → Prop) (l : List Oper) : Plan → Act → World → Prop
  | .done, a, w => Q .normal a w
  | .run π p, a, w => wpMix P ops S (fun _ a w => wpPlan P ops S Q l p a w) (pickL l π) a w
  | .two i j p q, a, w => wpList P ops (Then S (wpPlan P ops S Q l p)) (pickL l [i]) a w ∧ wpList P ops (Then S (wpPlan P ops S Q l q)) (pickL l [j]) a w

theorem wpAnyH_mixK {l : List Oper} {K : Act → World → Prop} (hsel : Region.noSelect l.toArray = true) (hQ : ∀ c a d v w, Q (.panic c) (Act.put a d v) w → Q (.panic c) a w) :
    ∀ (π : List Nat) (f : Nat) (listed : Array Bool) (a : Act) (w : World), mixP md l.toArray π listed = true → S w → π.length ≤ f →
      (∀ f' a' w', f ≤ f' + π.length → S w' → K a' w' → wpAnyH P md l.toArray Q S f' (lay listed π) a' w') → wpMix P l.toArray S (fun _ a w => K a w) (pickL l π) a w → wpAnyH P md l.toArray Q S f listed a w
  | [], f, listed, a, w, _, hS, _, hK, h => hK f a w (by simp) hS h
  | i :: π, 0, _, _, _, _, _, hl, _, _ => absurd hl (by simp)
  | i :: π, f + 1, listed, a, w, hB, hS, hl, hK, h => by
    simp only [mixP, Bool.and_eq_true] at hB
    obtain ⟨hB, hB'⟩ := hB
    have hK' : ∀ f' a' w', f ≤ f' + π.length → S w' → K a' w' → wpAnyH P md l.toArray Q S f' (lay (listed.setIfInBounds i true) π) a' w' :=
      fun f' a' w' hf hs hk => hK f' a' w' (by simp; omega) hs hk
    cases hi : l.toArray[i]? with
    | none => simp [hi] at hB
    | some o =>
      simp only [hi] at hB
      have hi' : l[i]? = some o := by simpa using hi
      simp only [pickL, hi', wpMix] at h
      by_cases hr : readKind o.op = true
      · simp only [hr, if_true, Bool.and_eq_true] at hB h
        obtain ⟨v, hy, h⟩ := h
        exact wpAnyH_take hi hsel hB.2 hB.1 (fun c a w => hQ c a _ _ w) hy hS (wpAnyH_mixK hsel hQ π f _ _ w hB' hS (by simpa using hl) hK' h)
      · simp only [hr, Bool.false_eq_true, if_false, decide_eq_true_eq] at hB h
        refine wpAnyH_all hB (by simp) fun j hj => ?_
        rw [List.mem_singleton] at hj
        subst hj
        exact wpOp_mono (fun a' w' h' => ⟨h'.1, wpAnyH_mixK hsel hQ π f _ _ w' hB' h'.1 (by simpa using hl) hK' h'.2⟩) (wpOp_of_then hi h)

theorem wpAnyH_plan {l : List Oper} (hsel : Region.noSelect l.toArray = true) (hQ : ∀ c a d v w, Q (.panic c) (Act.put a d v) w → Q (.panic c) a w) :
    ∀ (p : Plan) (f : Nat) (listed : Array Bool) (a : Act) (w : World), planB md l.toArray p listed = true → S w → planLen p ≤ f → wpPlan P l.toArray S Q l p a w → wpAnyH P md l.toArray Q S f listed a w
  | .done, f, listed, a, w, hB, _, _, h => wpAnyH_done (by simpa [planB] using hB) h f
  | .run π p, f, listed, a, w, hB, hS, hl, h => by
    simp only [planB, Bool.and_eq_true] at hB
    simp only [planLen] at hl
    exact wpAnyH_mixK hsel hQ π f listed a w hB.1 hS (by omega) (fun f' a' w' hf hs hk => wpAnyH_plan hsel hQ p f' _ a' w' hB.2 hs (by omega) hk) h
  | .two i j p q, 0, _, _, _, _, _, hl, _ => absurd hl (by simp [planLen])
  | .two i j p q, f + 1, listed, a, w, hB, hS, hl, h => by
    simp only [planB, Bool.and_eq_true, decide_eq_true_eq] at hB
    obtain ⟨⟨hr, hsi, hsj⟩, hp, hq⟩ := hB
    simp only [planLen] at hl
    obtain ⟨oi, hi⟩ := Option.isSome_iff_exists.1 hsi
    obtain ⟨oj, hj⟩ := Option.isSome_iff_exists.1 hsj
    have hi' : l[i]? = some oi := by simpa using hi
    have hj' : l[j]? = some oj := by simpa using hj
    simp only [wpPlan, pickL, hi', hj'] at h
    refine wpAnyH_all hr (by simp) fun k hk => ?_
    rcases List.mem_cons.1 hk with rfl | hk
    · exact wpOp_mono (fun a' w' h' => ⟨h'.1, wpAnyH_plan hsel hQ p f _ _ w' hp h'.1 (by omega) h'.2⟩) (wpOp_of_then hi h.1)
    · rw [List.mem_singleton] at hk
      subst hk
      exact wpOp_mono (fun a' w' h' => ⟨h'.1, wpAnyH_plan hsel hQ q f _ _ w' hq h'.1 (by omega) h'.2⟩) (wpOp_of_then hj h.2)

theorem region_plan {w0 : World} {id : Nat} {a : Act} {w : World} {l : List Oper} (p : Plan) (hm : P.follows .mixedOrders = true) (hsel : Region.noSelect l.toArray = true) (hB : planB .any l.toArray p (Array.replicate l.toArray.size false) = true) (hn : planLen p ≤ l.toArray.size)
    (hQ : ∀ c a d v w, Q (.panic c) (Act.put a d v) w → Q (.panic c) a w) (h0 : Below w0.heap.size w0 w) (h : wpPlan P l.toArray (fun w' => ∃ x : More w0, w' = x.w) Q l p a w.drew) : (Code.region id l.toArray true).wp P Q a w :=
  wp_region_held hm (wpAnyH_plan hsel hQ p _ _ a _ hB ⟨⟨w.drew, h0.drew⟩, rfl⟩ hn h)
end
end Go.Proofs.YtkaaeajidejchaaGreatDoor.Reg

namespace Go.Proofs.YtkaaeajidejchaaGreatDoor.Sp
open Go.RowKit Sl

set_option maxRecDepth 100000 in
set_option maxHeartbeats 2000000 in
theorem rcheck_any (x y : ByteArray) (hx : x.size ≤ 1000000) (hy : y.size ≤ 1000000) (w : World) :
    Calls Tryz.prog 54 #[.agg #[.string x, .string y]] w fun e w' => e = .returned (.int .i64 (errI (chkS (x, y)))) ∧ Below w.heap.size w w' := by
  have h1 := fun w => rtoken_any x (by omega) w
  have h2 := fun w => chars_any y (by omega) w
  have h3 := fun w => rtrim_any y (by omega) w
  have hc : chkS (x, y) = ((tokenS x.data.toList && allS chr y.data.toList) && ((ofL (trimW y.data.toList)).toList == y.toList)) := rfl
  rw [hc]
  obtain ⟨z, hz⟩ : ∃ z, ofL (trimW y.data.toList) = z := ⟨_, rfl⟩
  obtain ⟨a, ha⟩ : ∃ a, tokenS x.data.toList = a := ⟨_, rfl⟩
  obtain ⟨b, hb⟩ : ∃ b, allS chr y.data.toList = b := ⟨_, rfl⟩
  rw [ha] at h1 ⊢
  rw [hb] at h2 ⊢
  rw [hz] at h3 ⊢
  have H1 := hide h1
  have H2 := hide h2
  have H3 := hide h3
  clear h1 h2 h3 hc hz ha hb
  go_enter Tryz.func54, Tryz.ntmps54
  go_upto_region 1 with fail
  have HH := Reg.Has.new w [.string x, .string y] 50
  have HB := hide ((Below.refl w.heap.size w).alloc (Nat.le_refl _) (.cells #[.string x, .string y] 50))
  generalize w.alloc (.cells #[.string x, .string y] 50) = w1 at HH HB ⊢
  have p1 := HH.cell 0 _ rfl; have q1 := HH.cell 1 _ rfl; have u1 := HH.free 0 (by simp); have v1 := HH.free 1 (by simp); have z1 := HH.lt
  clear HH
  cases a <;> cases b
  all_goals
    refine Reg.region_more (by kernel_rfl) (by kernel_rfl) ?_
    repeat (go_big_quiet_step ((first | (go_at_call 76; exact Reg.Calls.more_same (unhide H1 _)) | (go_at_call 40; exact Reg.Calls.more_same (unhide H2 _)) | (go_at_call 77; exact Reg.Calls.more_same (unhide H3 _)))))
    refine wpQuiet_nil ?_
    intro w9 hb9; obtain ⟨hc9, hf9, hz9⟩ := bcell hb9; (try simp at hz9)
    have HB9 := hide ((unhide HB).trans (hb9.mono (unhide HB).size))
    clear hb9 hc9 hf9
  · go_wp2_with fail
    go_ret
    exact ⟨rfl, unhide HB9⟩
  · go_wp2_with fail
    go_ret
    exact ⟨rfl, unhide HB9⟩
  · go_wp2_with fail
    go_ret
    exact ⟨rfl, unhide HB9⟩
  · cases hzy : (z.toList == y.toList)
    · go_wp2_with fail
      go_ret
      exact ⟨by rw [hzy] <;> rfl, unhide HB9⟩
    · go_wp2_with fail
      go_ret
      exact ⟨by rw [hzy] <;> rfl, unhide HB9⟩


theorem cutS_at (c : UInt8) : ∀ (l : List UInt8) (k : Nat), (l.take k).all (fun b => b != c) = true → l[k]? = some c → cutS c l = (l.take k, l.drop (k + 1), true)
  | [], k, _, h => by simp at h
  | b :: t, 0, _, h => by
    have e : b = c := by simpa using h
    rw [cutS, if_pos e]
    simp
  | b :: t, k + 1, ha, h => by
    rw [List.take_succ_cons, List.all_cons, Bool.and_eq_true] at ha
    have hb : b ≠ c := by simpa using ha.1
    have ih := cutS_at c t k ha.2 (by simpa using h)
    rw [cutS, if_neg hb, ih]
    rfl
theorem cutS_none (c : UInt8) : ∀ l : List UInt8, l.all (fun b => b != c) = true → cutS c l = (l, [], false)
  | [], _ => rfl
  | b :: t, ha => by
    rw [List.all_cons, Bool.and_eq_true] at ha
    have hb : b ≠ c := by simpa using ha.1
    rw [cutS, if_neg hb, cutS_none c t ha.2]
theorem byte_ne (b : UInt8) (c : UInt8) : (((b.toNat : Nat) : Int) != (c.toNat : Int)) = (b != c) := by
  by_cases h : b = c
  · subst h; simp
  · have h1 : ((b.toNat : Nat) : Int) ≠ (c.toNat : Int) := fun e => h (UInt8.toNat_inj.1 (by omega))
    rw [bne_iff_ne.2 h1, bne_iff_ne.2 h]



theorem infoU8 : (Tryz.prog.info? 5).map (fun i => (i.zero, i.size, i.bytes)) = some (some (.int .u8 0), 1, 1) := by kernel_rfl
section
variable {ops : Array Oper} {rest : List Oper} {o : Oper} {a : Act} {w : World} {Q : Exit → Act → World → Prop}
theorem wpList_pushStr {w0 : World} (hgd : o.guard = none) (s x : Operand) (ho : o.op = .call { callee := .builtin .append, args := #[s, x], argTypes := #[56, 9] })
    (base : Nat) (v : Value) (n : Nat) (l : List UInt8) (hl : l.length = n) (hs : a.eval s = v) (hown : Sl.Own w0 w base 5 1 v n (Lib.byteCells l)) (u : ByteArray) (hx : a.eval x = .string u) (hn : n + u.size ≤ 100000000000)
    (h : ∀ v' w1, Sl.Own w0 w1 base 5 1 v' (n + u.size) (Lib.byteCells (l ++ u.data.toList)) → wpList Tryz.prog ops Q rest (a.put o.dst v') w1) : wpList Tryz.prog ops Q (o :: rest) a w := by
  obtain ⟨i0, hi, hz0, hz1, hz2⟩ := info_parts infoU8
  refine Lib.wpList_append_own_string w hgd s x 56 9 ho base 5 i0 Tryz.underlying56 Tryz.underlying9 hi hz0 hz1 hz2 v n (Lib.byteCells l) hs hown.own u hx (by unfold maxLen; omega) (by omega) hown.le (fun v' w' h2 h3 _ => ?_)
  refine h v' w' ⟨?_, hown.bel.grown h3 hown.le (row_base hown.own), Nat.le_trans hown.le h3.size⟩
  have e1 : Lib.byteCells (l ++ u.data.toList) = Lib.byteCells l ++ Lib.strCells u := by simp [Lib.byteCells, Lib.strCells]
  rw [e1]
  exact h2
theorem run_ownText {base : Nat} {v : Value} (l : List UInt8) (h : w.ownsRow base 5 1 v l.length (Lib.byteCells l)) : (convert 56 9 v).run Tryz.prog w = .ok (.string ⟨l.toArray⟩) w := by
  rcases h.2 with ⟨rfl, h0⟩ | ⟨g, cap, cur, rfl, _⟩
  · have hl : l = [] := List.eq_nil_of_length_eq_zero h0
    subst hl
    exact Lib.run_convert_nil_bytes w 56 9 5 0 Tryz.underlying56 Tryz.underlying5 Tryz.underlying9
  · refine Mem.run_text 56 5 9 Tryz.underlying56 Tryz.underlying5 Tryz.underlying9 g 0 cap l (fun i u hu => ?_)
    rw [Nat.zero_add]
    have hlt : i < l.length := by
      have := (List.getElem?_eq_some_iff.1 hu).1
      rw [Mem.bytesV_len] at this
      exact this
    exact (h.cellAt i (by omega)).trans hu
theorem wpList_ownText (hgd : o.guard = none) (x : Operand) (ho : o.op = .convert 56 9 x) {base : Nat} {v : Value} (l : List UInt8) (hx : a.eval x = v) (hown : w.ownsRow base 5 1 v l.length (Lib.byteCells l))
    (h : wpList Tryz.prog ops Q rest (a.put o.dst (.string ⟨l.toArray⟩)) w) : wpList Tryz.prog ops Q (o :: rest) a w := by
  refine wpList_plain hgd fun K hK => ?_
  unfold Oper.wp execOp
  simp only [ho, hx, Sem.run_bind, Sem.run_pure, Result.andThen_ok, run_ownText l hown]
  exact hK _ _ h
end

set_option maxRecDepth 100000 in
set_option maxHeartbeats 4000000 in
theorem rbytes_any (v : Value) (L : List Fld) (hL : L.length ≤ 100000) (hf : ∀ f ∈ L, f.1.size ≤ 100000 ∧ f.2.size ≤ 100000) (w : World) (hv : Rd w v L.length 2 (fldV L)) :
    Calls Tryz.prog 37 #[v] w fun e w' => BytesO L e ∧ Below w.heap.size w w' := by
  obtain ⟨ao, cap, rfl⟩ := hv.form
  have HV := hide hv
  have HF := hide hf
  clear hv hf
  go_enter Tryz.func37, Tryz.ntmps37
  go_wp2_with fail
  go_loopw [4, 5] (fun v i wr => ∃ k : Nat, i = .int .i64 k ∧ k ≤ L.length ∧ (L.take k).all chkS = true ∧ Sl.Own w wr w.heap.size 5 1 v (linesL (L.take k)).length (Lib.byteCells (linesL (L.take k)))) (fun _ i _ => L.length - (intOf i).toNat)
  case atStart => exact ⟨0, rfl, Nat.zero_le _, by simp, Sl.Own.start _ _ (Nat.le_refl _) _ _⟩
  case round =>
    obtain ⟨k, rfl, hk, hall, ho⟩ := hrel
    have HA := Lib.hid hall
    have hrv := Rd.own ho.own
    obtain ⟨bo, cp, rfl⟩ := hrv.form
    have HO := hide ho
    clear hall hrv
    rcases Nat.lt_or_ge k L.length with hlt | hge
    · obtain ⟨b, off, rfl, hbw, c1, c2⟩ := fld_cells (unhide HV) rfl k hlt
      have hz := (unhide HF) L[k] (List.getElem_mem _)
      have hnl := linesL_len 200004 (L.take k) (fun f hf => by have := (unhide HF) f (List.mem_of_mem_take hf); omega)
      rw [List.length_take, Nat.min_eq_left hk] at hnl
      have HS := Lib.hid (linesL_take L k hlt)
      have HT := Lib.hid (allC_take L k hlt)
      have hno := allC_no L k hlt
      obtain ⟨⟨x, y⟩, hx⟩ : ∃ x, L[k] = x := ⟨_, rfl⟩
      rw [hx] at c1 c2 hz hno HS HT
      have d1 := (ho.bel.cell (p := ⟨b, off + k * 2, none⟩) hbw).trans c1
      have d2 := (ho.bel.cell (p := ⟨b, off + k * 2 + 1, none⟩) hbw).trans c2
      obtain ⟨l, hl⟩ : ∃ l, linesL (L.take k) = l := ⟨_, rfl⟩
      rw [hl] at HO HS hnl ⊢
      have hzx : x.size ≤ 100000 := hz.1
      have hzy : y.size ≤ 100000 := hz.2
      have hc := fun w => rcheck_any x y (by omega) (by omega) w
      have hnl2 : l.length ≤ 20000400000 := Nat.le_trans hnl (Nat.le_trans (Nat.mul_le_mul_right _ (by omega : k ≤ 100000)) (by decide))
      obtain ⟨ok, hok⟩ : ∃ ok, chkS (x, y) = ok := ⟨_, rfl⟩
      rw [hok] at hc hno HT
      unfold errI at hc
      have HNO := hide hno
      have hle : l ++ (line1 (x, y)).data.toList = (((l ++ x.data.toList) ++ [58, 32]) ++ y.data.toList) ++ [13, 10] := by
        rw [line1_data]
        simp
      rw [hle] at HS
      clear hx hl hz hnl hno hok ho hle
      cases ok
      · simp only [Bool.false_eq_true, if_false] at hc
        have HC := hide hc
        have HN := Lib.hid ((unhide HNO) rfl)
        clear hc
        go_wp2_with (go_at_call 54; refine (unhide HC _).mono ?_; rintro e w2 ⟨rfl, hb2⟩; have HO2 := hide ((unhide HO).call hb2); clear hb2)
        go_ret2
        unfold BytesO
        rw [HN.out]
        exact ⟨rfl, (unhide HO2).bel⟩
      · simp only [if_true] at hc
        have HC := hide hc
        clear hc
        go_upto_region 8 with (go_at_call 54; refine (unhide HC _).mono ?_; rintro e w2 ⟨rfl, hb2⟩; have HO2 := hide ((unhide HO).call hb2); clear hb2)
        have HO3 := hide ((unhide HO2).call (Below.drew (Below.refl _ _)))
        refine Reg.region_plan (w0 := w) (.run [0, 1, 2, 3, 4, 5, 8, 9, 10, 11, 12, 6, 7, 13, 14, 15] .done) (by kernel_rfl) (by kernel_rfl) (by kernel_rfl) (by decide) (by intro c a d v w h; cases d <;> exact h) ((unhide HO2).bel) ?_
        simp only [Reg.wpPlan, Reg.pickL, List.getElem?_cons_zero, List.getElem?_cons_succ]
        clear d1 d2 HO HO2
        generalize w2.drew = w3 at HO3 ⊢
        refine Reg.mix_take 11 (by kernel_rfl) ?_
        simp only [List.take_succ_cons, List.take_zero, List.drop_succ_cons, List.drop_zero]
        repeat (go_big_quiet_step (fail))
        refine wpQuiet_nil ?_
        refine Reg.mix_one (by kernel_rfl) ?_
        go_wp2_with ((at_builtin; refine wpList_pushStr (w0 := w) rfl _ _ rfl w.heap.size _ l.length l rfl rfl (unhide HO3) x rfl (by omega) ?_; intro v4 w4 h4; obtain ⟨ao4, cp4, rfl⟩ := (Rd.own h4.own).form; have HO4 := hide h4; clear h4))
        refine ⟨rfl, ⟨⟨_, (unhide HO4).bel⟩, rfl⟩, ?_⟩
        refine Reg.mix_one (by kernel_rfl) ?_
        go_wp2_with ((at_builtin; refine wpList_pushStr (w0 := w) rfl _ _ rfl w.heap.size _ (l.length + x.size) _ (by first | (simp; done) | (simp; omega)) rfl (unhide HO4) ⟨#[58, 32]⟩ rfl (by show l.length + x.size + 2 ≤ _; omega) ?_; intro v5 w5 h5; obtain ⟨ao5, cp5, rfl⟩ := (Rd.own h5.own).form; have HO5 := hide h5; clear h5))
        refine ⟨rfl, ⟨⟨_, (unhide HO5).bel⟩, rfl⟩, ?_⟩
        refine Reg.mix_one (by kernel_rfl) ?_
        go_wp2_with ((at_builtin; refine wpList_pushStr (w0 := w) rfl _ _ rfl w.heap.size _ (l.length + x.size + 2) _ (by first | (simp; done) | (simp; omega)) rfl (unhide HO5) y rfl (by omega) ?_; intro v6 w6 h6; obtain ⟨ao6, cp6, rfl⟩ := (Rd.own h6.own).form; have HO6 := hide h6; clear h6))
        refine ⟨rfl, ⟨⟨_, (unhide HO6).bel⟩, rfl⟩, ?_⟩
        refine Reg.mix_one (by kernel_rfl) ?_
        go_wp2_with ((at_builtin; refine wpList_pushStr (w0 := w) rfl _ _ rfl w.heap.size _ (l.length + x.size + 2 + y.size) _ (by first | (simp; done) | (simp; omega)) rfl (unhide HO6) ⟨#[13, 10]⟩ rfl (by show l.length + x.size + 2 + y.size + 2 ≤ _; omega) ?_; intro v7 w7 h7; obtain ⟨ao7, cp7, rfl⟩ := (Rd.own h7.own).form; have HO7 := hide h7; clear h7))
        refine ⟨rfl, ⟨⟨_, (unhide HO7).bel⟩, rfl⟩, ?_⟩
        refine Reg.mix_take 1 (by kernel_rfl) ?_
        simp only [List.take_succ_cons, List.take_zero, List.drop_succ_cons, List.drop_zero]
        repeat (go_big_quiet_step (fail))
        refine wpQuiet_nil ?_
        refine Reg.mix_nil ?_
        go_wp2_with fail
        have hln : List.length (l ++ x.data.toList ++ [58, 32] ++ y.data.toList ++ [13, 10]) = l.length + x.size + 2 + y.size + 2 := by simp; omega
        go_roundw
        case rel => exact ⟨k + 1, by go_num, by omega, by rw [HT.out, HA.out]; rfl, by rw [HS.out, hln]; exact unhide HO7⟩
        case measure => simp [intOf]; omega
    · have hT : L.take k = L := List.take_of_length_le hge
      rw [hT] at HA HO ⊢
      clear hT ho
      go_wp2_with (refine wpList_ownText rfl _ rfl (linesL L) rfl (unhide HO).own ?_)
      go_ret2
      unfold BytesO
      rw [HA.out]
      exact ⟨rfl, (unhide HO).bel⟩


end Go.Proofs.YtkaaeajidejchaaGreatDoor.Sp

/- The reference's Encode. -/
namespace Go.Proofs.YtkaaeajidejchaaGreatDoor.Sp
open Go.RowKit Sl

set_option maxRecDepth 100000 in
set_option maxHeartbeats 2000000 in
theorem rencode_any (bo : ByteArray) (size : Int) (tr : Value) (T : List Fld) (hb : bo.size < 4096) (hs0 : -9223372036854775808 ≤ size) (hs1 : size ≤ 9223372036854775807) (hTr : Few T) (w : World) (hv : Rd w tr T.length 2 (fldV T)) :
    Calls Tryz.prog 23 #[.string bo, .int .i64 size, tr] w fun e w' => EncO bo size T e ∧ Below w.heap.size w w' := by
  have q1 := hide (rbytes_any _ T (by have := hTr.1; omega) (fun f hf => by have := hTr.2 f hf; omega) w hv)
  have hT4 := linesL_len 4004 T (fun f hf => by have := hTr.2 f hf; omega)
  have hT5 : (linesL T).length ≤ 400400 := by have := hTr.1; omega
  obtain ⟨ao, c1, rfl⟩ := hv.form
  clear hv hT4 hTr
  unfold EncO
  unfold BytesO at q1
  obtain ⟨tb, htb⟩ : ∃ b, T.all chkS = b := ⟨_, rfl⟩
  rw [htb] at q1 ⊢
  cases tb
  · simp only [Bool.false_eq_true, if_false, errI] at q1 ⊢
    go_enter Tryz.func23, Tryz.ntmps23
    go_wp2_with fail
    refine (unhide q1).mono ?_; rintro e w1 ⟨rfl, hb1⟩
    have HB1 := hide hb1
    clear hb1
    go_wp2_with fail
    go_ret2
    exact ⟨rfl, unhide HB1⟩
  simp only [if_true, errI] at q1 ⊢
  unfold encL
  generalize hK : sizeU size bo.data.toList.length = K
  have hK0 : K ≠ 0 := by rw [← hK]; exact sizeU_pos _ _
  have hKs : (decide (size < 1) = true ∧ max 1 (bo.size : Int) = K) ∨ (decide (size < 1) = false ∧ size = K) := by
    have hl : bo.data.toList.length = bo.size := by simp
    rw [hl] at hK
    unfold sizeU at hK
    by_cases h : size < 1
    · rw [if_pos h] at hK
      refine .inl ⟨decide_eq_true h, ?_⟩
      split at hK <;> omega
    · rw [if_neg h] at hK
      exact .inr ⟨decide_eq_false h, by omega⟩
  generalize hy : linesL T = y at *
  clear hK hy htb
  obtain ⟨t, ht⟩ : ∃ t : ByteArray, t = ofL y := ⟨_, rfl⟩
  have hty : t.data.toList = y := by rw [ht]; rfl
  have hts : t.size = y.length := by rw [ht]; simp [ofL, ByteArray.size]
  rw [← ht] at q1
  have HTY := Lib.hid hty
  clear ht hty
  rcases hKs with ⟨hs2, hmx⟩ | ⟨hs2, rfl⟩
  all_goals
    go_enter Tryz.func23, Tryz.ntmps23
    go_wp2_with fail
    refine (unhide q1).mono ?_; rintro e w1 ⟨rfl, hb1⟩
    have HB1 := hide hb1
    clear hb1 q1
    go_wp2_with fail
    try clear hs2 hmx
    go_loopw [10, 11] (fun o i wr => ∃ (x : ByteArray) (k : Nat), o = .string x ∧ i = .int .i64 k ∧ k ≤ bo.size ∧ x.data.toList ++ chunksL K (bo.data.toList.drop k) = chunksL K bo.data.toList ∧ x.size ≤ 10 * k ∧ Below w.heap.size w wr) (fun _ i _ => bo.size - (intOf i).toNat)
    case atStart => exact ⟨⟨#[]⟩, 0, rfl, rfl, Nat.zero_le _, rfl, Nat.zero_le _, unhide HB1⟩
    case round =>
      clear HB1
      obtain ⟨x, k, rfl, rfl, hk, heq, hx, hbel⟩ := hrel
      have HQ := Lib.hid heq
      have HBe := hide hbel
      clear heq hbel
      rcases Nat.lt_or_ge k bo.size with hlt | hge
      · obtain ⟨m, hm⟩ : ∃ m, min K (bo.size - k) = m := ⟨_, rfl⟩
        have hm1 : k + m ≤ bo.size := by omega
        have hm0 : 0 < m := by omega
        have hmi : min (K : Int) ((bo.size : Int) - (k : Int)) = (m : Int) := by omega
        have hps : (bo.extract k (k + m)).size = m := by rw [ByteArray.size_extract]; omega
        have hp : (bo.extract k (k + m)).data.toList = (bo.data.toList.drop k).take m := by
          rw [Lib.extract_data]
          simp [List.drop_take]
        have hck : chunksL K (bo.data.toList.drop k) = hxL m ++ [13, 10] ++ (bo.data.toList.drop k).take m ++ [13, 10] ++ chunksL K (bo.data.toList.drop (k + m)) := by
          have hl : (bo.data.toList.drop k).length = bo.size - k := by simp
          have hne : bo.data.toList.drop k ≠ [] := by intro e; rw [e] at hl; simp at hl; omega
          have e1 : (bo.data.toList.drop k).take K = (bo.data.toList.drop k).take m := by
            rw [← hm]
            rcases Nat.le_total K (bo.size - k) with h | h
            · rw [Nat.min_eq_left h]
            · rw [Nat.min_eq_right h, List.take_of_length_le (by omega), List.take_of_length_le (by omega)]
          have e2 : (bo.data.toList.drop k).drop K = bo.data.toList.drop (k + m) := by
            rw [List.drop_drop]
            rcases Nat.le_total K (bo.size - k) with h | h
            · rw [← hm, Nat.min_eq_left h]
            · rw [List.drop_of_length_le (by simp; omega), List.drop_of_length_le (by simp; omega)]
          rw [chunksL_more K _ hne hK0, e1, e2]
          unfold chunkL
          rw [List.length_take, Nat.min_eq_left (by omega)]
        rw [← hp] at hck
        have hxs := hxB_size m
        have hxd := fun w => rdigits_any m (by omega) w
        have HX := hide hxd
        have HK := Lib.hid hck
        obtain ⟨d, hxx⟩ : ∃ x, hxB m = x := ⟨_, rfl⟩
        rw [hxx] at hxs HX
        have HXX := Lib.hid hxx
        have y2 : (⟨#[13, 10]⟩ : ByteArray).size = 2 := rfl
        clear hxd hck hp hxx hm
        go_upto_region 10 with fail
        have BW := hide (Below.drew (Below.refl wr.heap.size wr))
        refine Reg.region_mix [0, 1, 5, 6, 7, 8, 9, 10, 2, 3, 4, 11, 12, 13] (by kernel_rfl) (by kernel_rfl) (by kernel_rfl) (by decide) (by intro c a d v w h; cases d <;> exact h) ?_
        simp only [Reg.pickL, List.getElem?_cons_zero, List.getElem?_cons_succ]
        refine Reg.mix_take 8 (by kernel_rfl) ?_
        simp only [List.take_succ_cons, List.take_zero, List.drop_succ_cons, List.drop_zero]
        repeat (go_big_quiet_step (fail))
        refine wpQuiet_nil ?_
        refine Reg.mix_one (by kernel_rfl) ?_
        go_wp2_with ((go_at_call 38; refine (unhide HX _).mono ?_; rintro e w4 ⟨rfl, rfl⟩))
        refine ⟨rfl, ⟨⟨_, unhide BW⟩, rfl⟩, ?_⟩
        refine Reg.mix_take 5 (by kernel_rfl) ?_
        simp only [List.take_succ_cons, List.take_zero, List.drop_succ_cons, List.drop_zero]
        repeat (go_big_quiet_step (fail))
        refine wpQuiet_nil ?_
        refine Reg.mix_nil ?_
        go_wp2_with fail
        go_roundw
        case rel =>
          refine ⟨x ++ d ++ (⟨#[13, 10]⟩ : ByteArray) ++ bo.extract k (k + m) ++ (⟨#[13, 10]⟩ : ByteArray), k + m, rfl, by go_num, hm1, ?_, ?_, (unhide HBe).trans ((unhide BW).mono (unhide HBe).size)⟩
          · rw [← HQ.out, HK.out, ← HXX.out, app_data, app_data, app_data, app_data]
            show _ = x.data.toList ++ ((hxB m).data.toList ++ [13, 10] ++ (bo.extract k (k + m)).data.toList ++ [13, 10] ++ _)
            simp only [List.append_assoc]
          · rw [ByteArray.size_append, ByteArray.size_append, ByteArray.size_append, ByteArray.size_append]
            omega
        case measure => simp [intOf]; omega
      · have he : bo.data.toList.drop k = [] := List.drop_of_length_le (by simp; omega)
        have HL := Lib.hid (show x.data.toList = chunksL K bo.data.toList by rw [← HQ.out, he, chunksL_nil, List.append_nil])
        have y2 : (⟨#[13, 10]⟩ : ByteArray).size = 2 := rfl
        have y3 : (⟨#[48, 13, 10]⟩ : ByteArray).size = 3 := rfl
        clear he
        go_wp2_with fail
        go_ret2
        refine ⟨?_, unhide HBe⟩
        have he2 : ofL (chunksL K bo.data.toList ++ [48, 13, 10] ++ y ++ [13, 10]) = x ++ (⟨#[48, 13, 10]⟩ : ByteArray) ++ t ++ (⟨#[13, 10]⟩ : ByteArray) := by
          refine (ba_eq ?_).symm
          rw [app_data, app_data, app_data, HL.out, HTY.out]
        rw [he2]
        rfl
end Go.Proofs.YtkaaeajidejchaaGreatDoor.Sp

/- The walk of the law ChunkCalls. -/
namespace Go.Proofs.YtkaaeajidejchaaGreatDoor.Sp
open Go.RowKit Sl

set_option maxRecDepth 100000 in
set_option maxHeartbeats 4000000 in
theorem ccalls_any (s body : ByteArray) (size : Int) (v : Value) (L : List Fld) (hs0 : -9223372036854775808 ≤ size) (hs1 : size ≤ 9223372036854775807) (hs : s.size ≤ 9223372036854775807) (hb : body.size ≤ 9223372036854775807) (hL : L.length ≤ 9223372036854775807) (hf : ∀ f ∈ L, f.1.size ≤ 1000000000000000 ∧ f.2.size ≤ 1000000000000000) (w : World) (hv : Rd w v L.length 2 (fldV L)) (hM : MaxV w) (hR : Bru w) :
    Calls Tryz.prog 6 #[.string s, .string body, .int .i64 size, v] w fun e w' => e = .returned (.bool true) ∧ Below w.heap.size w w' := by
  obtain ⟨ao, cap, rfl⟩ := hv.form
  have c0 := hide (lives5_any w hM)
  have HV := hide hv
  have HR := hide hR
  have hl1 := hide (fun w' (h : Below w.heap.size w w') => lightF_any _ L 10 300 hL (by omega) (by omega) hf w' (hv.below h))
  clear hv hM hR hf
  by_cases h1 : s.size ≤ 200
  · by_cases h2 : body.size ≤ 200
    · have e1 : ¬ (200 : Int) < s.size := by omega
      have e2 : ¬ (200 : Int) < body.size := by omega
      have e1b : decide ((200 : Int) < s.size) = false := decide_eq_false e1
      have e2b : decide ((200 : Int) < body.size) = false := decide_eq_false e2
      have HS := hide (fun w' => size_any s (by omega) w')
      have HRS := hide (fun w' => rsize_any s (by omega) w')
      unfold sizeE at HS HRS
      have HEN := hide (fun (hTr : Few L) w' (h : Below w.heap.size w w') => encode_any body size _ L (by omega) hs0 hs1 hTr w' ((unhide HV).below h) ((unhide HR).below h))
      have HREN := hide (fun (hTr : Few L) w' (h : Below w.heap.size w w') => rencode_any body size _ L (by omega) hs0 hs1 hTr w' ((unhide HV).below h))
      unfold EncO at HEN HREN
      obtain ⟨n, hn⟩ : ∃ n, (sizeF s.data.toList).1 = n := ⟨_, rfl⟩
      obtain ⟨st, hst⟩ : ∃ n, (sizeF s.data.toList).2 = n := ⟨_, rfl⟩
      rw [hn, hst] at HS HRS
      obtain ⟨x, hx⟩ : ∃ x : ByteArray, (if L.all chkS = true then ofL (encL body.data.toList size L) else ⟨#[]⟩) = x := ⟨_, rfl⟩
      rw [hx] at HEN HREN
      obtain ⟨y, hy⟩ : ∃ y : Int, errI (L.all chkS) = y := ⟨_, rfl⟩
      rw [hy] at HEN HREN
      clear hn hst hx hy h1 h2 hs hb
      go_enter Tryz.func6, Tryz.ntmps6
      go_upto_region 3 with (go_at_call 9; refine (unhide c0).mono ?_; rintro e w1 ⟨rfl, hb1⟩)
      have HB1 := hide hb1
      clear hb1
      go_wp2_with (go_at_call 21; refine (unhide hl1 _ (unhide HB1)).mono ?_; rintro e w2 ⟨r, rfl, hr, hb2⟩; cases r)
      · go_ret
        exact ⟨rfl, (unhide HB1).trans (hb2.mono (unhide HB1).size)⟩
      · obtain ⟨hl10, hl300⟩ := hr (by trivial)
        have hFew : Few L := ⟨by omega, fun f hf => by have := hl300 f hf; omega⟩
        have HB2 := hide ((unhide HB1).trans (hb2.mono (unhide HB1).size))
        have c1 := hide (unhide HEN hFew w2 (unhide HB2))
        have HRN := hide (unhide HREN hFew)
        clear hr hb2 hl10 hl300 HEN HREN
        go_wp2_with (first
          | (have hfour := four; go_at_call 24; refine (unhide HRS _).mono ?_; rintro e w6 ⟨rfl, rfl⟩)
          | (have hthree := three; go_at_call 18; refine (unhide HS _).mono ?_; rintro e w5 ⟨rfl, hb5⟩; have HB5 := hide ((unhide HB4).trans (hb5.mono (unhide HB4).size)); clear hb5; have four := True.intro)
          | (have htwo := two; go_at_call 23; refine (unhide HRN _ (unhide HB3)).mono ?_; rintro e w4 ⟨rfl, hb4⟩; have HB4 := hide ((unhide HB3).trans (hb4.mono (unhide HB3).size)); clear hb4; have three := True.intro)
          | (go_at_call 22; refine (unhide c1).mono ?_; rintro e w3 ⟨rfl, hb3⟩; have HB3 := hide ((unhide HB2).trans (hb3.mono (unhide HB2).size)); clear hb3; have two := True.intro))
        all_goals go_ret
        all_goals exact ⟨ret_bool (by simp), unhide HB5⟩
    · have e1 : ¬ (200 : Int) < s.size := by omega
      have e2 : (200 : Int) < body.size := by omega
      have e1b : decide ((200 : Int) < s.size) = false := decide_eq_false e1
      have e2b : decide ((200 : Int) < body.size) = true := decide_eq_true e2
      clear h1 h2 hl1
      go_enter Tryz.func6, Tryz.ntmps6
      go_wp2_with (go_at_call 9; refine (unhide c0).mono ?_; rintro e w1 ⟨rfl, hb1⟩; have HB1 := hide hb1; clear hb1)
      go_ret
      exact ⟨rfl, unhide HB1⟩
  · have e1 : (200 : Int) < s.size := by omega
    have e1b : decide ((200 : Int) < s.size) = true := decide_eq_true e1
    clear h1 hl1
    go_enter Tryz.func6, Tryz.ntmps6
    go_wp2_with (go_at_call 9; refine (unhide c0).mono ?_; rintro e w1 ⟨rfl, hb1⟩; have HB1 := hide hb1; clear hb1)
    go_ret
    exact ⟨rfl, unhide HB1⟩
end Go.Proofs.YtkaaeajidejchaaGreatDoor.Sp

/- Plain: the digits of a number; strconv.Itoa of any number. -/
namespace Go.Proofs.YtkaaeajidejchaaGreatDoor.Sp
open Go.RowKit

def decB (u : Nat) : ByteArray := ⟨(Lib.decDigits u).toArray⟩
def itoaB (n : Int) : ByteArray := ⟨(Lib.itoa n).toArray⟩
def tenB : ByteArray := ⟨#[48, 49, 50, 51, 52, 53, 54, 55, 56, 57]⟩
theorem dec_small (u : Nat) (h : u < 10) : tenB.extract u (u + 1) = decB u := by
  have h1 : ∀ i, i < 10 → (tenB.extract i (i + 1)).data.toList = Lib.decDigits i := by decide +kernel
  exact ba_eq (h1 u h)
theorem dec_more (u : Nat) (h : 10 ≤ u) : decB u = decB (u / 10) ++ decB (u % 10) := by
  have e : Lib.decDigits u = Lib.decDigits (u / 10) ++ Lib.decDigits (u % 10) := by
    conv => lhs; rw [Lib.decDigits, dif_neg (by omega)]
    have e2 : Lib.decDigits (u % 10) = [UInt8.ofNat (48 + u % 10)] := by rw [Lib.decDigits, dif_pos (by omega)]
    rw [e2]
  have h2 : (decB (u / 10) ++ decB (u % 10)).data.toList = Lib.decDigits u := by rw [app_data, e]; rfl
  exact (ba_eq h2).symm
theorem decB_size (u : Nat) : (decB u).size ≤ u + 1 := by
  have h : ∀ n u, u ≤ n → (Lib.decDigits u).length ≤ u + 1 := by
    intro n
    induction n with
    | zero => intro u hu; obtain rfl : u = 0 := by omega
              decide +kernel
    | succ n ih =>
      intro u hu
      rw [Lib.decDigits]
      split
      · simp
      · have := ih (u / 10) (by omega)
        rw [List.length_append]; simp; omega
  have := h u u (Nat.le_refl _)
  rw [show (decB u).size = (Lib.decDigits u).length from size_list rfl]
  exact this
theorem decB_20 (u : Nat) (h : u < 10000000000000000000) : (decB u).size ≤ 19 := by
  have step : ∀ (k u : Nat), u < 10 ^ k → 0 < k → (Lib.decDigits u).length ≤ k := by
    intro k
    induction k with
    | zero => intro u h h0; omega
    | succ k ih =>
      intro u h _
      rw [Lib.decDigits]
      split
      · simp
      · rcases Nat.eq_zero_or_pos k with h0 | h0
        · subst h0; simp at h; omega
        · have := ih (u / 10) (by rw [Nat.pow_succ] at h; omega) h0
          rw [List.length_append]; simp; omega
  rw [show (decB u).size = (Lib.decDigits u).length from size_list rfl]
  exact step 19 u h (by omega)

theorem itoa_size (n : Int) (h0 : -9223372036854775808 ≤ n) (h1 : n ≤ 9223372036854775807) : (itoaB n).size ≤ 20 := by
  rw [show (itoaB n).size = (Lib.itoa n).length from size_list rfl]
  unfold Lib.itoa
  split
  · have := decB_20 n.natAbs (by omega)
    rw [show (decB n.natAbs).size = (Lib.decDigits n.natAbs).length from size_list rfl] at this
    simp; omega
  · have := decB_20 n.toNat (by omega)
    rw [show (decB n.toNat).size = (Lib.decDigits n.toNat).length from size_list rfl] at this
    omega
theorem itoa_neg (n : Int) (h : n < 0) : (⟨#[45]⟩ : ByteArray) ++ decB n.natAbs = itoaB n := by
  unfold itoaB Lib.itoa
  rw [if_pos h]
  have : ((⟨#[45]⟩ : ByteArray) ++ decB n.natAbs).data.toList = 45 :: Lib.decDigits n.natAbs := by rw [app_data]; rfl
  exact ba_eq this
theorem itoa_pos (n : Int) (h : 0 ≤ n) : decB n.toNat = itoaB n := by
  unfold itoaB Lib.itoa
  rw [if_neg (by omega)]; rfl

/-! ### the table of powers of ten -/
abbrev Pow10 (w : World) : Prop := Lib.TabIs Tryz.prog w "internal/strconv.uint64pow10" .u64 Lib.pow10Tab
theorem Pow10.below {w w' : World} (h : Pow10 w) (hb : Below w.heap.size w w') : Pow10 w' := by
  have hgn : Tryz.prog.globalNamed "internal/strconv.uint64pow10" = some 2 := by kernel_rfl
  unfold Pow10 Lib.TabIs World.var? at h ⊢
  rw [hgn] at h ⊢
  simp only [Option.bind_some] at h ⊢
  have hlt : 2 < w.heap.size := by
    rcases Nat.lt_or_ge 2 w.heap.size with h' | h'
    · exact h'
    · rw [Array.getElem?_eq_none h'] at h; cases h
  rw [hb.block 2 hlt]
  exact h
theorem itoa_any (n : Int) (h0 : -9223372036854775808 ≤ n) (h1 : n ≤ 9223372036854775807) (w : World) (ht : Pow10 w) : Calls Tryz.prog 86 #[.int .i64 n] w fun e w' => e = .returned (.string (itoaB n)) ∧ Below w.heap.size w w' := by
  refine (Tryz.strconv_Itoa n h0 h1 w ht).mono ?_
  rintro e w' ⟨rfl, k, os, rfl⟩
  exact ⟨rfl, Lib.below_grow _ w (Nat.le_refl _) k os⟩
end Go.Proofs.YtkaaeajidejchaaGreatDoor.Sp

/- What a row's listed variables give: the table of powers of ten; the table of trailing zeros. -/
namespace Go.Proofs.YtkaaeajidejchaaGreatDoor.Sp
open Go.ChangeShapes Go.WideShapes Go.ChangeAt Go.RowKit

def pow10Row : List (String × DataW Unit) := [("internal/strconv.uint64pow10", Lib.tabData .u64 Lib.pow10Tab)]
theorem pow10_of {W : World} {l : List (String × DataW Unit)} (hl : (l.filter fun x => x.1 == "internal/strconv.uint64pow10") = pow10Row) (h : laidMet Tryz.prog l W) : Pow10 W := by
  have h2 := laidMet.filter (fun x => x.1 == "internal/strconv.uint64pow10") h
  rw [hl] at h2
  exact Lib.tabIs_of_head (g := 2) (by kernel_rfl) (by kernel_rfl) Tryz.underlying130 Tryz.underlying62 (by kernel_rfl) (by kernel_rfl) h2
def bruTab : List Int := Lib.deBruijn64tab.map Int.ofNat
def bruRow : List (String × DataW Unit) := [("math/bits.deBruijn64tab", Lib.tabData .u8 bruTab)]
theorem bru_of {W : World} {l : List (String × DataW Unit)} (hl : (l.filter fun x => x.1 == "math/bits.deBruijn64tab") = bruRow) (h : laidMet Tryz.prog l W) : Bru W := by
  have h2 := laidMet.filter (fun x => x.1 == "math/bits.deBruijn64tab") h
  rw [hl] at h2
  have h3 : Lib.TabIs Tryz.prog W "math/bits.deBruijn64tab" .u8 bruTab := Lib.tabIs_of_head (g := 4) (by kernel_rfl) (by kernel_rfl) Tryz.underlying179 Tryz.underlying5 (by kernel_rfl) (by kernel_rfl) h2
  exact h3.cell (g := 4) (by kernel_rfl) 15 (by decide)
end Go.Proofs.YtkaaeajidejchaaGreatDoor.Sp

/- A message that came in is opened. -/
namespace Go.Proofs.YtkaaeajidejchaaGreatDoor.Sp
open Go.ChangeShapes Go.WideShapes Go.ChangeAt Go.RowKit Go.Deep Sl Go.Joins

theorem wAll {H : Type} {P : Program} {e : TypeId} {d : DataW H} {n : Nat} : ∀ {l : List (DataW H)}, d ∈ l → n ∈ d.weights P e → n ∈ DataW.weightsAll P e l
  | x :: r, h, hn => by
    simp only [DataW.weightsAll, List.mem_append]
    rcases List.mem_cons.1 h with rfl | h
    · exact .inl hn
    · exact .inr (wAll h hn)

theorem fields_of {H : Type} {enc : TypeId × Value → H} {W : World} {v : Value} {fuel : Nat} {x : DataW H × List MemPlace}
    (h : DataW.trod enc Tryz.prog W 0 (fun _ => true) true fuel 41 [v] = some x) (hw : ∀ n ∈ x.1.weights Tryz.prog 41, n ≤ reachBytes) :
    ∃ L : List Fld, L.length ≤ 9223372036854775807 ∧ (∀ f ∈ L, f.1.size ≤ 1000000000000000 ∧ f.2.size ≤ 1000000000000000) ∧ Rd W v L.length 2 (fldV L) := by
  rcases open_slice_pairs Tryz.underlying41 Tryz.underlying50 (by kernel_rfl) rfl rfl (by kernel_rfl) (by kernel_rfl) h with ⟨hcs, _⟩ | ⟨a, len, cap, m, n, V0, V1, D0, D1, P0, P1, hcs, _, hlc, hm, hmm, rfl, hi⟩
  · simp at hcs
    subst hcs
    exact ⟨[], by simp, by simp, Rd.nil W 2⟩
  · simp at hcs
    subst hcs
    simp only [if_true] at hmm
    subst hmm
    have each : ∀ i, i < len → ∃ f : Fld, (W.cell? (a.add (i * 2)) = some (.string f.1) ∧ W.cell? (a.add (i * 2 + 1)) = some (.string f.2)) ∧ f.1.size ≤ 1000000000000000 ∧ f.2.size ≤ 1000000000000000 := fun i hi' => by
      obtain ⟨h0, h1, t0, t1⟩ := hi i (by omega)
      obtain ⟨s0, e0, q0, _⟩ := DataW.trod_string Tryz.underlying9 t0
      obtain ⟨s1, e1, q1, _⟩ := DataW.trod_string Tryz.underlying9 t1
      simp only [List.cons.injEq, and_true, Prod.mk.injEq] at e0 e1 q0 q1
      have hmem : DataW.agg [D0 i, D1 i] ∈ (List.range len).map fun i => DataW.agg [D0 i, D1 i] := List.mem_map.2 ⟨i, List.mem_range.2 hi', rfl⟩
      have hsub : ∀ q, q ∈ (DataW.agg [D0 i, D1 i]).weights Tryz.prog 50 → q ≤ reachBytes := fun q hq => hw q (by
        simp only [DataW.weights, Tryz.underlying41, List.mem_cons, List.mem_append]
        exact .inr (.inl (wAll hmem hq)))
      have hz : ∀ k, k ≤ reachBytes → k ≤ 1000000000000000 := fun k hk => by unfold reachBytes at hk; omega
      refine ⟨(s0, s1), ⟨by rw [h0, e0], by rw [h1, e1]⟩, ?_, ?_⟩
      · have := hz _ (hsub s0.data.toList.length (by simp [DataW.weights, Tryz.underlying50, DataW.weightsEach, q0.1]))
        simpa using this
      · have := hz _ (hsub s1.data.toList.length (by simp [DataW.weights, Tryz.underlying50, DataW.weightsEach, q1.1]))
        simpa using this
    obtain ⟨f, hf'⟩ := choose_lt each
    refine ⟨(List.range len).map f, by simp; unfold maxLen at hm; omega, fun x hx => ?_, ?_⟩
    · obtain ⟨i, hi', rfl⟩ := List.mem_map.1 hx
      exact (hf' i (List.mem_range.1 hi')).2
    · refine ⟨some a, m, by simp, by simpa using hlc, (fun h => by cases h), fldV_len _, fun hne => ?_⟩
      have hpos : 0 < len := by
        rcases Nat.eq_zero_or_pos len with h0 | h0
        · subst h0; simp [fldV] at hne
        · exact h0
      have h0 := (hf' 0 hpos).1.1
      obtain ⟨b, off, spot⟩ := a
      have hspot : spot = none := by simpa [Addr.add] using World.cell?_spot h0
      subst hspot
      refine ⟨b, off, rfl, by have := World.block_lt_of_cell? W _ h0; simpa [Addr.add] using this, fun i u hu => ?_⟩
      have hlen : ((List.range len).map f).length = len := by simp
      have hil : i < len * 2 := by
        have := (List.getElem?_eq_some_iff.1 hu).1
        rw [fldV_len, hlen] at this
        exact this
      have hg := fldV_get ((List.range len).map f) (i / 2) (by rw [hlen]; omega)
      have hc := (hf' (i / 2) (by omega)).1
      simp only [List.getElem_map, List.getElem_range] at hg
      rcases Nat.mod_two_eq_zero_or_one i with hp | hp
      · have e : i / 2 * 2 = i := by omega
        rw [e] at hg hc
        rw [hg.1] at hu
        cases hu
        have := hc.1
        rwa [Addr.add_mid] at this
      · have e : i / 2 * 2 + 1 = i := by omega
        rw [e] at hg hc
        rw [hg.2] at hu
        cases hu
        have := hc.2
        rwa [Addr.add_mid] at this

set_option maxRecDepth 100000 in
theorem fieldsP_of {H : Type} {enc : TypeId × Value → H} {W : World} {v : Value} {d : DataW H} {p : List MemPlace} {b0 : Nat} (hv : Value.okWide Tryz.prog W .any b0 41 v) (h : DataW.Trod enc Tryz.prog W 0 (fun _ => true) true 41 v d p) (hw : ∀ n ∈ d.weights Tryz.prog 41, n ≤ reachBytes) :
    ∃ L : List Fld, L.length ≤ 9223372036854775807 ∧ (∀ f ∈ L, f.1.size ≤ 1000000000000000 ∧ f.2.size ≤ 1000000000000000) ∧ Rd W v L.length 2 (fldV L) := by
  obtain ⟨ao, ln, cp, rfl⟩ := okWide_slice Tryz.underlying41 hv
  obtain ⟨fuel, hf⟩ := h
  have hf2 : DataW.trod enc Tryz.prog W 0 (fun _ => true) true fuel 41 [.slice ao ln cp] = some (d, p) := hf
  exact fields_of (x := (d, p)) hf2 hw
end Go.Proofs.YtkaaeajidejchaaGreatDoor.Sp

/- The frame of a law's row: what a law leaves behind (it returns true, has made memory, and changed nothing that was there) is what the row asks. -/
namespace Go.Proofs.YtkaaeajidejchaaGreatDoor.Frame
open Go.ChangeShapes Go.WideShapes Go.ChangeAt Go.RowKit
variable {H : Type} {enc : TypeId × Value → H} {P : Program}

/-- What was read of the arguments reads so still. -/
theorem args_stay (hl : laidOutB P = true) {W W' : World} (hb : Below W.heap.size W W') : ∀ (ts : List TypeId) (vs : List Value) (ds : List (DataW H)) (ps : List MemPlace),
    (∀ t ∈ ts, P.readableRec t = true ∧ t < P.types.size) → DataW.TrodAll enc P W 0 (fun _ => true) true ts vs ds ps → (∀ x ∈ ps, x.block < W.heap.size) →
    DataW.TrodAll enc P W' 0 (fun b => decide (b < W.heap.size)) true ts vs ds ps
  | [], vs, ds, ps, _, h, _ => by
    obtain ⟨rfl, rfl, rfl⟩ := trodAll_nil h
    exact trodAll_mk0
  | t :: ts, vs, ds, ps, hts, h, hlt => by
    obtain ⟨v, vs', d, ds', p, q, rfl, rfl, rfl, h0, hr⟩ := trodAll_cons h
    refine trodAll_cons_mk ?_ (args_stay hl hb ts vs' ds' q (fun t ht => hts t (List.mem_cons_of_mem _ ht)) hr (fun x hx => hlt x (List.mem_append.2 (.inr hx))))
    have ht := hts t (List.mem_cons.2 (.inl rfl))
    exact Below.trod hl ht.1 ht.2 h0 hb (fun x hx => hlt x (List.mem_append.2 (.inl hx)))

/-- THE FRAME. -/
theorem law_post {f : Func} {s : ChangeSpec} {W W' : World} {args : Array Value} {ds gs : List (DataW H)} {before : List MemPlace} {tb : TypeId}
    (hW : DataW.Whole enc P f.params.toList s.vars false W args.toList ds gs before) (hvars : s.vars = []) (hl : laidOutB P = true) (hts : ∀ t ∈ f.params.toList, P.readableRec t = true ∧ t < P.types.size)
    (hrt : f.resultTypes = #[tb]) (htb : P.underlying tb = some .bool) (hres : (s.fn H ds).results = [.lit (.bool true)]) (hargs : (s.fn H ds).args = ds) (hvs : (s.fn H ds).vars = []) (hb : Below W.heap.size W W') :
    s.post enc P f false true false false W args (.bool true) W' := by
  have hlt := hW.lt
  have hW' := hW
  obtain ⟨p, q, hA, hV, rfl, hfz, hnd⟩ := hW
  rw [hvars] at hV
  obtain ⟨rfl, rfl⟩ := trodVars_none hV
  refine ⟨ds, [], p ++ [], [], p, [], hW', ?_, ?_, ?_, hb.frame _, fun h => by cases h⟩
  · rw [List.append_nil, hres, hrt]
    exact trodAll_cons_mk (shut_bool htb _) trodAll_mk0
  · rw [List.append_nil, hargs]
    exact args_stay hl hb _ _ _ _ hts hA (fun x hx => hlt x (List.mem_append.2 (.inl hx)))
  · rw [hvars, List.append_nil, hvs]
    exact rfl
end Go.Proofs.YtkaaeajidejchaaGreatDoor.Frame
