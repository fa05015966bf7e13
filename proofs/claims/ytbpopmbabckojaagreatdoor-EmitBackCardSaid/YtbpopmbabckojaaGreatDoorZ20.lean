/- Lemmas for the statement's proof, several texts in one: Rf. -/
import Derived.Test.YtbpopmbabckojaaGreatDoorZ13
import Derived.Test.YtbpopmbabckojaaGreatDoorZ03
import Derived.Test.YtbpopmbabckojaaGreatDoorZ19
import Derived.OrdersHeld
import Derived.Test.YtbpopmbabckojaaGreatDoorZ15
import Derived.Lib.BufferRead
set_option linter.unusedVariables false
set_option linter.unusedSimpArgs false
/- The reference's Check, Line and Bytes (chapter 2), for seats that hold Rt and Ch: lines of R5. -/
section
namespace Go.Proofs.YtbpopmbabckojaaGreatDoor.Reg
open Go.RowKit Go

section
variable {P : Program} {ops : Array Oper} {md : Region.Mode} {S : World → Prop} {Q : Exit → Act → World → Prop}

inductive Plan where
  | done
  | run (π : List Nat) (p : Plan)
  | two (i j : Nat) (p q : Plan)

def planB (md : Region.Mode) (ops : Array Oper) : Plan → Array Bool → Bool
  | .done, listed => (Region.ready md ops listed).isEmpty
  | .run π p, listed => mixP md ops π listed && planB md ops p (lay listed π)
  | .two i j p q, listed => (decide (Region.ready md ops listed = [i, j]) && ((ops[i]?).isSome && (ops[j]?).isSome)) && (planB md ops p (listed.setIfInBounds i true) && planB md ops q (listed.setIfInBounds j true))
def planLen : Plan → Nat
  | .done => 0
  | .run π p => π.length + planLen p
  | .two _ _ p q => 1 + max (planLen p) (planLen q)
def wpPlan (P : Program) (ops : Array Oper) (S : World → Prop) (Q : Exit → Act → World → Prop) (l : List Oper) : Plan → Act → World → Prop
  | .done, a, w => Q .normal a w
  | .run π p, a, w => wpMix P ops S (fun _ a w => wpPlan P ops S Q l p a w) (pickL l π) a w
  | .two i j p q, a, w => wpList P ops (Then S (wpPlan P ops S Q l p)) (pickL l [i]) a w ∧ wpList P ops (Then S (wpPlan P ops S Q l q)) (pickL l [j]) a w

theorem wpAnyH_mixK {l : List Oper} {K : Act → World → Prop} (hsel : Region.noSelect l.toArray = true) (hQ : ∀ c a d v w, Q (.panic c) (Act.put a d v) w → Q (.panic c) a w) :
    ∀ (π : List Nat) (f : Nat) (listed : Array Bool) (a : Act) (w : World), mixP md l.toArray π listed = true → S w → π.length ≤ f →
      (∀ f' a' w', f ≤ f' + π.length → S w' → K a' w' → wpAnyH P md l.toArray Q S f' (lay listed π) a' w') → wpMix P l.toArray S (fun _ a w => K a w) (pickL l π) a w → wpAnyH P md l.toArray Q S f listed a w
  | [], f, listed, a, w, _, hS, _, hK, h => hK f a w (by simp) hS h
  | i :: π, 0, _, _, _, _, _, hl, _, _ => absurd hl (by simp)
  | i :: π, f + 1, listed, a, w, hB, hS, hl, hK, h => by
    simp only [mixP, Bool.and_eq_true] at hB
    obtain ⟨hB, hB'⟩ := hB
    have hK' : ∀ f' a' w', f ≤ f' + π.length → S w' → K a' w' → wpAnyH P md l.toArray Q S f' (lay (listed.setIfInBounds i true) π) a' w' :=
      fun f' a' w' hf hs hk => hK f' a' w' (by simp; omega) hs hk
    cases hi : l.toArray[i]? with
    | none => simp [hi] at hB
    | some o =>
      simp only [hi] at hB
      have hi' : l[i]? = some o := by simpa using hi
      simp only [pickL, hi', wpMix] at h
      by_cases hr : readKind o.op = true
      · simp only [hr, if_true, Bool.and_eq_true] at hB h
        obtain ⟨v, hy, h⟩ := h
        exact wpAnyH_take hi hsel hB.2 hB.1 (fun c a w => hQ c a _ _ w) hy hS (wpAnyH_mixK hsel hQ π f _ _ w hB' hS (by simpa using hl) hK' h)
      · simp only [hr, Bool.false_eq_true, if_false, decide_eq_true_eq] at hB h
        refine wpAnyH_all hB (by simp) fun j hj => ?_
        rw [List.mem_singleton] at hj
        subst hj
        exact wpOp_mono (fun a' w' h' => ⟨h'.1, wpAnyH_mixK hsel hQ π f _ _ w' hB' h'.1 (by simpa using hl) hK' h'.2⟩) (wpOp_of_then hi h)

theorem wpAnyH_plan {l : List Oper} (hsel : Region.noSelect l.toArray = true) (hQ : ∀ c a d v w, Q (.panic c) (Act.put a d v) w → Q (.panic c) a w) :
    ∀ (p : Plan) (f : Nat) (listed : Array Bool) (a : Act) (w : World), planB md l.toArray p listed = true → S w → planLen p ≤ f → wpPlan P l.toArray S Q l p a w → wpAnyH P md l.toArray Q S f listed a w
  | .done, f, listed, a, w, hB, _, _, h => wpAnyH_done (by simpa [planB] using hB) h f
  | .run π p, f, listed, a, w, hB, hS, hl, h => by
    simp only [planB, Bool.and_eq_true] at hB
    simp only [planLen] at hl
    exact wpAnyH_mixK hsel hQ π f listed a w hB.1 hS (by omega) (fun f' a' w' hf hs hk => wpAnyH_plan hsel hQ p f' _ a' w' hB.2 hs (by omega) hk) h
  | .two i j p q, 0, _, _, _, _, _, hl, _ => absurd hl (by simp [planLen])
  | .two i j p q, f + 1, listed, a, w, hB, hS, hl, h => by
    simp only [planB, Bool.and_eq_true, decide_eq_true_eq] at hB
    obtain ⟨⟨hr, hsi, hsj⟩, hp, hq⟩ := hB
    simp only [planLen] at hl
    obtain ⟨oi, hi⟩ := Option.isSome_iff_exists.1 hsi
    obtain ⟨oj, hj⟩ := Option.isSome_iff_exists.1 hsj
    have hi' : l[i]? = some oi := by simpa using hi
    have hj' : l[j]? = some oj := by simpa using hj
    simp only [wpPlan, pickL, hi', hj'] at h
    refine wpAnyH_all hr (by simp) fun k hk => ?_
    rcases List.mem_cons.1 hk with rfl | hk
    · exact wpOp_mono (fun a' w' h' => ⟨h'.1, wpAnyH_plan hsel hQ p f _ _ w' hp h'.1 (by omega) h'.2⟩) (wpOp_of_then hi h.1)
    · rw [List.mem_singleton] at hk
      subst hk
      exact wpOp_mono (fun a' w' h' => ⟨h'.1, wpAnyH_plan hsel hQ q f _ _ w' hq h'.1 (by omega) h'.2⟩) (wpOp_of_then hj h.2)

theorem region_plan {w0 : World} {id : Nat} {a : Act} {w : World} {l : List Oper} (p : Plan) (hm : P.follows .mixedOrders = true) (hsel : Region.noSelect l.toArray = true) (hB : planB .any l.toArray p (Array.replicate l.toArray.size false) = true) (hn : planLen p ≤ l.toArray.size)
    (hQ : ∀ c a d v w, Q (.panic c) (Act.put a d v) w → Q (.panic c) a w) (h0 : Below w0.heap.size w0 w) (h : wpPlan P l.toArray (fun w' => ∃ x : More w0, w' = x.w) Q l p a w.drew) : (Code.region id l.toArray true).wp P Q a w :=
  wp_region_held hm (wpAnyH_plan hsel hQ p _ _ a _ hB ⟨⟨w.drew, h0.drew⟩, rfl⟩ hn h)
end
end Go.Proofs.YtbpopmbabckojaaGreatDoor.Reg

namespace Go.Proofs.YtbpopmbabckojaaGreatDoor.Sp
open Go.RowKit Sl

set_option maxRecDepth 100000 in
set_option maxHeartbeats 2000000 in
theorem rcheck_any (x y : ByteArray) (hx : x.size ≤ 1000000) (hy : y.size ≤ 1000000) (w : World) :
    Calls Tryz.prog 78 #[.agg #[.string x, .string y]] w fun e w' => e = .returned (.int .i64 (errI (chkS (x, y)))) ∧ Below w.heap.size w w' := by
  have h1 := fun w => rtoken_any x (by omega) w
  have h2 := fun w => chars_any y (by omega) w
  have h3 := fun w => rtrim_any y (by omega) w
  have hc : chkS (x, y) = ((tokenS x.data.toList && allS chr y.data.toList) && ((ofL (trimW y.data.toList)).toList == y.toList)) := rfl
  rw [hc]
  obtain ⟨z, hz⟩ : ∃ z, ofL (trimW y.data.toList) = z := ⟨_, rfl⟩
  obtain ⟨a, ha⟩ : ∃ a, tokenS x.data.toList = a := ⟨_, rfl⟩
  obtain ⟨b, hb⟩ : ∃ b, allS chr y.data.toList = b := ⟨_, rfl⟩
  rw [ha] at h1 ⊢
  rw [hb] at h2 ⊢
  rw [hz] at h3 ⊢
  have H1 := hide h1
  have H2 := hide h2
  have H3 := hide h3
  clear h1 h2 h3 hc hz ha hb
  go_enter Tryz.func78, Tryz.ntmps78
  go_upto_region 1 with fail
  have HH := Reg.Has.new w [.string x, .string y] 55
  have HB := hide ((Below.refl w.heap.size w).alloc (Nat.le_refl _) (.cells #[.string x, .string y] 55))
  generalize w.alloc (.cells #[.string x, .string y] 55) = w1 at HH HB ⊢
  have p1 := HH.cell 0 _ rfl; have q1 := HH.cell 1 _ rfl; have u1 := HH.free 0 (by simp); have v1 := HH.free 1 (by simp); have z1 := HH.lt
  clear HH
  cases a <;> cases b
  all_goals
    refine Reg.region_more (by kernel_rfl) (by kernel_rfl) ?_
    repeat (go_big_quiet_step ((first | (go_at_call 10; exact Reg.Calls.more_same (unhide H1 _)) | (go_at_call 97; exact Reg.Calls.more_same (unhide H2 _)) | (go_at_call 98; exact Reg.Calls.more_same (unhide H3 _)))))
    refine wpQuiet_nil ?_
    intro w9 hb9; obtain ⟨hc9, hf9, hz9⟩ := bcell hb9; (try simp at hz9)
    have HB9 := hide ((unhide HB).trans (hb9.mono (unhide HB).size))
    clear hb9 hc9 hf9
  · go_wp2_with fail
    go_ret
    exact ⟨rfl, unhide HB9⟩
  · go_wp2_with fail
    go_ret
    exact ⟨rfl, unhide HB9⟩
  · go_wp2_with fail
    go_ret
    exact ⟨rfl, unhide HB9⟩
  · cases hzy : (z.toList == y.toList)
    · go_wp2_with fail
      go_ret
      exact ⟨by rw [hzy] <;> rfl, unhide HB9⟩
    · go_wp2_with fail
      go_ret
      exact ⟨by rw [hzy] <;> rfl, unhide HB9⟩


theorem cutS_at (c : UInt8) : ∀ (l : List UInt8) (k : Nat), (l.take k).all (fun b => b != c) = true → l[k]? = some c → cutS c l = (l.take k, l.drop (k + 1), true)
  | [], k, _, h => by simp at h
  | b :: t, 0, _, h => by
    have e : b = c := by simpa using h
    rw [cutS, if_pos e]
    simp
  | b :: t, k + 1, ha, h => by
    rw [List.take_succ_cons, List.all_cons, Bool.and_eq_true] at ha
    have hb : b ≠ c := by simpa using ha.1
    have ih := cutS_at c t k ha.2 (by simpa using h)
    rw [cutS, if_neg hb, ih]
    rfl
theorem cutS_none (c : UInt8) : ∀ l : List UInt8, l.all (fun b => b != c) = true → cutS c l = (l, [], false)
  | [], _ => rfl
  | b :: t, ha => by
    rw [List.all_cons, Bool.and_eq_true] at ha
    have hb : b ≠ c := by simpa using ha.1
    rw [cutS, if_neg hb, cutS_none c t ha.2]
theorem byte_ne (b : UInt8) (c : UInt8) : (((b.toNat : Nat) : Int) != (c.toNat : Int)) = (b != c) := by
  by_cases h : b = c
  · subst h; simp
  · have h1 : ((b.toNat : Nat) : Int) ≠ (c.toNat : Int) := fun e => h (UInt8.toNat_inj.1 (by omega))
    rw [bne_iff_ne.2 h1, bne_iff_ne.2 h]

set_option maxRecDepth 100000 in
set_option maxHeartbeats 4000000 in
theorem rline_any (s : ByteArray) (hs : s.size ≤ 1000000) (w : World) :
    Calls Tryz.prog 85 #[.string s] w fun e w' => fldOut (lineF s) (lineB s) e ∧ Below w.heap.size w w' := by
  have hat := fun k h1 h2 => cutS_at 58 s.data.toList k h1 h2
  have hno := cutS_none 58 s.data.toList
  have HAT := hide hat
  have HNO := hide hno
  clear hat hno
  go_enter Tryz.func85, Tryz.ntmps85
  go_upto_region 1 with fail
  have HR := hide (Reg.Has.new w [.string ⟨#[]⟩, .string ⟨#[]⟩] 55)
  have HB := hide ((Below.refl w.heap.size w).alloc (Nat.le_refl _) (.cells #[.string ⟨#[]⟩, .string ⟨#[]⟩] 55))
  have zr := (unhide HR).lt
  generalize w.alloc (.cells #[.string ⟨#[]⟩, .string ⟨#[]⟩] 55) = w1 at HR HB zr ⊢
  go_wp2_with fail
  go_loop [4] (fun n => ∃ k : Nat, k ≤ s.size ∧ n = .int .i64 k ∧ (s.data.toList.take k).all (fun b => b != 58) = true) (fun n => s.size - (intOf n).toNat)
  case atStart => exact ⟨0, Nat.zero_le _, rfl, rfl⟩
  case round =>
    obtain ⟨k, hk, rfl, hall⟩ := hrel
    have HA := Lib.hid hall
    clear hall
    by_cases hlt : k < s.size
    · have hb := byte_ne s[k] 58
      have hT := Lib.hid (all_take (q := fun b => b != 58) s k hlt)
      cases hq : (s[k] != 58)
      · rw [hq] at hb
        have h58 : s[k] = 58 := by simpa using hq
        have hg : s.data.toList[k]? = some 58 := by
          rw [List.getElem?_eq_getElem (by simpa using hlt), ← h58]
          rfl
        have hcut := (unhide HAT) k HA.out hg
        have HCUT := Lib.hid hcut
        have hb2 : (((s[k].toNat : Nat) : Int) != 58) = false := hb
        have e1 : (s.extract 0 k).data.toList = (cutS 58 s.data.toList).1 := by rw [hcut, Lib.extract_data]; rfl
        have e2 : (s.extract (k + 1) s.size).data.toList = (cutS 58 s.data.toList).2.1 := by rw [hcut, Lib.extract_to_end]
        have hT2 := fun w => rtrim_any (s.extract (k + 1) s.size) (by rw [size_list e2]; have := (cutS_len 58 s.data.toList).2; have h8 : s.data.toList.length = s.size := by simp
                                                                      omega) w
        rw [e2] at hT2
        have hx : (lineF s).1 = s.extract 0 k := (ba_eq e1).symm
        have hlb : lineB s = chkS (lineF s) := by unfold lineB; rw [hcut]; rfl
        have hy : (lineF s).2 = ofL (trimW (cutS 58 s.data.toList).2.1) := rfl
        rw [← hy] at hT2
        have hzl := lineF_size s
        obtain ⟨⟨x, y⟩, hf⟩ : ∃ f, lineF s = f := ⟨_, rfl⟩
        rw [hf] at hT2 hx hlb hzl
        have hck := fun w => rcheck_any x y (Nat.le_trans hzl.1 hs) (Nat.le_trans hzl.2 hs) w
        obtain ⟨ok, hok⟩ : ∃ ok, chkS (x, y) = ok := ⟨_, rfl⟩
        rw [hok] at hlb hck
        simp only at hx hT2
        have HT2 := hide hT2
        have HCK := hide hck
        have HF := Lib.hid hf
        have HLB := Lib.hid hlb
        clear hb hq h58 hg hcut hT e1 e2 hT2 hy hzl hck hok hf hlb
        go_upto_region 6 with fail
        refine Reg.region_plan (w0 := w) (.run [0, 1, 2, 3, 4, 5, 6] (.two 7 9 (.two 8 9 (.run [9, 10] .done) (.run [8, 10] .done)) (.run [7, 8, 10] .done))) (by kernel_rfl) (by kernel_rfl) (by kernel_rfl) (by decide) (by intro c a d v w h; cases d <;> exact h) (unhide HB) ?_
        simp only [Reg.wpPlan, Reg.pickL, List.getElem?_cons_zero, List.getElem?_cons_succ]
        refine Reg.mix_take 7 (by kernel_rfl) ?_
        simp only [List.take_succ_cons, List.take_zero, List.drop_succ_cons, List.drop_zero]
        repeat (go_big_quiet_step (fail))
        refine wpQuiet_nil ?_
        refine Reg.mix_nil ?_
        have HR := hide ((unhide HR).call (Below.drew (Below.refl _ _)))
        have HB := hide ((unhide HB).drew)
        have zr2 : w.heap.size < w1.drew.heap.size := zr
        generalize w1.drew = w2 at HR HB zr2 ⊢
        subst hx
        have HBN := hide ((unhide HB).alloc (unhide HB).size (.cells #[.string (s.extract 0 k), .string y] 55))
        have HN := hide (Reg.Has.new w2 [.string (s.extract 0 k), .string y] 55)
        have HRN := hide ((unhide HR).alloc (.cells #[.string (s.extract 0 k), .string y] 55))
        have zb2 : w.heap.size < w2.heap.size := zr2
        refine ⟨?_, ?_⟩
        · skip
          go_wp2_with ((go_at_call 98; refine (unhide HT2 _).mono ?_; rintro e w3 ⟨rfl, rfl⟩))
          refine ⟨rfl, ⟨⟨_, unhide HB⟩, rfl⟩, ?_⟩
          simp only [Reg.wpPlan, Reg.pickL, List.getElem?_cons_zero, List.getElem?_cons_succ]
          refine ⟨?_, ?_⟩
          · skip
            go_wp2_with (fail)
            refine ⟨rfl, ⟨⟨_, unhide HB⟩, rfl⟩, ?_⟩
            refine Reg.mix_one (by kernel_rfl) ?_
            go_wp2_with (fail)
            refine ⟨rfl, ⟨⟨_, (unhide HB).alloc (unhide HB).size _⟩, rfl⟩, ?_⟩
            refine Reg.mix_one (by kernel_rfl) ?_
            go_wp2_with (fail)
            refine ⟨rfl, ⟨⟨_, unhide HBN⟩, rfl⟩, ?_⟩
            refine Reg.mix_nil ?_
            generalize w2.alloc (.cells #[.string (s.extract 0 k), .string y] 55) = wf at HN HBN HRN ⊢
            generalize w2.heap.size = gf at *
            generalize s.extract 0 k = x at *
            have p0 := (unhide HRN).cell 0 _ rfl
            have p1 := (unhide HRN).cell 1 _ rfl
            have zz := (unhide HRN).lt
            have zf := (unhide HN).lt
            unfold errI at HCK
            cases ok
            · simp only [Bool.false_eq_true, if_false] at HCK
              go_wp2_with (first
                | (refine wpList_storeF rfl _ _ rfl w.heap.size rfl #[.string ⟨#[]⟩, .string ⟨#[]⟩] rfl rfl _ rfl (unhide HR9) (by kernel_rfl) ?_; intro HZ; have HBZ := below_setCells w.heap.size (Nat.le_refl _) (#[.string ⟨#[]⟩, .string ⟨#[]⟩]).toList 0 _ (unhide HB9); generalize World.setCells _ w.heap.size 0 _ = w9 at HZ HBZ ⊢; have ZZ := hide HZ; have BZ := hide HBZ; clear HZ HBZ)
                | (refine wpList_loadF rfl _ rfl gf rfl _ rfl (unhide HN) ?_)
                | (go_at_call 78; refine (unhide HCK _).mono ?_; rintro e w4 ⟨rfl, hb4⟩; have HR9 := hide ((unhide HRN).call hb4); have HB9 := hide ((unhide HBN).trans (hb4.mono (unhide HBN).size)); clear hb4))
              have hl := run_loadF w.heap.size #[.string ⟨#[]⟩, .string ⟨#[]⟩] rfl (unhide ZZ)
              refine bodyPost_ret (Mem.results_cell2 (ad := ⟨w.heap.size, 0, none⟩) Tryz.results85 rfl hl) rfl ⟨?_, unhide BZ⟩
              rw [HF.out, HLB.out]
              rfl
            · simp only [if_true] at HCK
              go_wp2_with (first
                | (refine wpList_storeF rfl _ _ rfl w.heap.size rfl #[.string x, .string y] rfl rfl _ rfl (unhide HR9) (by kernel_rfl) ?_; intro HZ; have HBZ := below_setCells w.heap.size (Nat.le_refl _) (#[.string x, .string y]).toList 0 _ (unhide HB9); generalize World.setCells _ w.heap.size 0 _ = w9 at HZ HBZ ⊢; have ZZ := hide HZ; have BZ := hide HBZ; clear HZ HBZ)
                | (have h7 := ckDone; refine wpList_loadF rfl _ rfl gf rfl _ rfl (unhide HN9) ?_)
                | (refine wpList_loadF rfl _ rfl gf rfl _ rfl (unhide HN) ?_)
                | (go_at_call 78; refine (unhide HCK _).mono ?_; rintro e w4 ⟨rfl, hb4⟩; have ckDone := True.intro; have HN9 := hide ((unhide HN).call hb4); have HR9 := hide ((unhide HRN).call hb4); have HB9 := hide ((unhide HBN).trans (hb4.mono (unhide HBN).size)); clear hb4))
              have hl := run_loadF w.heap.size #[.string x, .string y] rfl (unhide ZZ)
              refine bodyPost_ret (Mem.results_cell2 (ad := ⟨w.heap.size, 0, none⟩) Tryz.results85 rfl hl) rfl ⟨?_, unhide BZ⟩
              rw [HF.out, HLB.out]
              rfl
          · skip
            go_wp2_with (fail)
            refine ⟨rfl, ⟨⟨_, (unhide HB).alloc (unhide HB).size _⟩, rfl⟩, ?_⟩
            refine Reg.mix_one (by kernel_rfl) ?_
            go_wp2_with (fail)
            refine ⟨rfl, ⟨⟨_, (unhide HB).alloc (unhide HB).size _⟩, rfl⟩, ?_⟩
            refine Reg.mix_one (by kernel_rfl) ?_
            go_wp2_with (fail)
            refine ⟨rfl, ⟨⟨_, unhide HBN⟩, rfl⟩, ?_⟩
            refine Reg.mix_nil ?_
            generalize w2.alloc (.cells #[.string (s.extract 0 k), .string y] 55) = wf at HN HBN HRN ⊢
            generalize w2.heap.size = gf at *
            generalize s.extract 0 k = x at *
            have p0 := (unhide HRN).cell 0 _ rfl
            have p1 := (unhide HRN).cell 1 _ rfl
            have zz := (unhide HRN).lt
            have zf := (unhide HN).lt
            unfold errI at HCK
            cases ok
            · simp only [Bool.false_eq_true, if_false] at HCK
              go_wp2_with (first
                | (refine wpList_storeF rfl _ _ rfl w.heap.size rfl #[.string ⟨#[]⟩, .string ⟨#[]⟩] rfl rfl _ rfl (unhide HR9) (by kernel_rfl) ?_; intro HZ; have HBZ := below_setCells w.heap.size (Nat.le_refl _) (#[.string ⟨#[]⟩, .string ⟨#[]⟩]).toList 0 _ (unhide HB9); generalize World.setCells _ w.heap.size 0 _ = w9 at HZ HBZ ⊢; have ZZ := hide HZ; have BZ := hide HBZ; clear HZ HBZ)
                | (refine wpList_loadF rfl _ rfl gf rfl _ rfl (unhide HN) ?_)
                | (go_at_call 78; refine (unhide HCK _).mono ?_; rintro e w4 ⟨rfl, hb4⟩; have HR9 := hide ((unhide HRN).call hb4); have HB9 := hide ((unhide HBN).trans (hb4.mono (unhide HBN).size)); clear hb4))
              have hl := run_loadF w.heap.size #[.string ⟨#[]⟩, .string ⟨#[]⟩] rfl (unhide ZZ)
              refine bodyPost_ret (Mem.results_cell2 (ad := ⟨w.heap.size, 0, none⟩) Tryz.results85 rfl hl) rfl ⟨?_, unhide BZ⟩
              rw [HF.out, HLB.out]
              rfl
            · simp only [if_true] at HCK
              go_wp2_with (first
                | (refine wpList_storeF rfl _ _ rfl w.heap.size rfl #[.string x, .string y] rfl rfl _ rfl (unhide HR9) (by kernel_rfl) ?_; intro HZ; have HBZ := below_setCells w.heap.size (Nat.le_refl _) (#[.string x, .string y]).toList 0 _ (unhide HB9); generalize World.setCells _ w.heap.size 0 _ = w9 at HZ HBZ ⊢; have ZZ := hide HZ; have BZ := hide HBZ; clear HZ HBZ)
                | (have h7 := ckDone; refine wpList_loadF rfl _ rfl gf rfl _ rfl (unhide HN9) ?_)
                | (refine wpList_loadF rfl _ rfl gf rfl _ rfl (unhide HN) ?_)
                | (go_at_call 78; refine (unhide HCK _).mono ?_; rintro e w4 ⟨rfl, hb4⟩; have ckDone := True.intro; have HN9 := hide ((unhide HN).call hb4); have HR9 := hide ((unhide HRN).call hb4); have HB9 := hide ((unhide HBN).trans (hb4.mono (unhide HBN).size)); clear hb4))
              have hl := run_loadF w.heap.size #[.string x, .string y] rfl (unhide ZZ)
              refine bodyPost_ret (Mem.results_cell2 (ad := ⟨w.heap.size, 0, none⟩) Tryz.results85 rfl hl) rfl ⟨?_, unhide BZ⟩
              rw [HF.out, HLB.out]
              rfl
        · skip
          go_wp2_with (fail)
          refine ⟨rfl, ⟨⟨_, (unhide HB).alloc (unhide HB).size _⟩, rfl⟩, ?_⟩
          refine Reg.mix_one (by kernel_rfl) ?_
          go_wp2_with ((go_at_call 98; refine (unhide HT2 _).mono ?_; rintro e w3 ⟨rfl, rfl⟩))
          refine ⟨rfl, ⟨⟨_, (unhide HB).alloc (unhide HB).size _⟩, rfl⟩, ?_⟩
          refine Reg.mix_one (by kernel_rfl) ?_
          go_wp2_with (fail)
          refine ⟨rfl, ⟨⟨_, (unhide HB).alloc (unhide HB).size _⟩, rfl⟩, ?_⟩
          refine Reg.mix_one (by kernel_rfl) ?_
          go_wp2_with (fail)
          refine ⟨rfl, ⟨⟨_, unhide HBN⟩, rfl⟩, ?_⟩
          refine Reg.mix_nil ?_
          generalize w2.alloc (.cells #[.string (s.extract 0 k), .string y] 55) = wf at HN HBN HRN ⊢
          generalize w2.heap.size = gf at *
          generalize s.extract 0 k = x at *
          have p0 := (unhide HRN).cell 0 _ rfl
          have p1 := (unhide HRN).cell 1 _ rfl
          have zz := (unhide HRN).lt
          have zf := (unhide HN).lt
          unfold errI at HCK
          cases ok
          · simp only [Bool.false_eq_true, if_false] at HCK
            go_wp2_with (first
              | (refine wpList_storeF rfl _ _ rfl w.heap.size rfl #[.string ⟨#[]⟩, .string ⟨#[]⟩] rfl rfl _ rfl (unhide HR9) (by kernel_rfl) ?_; intro HZ; have HBZ := below_setCells w.heap.size (Nat.le_refl _) (#[.string ⟨#[]⟩, .string ⟨#[]⟩]).toList 0 _ (unhide HB9); generalize World.setCells _ w.heap.size 0 _ = w9 at HZ HBZ ⊢; have ZZ := hide HZ; have BZ := hide HBZ; clear HZ HBZ)
              | (refine wpList_loadF rfl _ rfl gf rfl _ rfl (unhide HN) ?_)
              | (go_at_call 78; refine (unhide HCK _).mono ?_; rintro e w4 ⟨rfl, hb4⟩; have HR9 := hide ((unhide HRN).call hb4); have HB9 := hide ((unhide HBN).trans (hb4.mono (unhide HBN).size)); clear hb4))
            have hl := run_loadF w.heap.size #[.string ⟨#[]⟩, .string ⟨#[]⟩] rfl (unhide ZZ)
            refine bodyPost_ret (Mem.results_cell2 (ad := ⟨w.heap.size, 0, none⟩) Tryz.results85 rfl hl) rfl ⟨?_, unhide BZ⟩
            rw [HF.out, HLB.out]
            rfl
          · simp only [if_true] at HCK
            go_wp2_with (first
              | (refine wpList_storeF rfl _ _ rfl w.heap.size rfl #[.string x, .string y] rfl rfl _ rfl (unhide HR9) (by kernel_rfl) ?_; intro HZ; have HBZ := below_setCells w.heap.size (Nat.le_refl _) (#[.string x, .string y]).toList 0 _ (unhide HB9); generalize World.setCells _ w.heap.size 0 _ = w9 at HZ HBZ ⊢; have ZZ := hide HZ; have BZ := hide HBZ; clear HZ HBZ)
              | (have h7 := ckDone; refine wpList_loadF rfl _ rfl gf rfl _ rfl (unhide HN9) ?_)
              | (refine wpList_loadF rfl _ rfl gf rfl _ rfl (unhide HN) ?_)
              | (go_at_call 78; refine (unhide HCK _).mono ?_; rintro e w4 ⟨rfl, hb4⟩; have ckDone := True.intro; have HN9 := hide ((unhide HN).call hb4); have HR9 := hide ((unhide HRN).call hb4); have HB9 := hide ((unhide HBN).trans (hb4.mono (unhide HBN).size)); clear hb4))
            have hl := run_loadF w.heap.size #[.string x, .string y] rfl (unhide ZZ)
            refine bodyPost_ret (Mem.results_cell2 (ad := ⟨w.heap.size, 0, none⟩) Tryz.results85 rfl hl) rfl ⟨?_, unhide BZ⟩
            rw [HF.out, HLB.out]
            rfl
      · rw [hq] at hb
        have hb2 : (((s[k].toNat : Nat) : Int) != 58) = true := hb
        have HQ := Lib.hid hq
        clear hq hb
        go_wp2_with fail
        go_round
        case rel => exact ⟨k + 1, by omega, by go_num, by rw [hT.out, HA.out, HQ.out]; rfl⟩
        case measure => simp [intOf]; omega
    · have hke : k = s.size := by omega
      subst hke
      have hall := HA.out
      rw [List.take_of_length_le (by simp)] at hall
      have hcut := (unhide HNO) hall
      have hlb : lineB s = false := by unfold lineB; rw [hcut]; rfl
      have HLB := Lib.hid hlb
      clear hall hcut hlb
      go_wp2_with (refine wpList_storeF rfl _ _ rfl w.heap.size rfl #[.string ⟨#[]⟩, .string ⟨#[]⟩] rfl rfl _ rfl (unhide HR) (by kernel_rfl) ?_; intro HZ; have HBZ := below_setCells w.heap.size (Nat.le_refl _) (#[.string ⟨#[]⟩, .string ⟨#[]⟩]).toList 0 _ (unhide HB); generalize World.setCells _ w.heap.size 0 _ = w9 at HZ HBZ ⊢; have ZZ := hide HZ; have BZ := hide HBZ; clear HZ HBZ)
      have hl := run_loadF w.heap.size #[.string ⟨#[]⟩, .string ⟨#[]⟩] rfl (unhide ZZ)
      refine bodyPost_ret (Mem.results_cell2 (ad := ⟨w.heap.size, 0, none⟩) Tryz.results85 rfl hl) rfl ⟨?_, unhide BZ⟩
      rw [HLB.out]
      rfl


theorem infoU8 : (Tryz.prog.info? 5).map (fun i => (i.zero, i.size, i.bytes)) = some (some (.int .u8 0), 1, 1) := by kernel_rfl
section
variable {ops : Array Oper} {rest : List Oper} {o : Oper} {a : Act} {w : World} {Q : Exit → Act → World → Prop}
theorem wpList_pushStr {w0 : World} (hgd : o.guard = none) (s x : Operand) (ho : o.op = .call { callee := .builtin .append, args := #[s, x], argTypes := #[66, 9] })
    (base : Nat) (v : Value) (n : Nat) (l : List UInt8) (hl : l.length = n) (hs : a.eval s = v) (hown : Sl.Own w0 w base 5 1 v n (Lib.byteCells l)) (u : ByteArray) (hx : a.eval x = .string u) (hn : n + u.size ≤ 100000000000)
    (h : ∀ v' w1, Sl.Own w0 w1 base 5 1 v' (n + u.size) (Lib.byteCells (l ++ u.data.toList)) → wpList Tryz.prog ops Q rest (a.put o.dst v') w1) : wpList Tryz.prog ops Q (o :: rest) a w := by
  obtain ⟨i0, hi, hz0, hz1, hz2⟩ := info_parts infoU8
  refine Lib.wpList_append_own_string w hgd s x 66 9 ho base 5 i0 Tryz.underlying66 Tryz.underlying9 hi hz0 hz1 hz2 v n (Lib.byteCells l) hs hown.own u hx (by unfold maxLen; omega) (by omega) hown.le (fun v' w' h2 h3 _ => ?_)
  refine h v' w' ⟨?_, hown.bel.grown h3 hown.le (row_base hown.own), Nat.le_trans hown.le h3.size⟩
  have e1 : Lib.byteCells (l ++ u.data.toList) = Lib.byteCells l ++ Lib.strCells u := by simp [Lib.byteCells, Lib.strCells]
  rw [e1]
  exact h2
theorem run_ownText {base : Nat} {v : Value} (l : List UInt8) (h : w.ownsRow base 5 1 v l.length (Lib.byteCells l)) : (convert 66 9 v).run Tryz.prog w = .ok (.string ⟨l.toArray⟩) w := by
  rcases h.2 with ⟨rfl, h0⟩ | ⟨g, cap, cur, rfl, _⟩
  · have hl : l = [] := List.eq_nil_of_length_eq_zero h0
    subst hl
    exact Lib.run_convert_nil_bytes w 66 9 5 0 Tryz.underlying66 Tryz.underlying5 Tryz.underlying9
  · refine Mem.run_text 66 5 9 Tryz.underlying66 Tryz.underlying5 Tryz.underlying9 g 0 cap l (fun i u hu => ?_)
    rw [Nat.zero_add]
    have hlt : i < l.length := by
      have := (List.getElem?_eq_some_iff.1 hu).1
      rw [Mem.bytesV_len] at this
      exact this
    exact (h.cellAt i (by omega)).trans hu
theorem wpList_ownText (hgd : o.guard = none) (x : Operand) (ho : o.op = .convert 66 9 x) {base : Nat} {v : Value} (l : List UInt8) (hx : a.eval x = v) (hown : w.ownsRow base 5 1 v l.length (Lib.byteCells l))
    (h : wpList Tryz.prog ops Q rest (a.put o.dst (.string ⟨l.toArray⟩)) w) : wpList Tryz.prog ops Q (o :: rest) a w := by
  refine wpList_plain hgd fun K hK => ?_
  unfold Oper.wp execOp
  simp only [ho, hx, Sem.run_bind, Sem.run_pure, Result.andThen_ok, run_ownText l hown]
  exact hK _ _ h
end

set_option maxRecDepth 100000 in
set_option maxHeartbeats 4000000 in
theorem rbytes_any (v : Value) (L : List Fld) (hL : L.length ≤ 100000) (hf : ∀ f ∈ L, f.1.size ≤ 100000 ∧ f.2.size ≤ 100000) (w : World) (hv : Rd w v L.length 2 (fldV L)) :
    Calls Tryz.prog 57 #[v] w fun e w' => BytesO L e ∧ Below w.heap.size w w' := by
  obtain ⟨ao, cap, rfl⟩ := hv.form
  have HV := hide hv
  have HF := hide hf
  clear hv hf
  go_enter Tryz.func57, Tryz.ntmps57
  go_wp2_with fail
  go_loopw [4, 5] (fun v i wr => ∃ k : Nat, i = .int .i64 k ∧ k ≤ L.length ∧ (L.take k).all chkS = true ∧ Sl.Own w wr w.heap.size 5 1 v (linesL (L.take k)).length (Lib.byteCells (linesL (L.take k)))) (fun _ i _ => L.length - (intOf i).toNat)
  case atStart => exact ⟨0, rfl, Nat.zero_le _, by simp, Sl.Own.start _ _ (Nat.le_refl _) _ _⟩
  case round =>
    obtain ⟨k, rfl, hk, hall, ho⟩ := hrel
    have HA := Lib.hid hall
    have hrv := Rd.own ho.own
    obtain ⟨bo, cp, rfl⟩ := hrv.form
    have HO := hide ho
    clear hall hrv
    rcases Nat.lt_or_ge k L.length with hlt | hge
    · obtain ⟨b, off, rfl, hbw, c1, c2⟩ := fld_cells (unhide HV) rfl k hlt
      have hz := (unhide HF) L[k] (List.getElem_mem _)
      have hnl := linesL_len 200004 (L.take k) (fun f hf => by have := (unhide HF) f (List.mem_of_mem_take hf); omega)
      rw [List.length_take, Nat.min_eq_left hk] at hnl
      have HS := Lib.hid (linesL_take L k hlt)
      have HT := Lib.hid (allC_take L k hlt)
      have hno := allC_no L k hlt
      obtain ⟨⟨x, y⟩, hx⟩ : ∃ x, L[k] = x := ⟨_, rfl⟩
      rw [hx] at c1 c2 hz hno HS HT
      have d1 := (ho.bel.cell (p := ⟨b, off + k * 2, none⟩) hbw).trans c1
      have d2 := (ho.bel.cell (p := ⟨b, off + k * 2 + 1, none⟩) hbw).trans c2
      obtain ⟨l, hl⟩ : ∃ l, linesL (L.take k) = l := ⟨_, rfl⟩
      rw [hl] at HO HS hnl ⊢
      have hzx : x.size ≤ 100000 := hz.1
      have hzy : y.size ≤ 100000 := hz.2
      have hc := fun w => rcheck_any x y (by omega) (by omega) w
      have hnl2 : l.length ≤ 20000400000 := Nat.le_trans hnl (Nat.le_trans (Nat.mul_le_mul_right _ (by omega : k ≤ 100000)) (by decide))
      obtain ⟨ok, hok⟩ : ∃ ok, chkS (x, y) = ok := ⟨_, rfl⟩
      rw [hok] at hc hno HT
      unfold errI at hc
      have HNO := hide hno
      have hle : l ++ (line1 (x, y)).data.toList = (((l ++ x.data.toList) ++ [58, 32]) ++ y.data.toList) ++ [13, 10] := by
        rw [line1_data]
        simp
      rw [hle] at HS
      clear hx hl hz hnl hno hok ho hle
      cases ok
      · simp only [Bool.false_eq_true, if_false] at hc
        have HC := hide hc
        have HN := Lib.hid ((unhide HNO) rfl)
        clear hc
        go_wp2_with (go_at_call 78; refine (unhide HC _).mono ?_; rintro e w2 ⟨rfl, hb2⟩; have HO2 := hide ((unhide HO).call hb2); clear hb2)
        go_ret2
        unfold BytesO
        rw [HN.out]
        exact ⟨rfl, (unhide HO2).bel⟩
      · simp only [if_true] at hc
        have HC := hide hc
        clear hc
        go_upto_region 8 with (go_at_call 78; refine (unhide HC _).mono ?_; rintro e w2 ⟨rfl, hb2⟩; have HO2 := hide ((unhide HO).call hb2); clear hb2)
        have HO3 := hide ((unhide HO2).call (Below.drew (Below.refl _ _)))
        refine Reg.region_plan (w0 := w) (.run [0, 1, 2, 3, 4, 5, 8, 9, 10, 11, 12, 6, 7, 13, 14, 15] .done) (by kernel_rfl) (by kernel_rfl) (by kernel_rfl) (by decide) (by intro c a d v w h; cases d <;> exact h) ((unhide HO2).bel) ?_
        simp only [Reg.wpPlan, Reg.pickL, List.getElem?_cons_zero, List.getElem?_cons_succ]
        clear d1 d2 HO HO2
        generalize w2.drew = w3 at HO3 ⊢
        refine Reg.mix_take 11 (by kernel_rfl) ?_
        simp only [List.take_succ_cons, List.take_zero, List.drop_succ_cons, List.drop_zero]
        repeat (go_big_quiet_step (fail))
        refine wpQuiet_nil ?_
        refine Reg.mix_one (by kernel_rfl) ?_
        go_wp2_with ((at_builtin; refine wpList_pushStr (w0 := w) rfl _ _ rfl w.heap.size _ l.length l rfl rfl (unhide HO3) x rfl (by omega) ?_; intro v4 w4 h4; obtain ⟨ao4, cp4, rfl⟩ := (Rd.own h4.own).form; have HO4 := hide h4; clear h4))
        refine ⟨rfl, ⟨⟨_, (unhide HO4).bel⟩, rfl⟩, ?_⟩
        refine Reg.mix_one (by kernel_rfl) ?_
        go_wp2_with ((at_builtin; refine wpList_pushStr (w0 := w) rfl _ _ rfl w.heap.size _ (l.length + x.size) _ (by first | (simp; done) | (simp; omega)) rfl (unhide HO4) ⟨#[58, 32]⟩ rfl (by show l.length + x.size + 2 ≤ _; omega) ?_; intro v5 w5 h5; obtain ⟨ao5, cp5, rfl⟩ := (Rd.own h5.own).form; have HO5 := hide h5; clear h5))
        refine ⟨rfl, ⟨⟨_, (unhide HO5).bel⟩, rfl⟩, ?_⟩
        refine Reg.mix_one (by kernel_rfl) ?_
        go_wp2_with ((at_builtin; refine wpList_pushStr (w0 := w) rfl _ _ rfl w.heap.size _ (l.length + x.size + 2) _ (by first | (simp; done) | (simp; omega)) rfl (unhide HO5) y rfl (by omega) ?_; intro v6 w6 h6; obtain ⟨ao6, cp6, rfl⟩ := (Rd.own h6.own).form; have HO6 := hide h6; clear h6))
        refine ⟨rfl, ⟨⟨_, (unhide HO6).bel⟩, rfl⟩, ?_⟩
        refine Reg.mix_one (by kernel_rfl) ?_
        go_wp2_with ((at_builtin; refine wpList_pushStr (w0 := w) rfl _ _ rfl w.heap.size _ (l.length + x.size + 2 + y.size) _ (by first | (simp; done) | (simp; omega)) rfl (unhide HO6) ⟨#[13, 10]⟩ rfl (by show l.length + x.size + 2 + y.size + 2 ≤ _; omega) ?_; intro v7 w7 h7; obtain ⟨ao7, cp7, rfl⟩ := (Rd.own h7.own).form; have HO7 := hide h7; clear h7))
        refine ⟨rfl, ⟨⟨_, (unhide HO7).bel⟩, rfl⟩, ?_⟩
        refine Reg.mix_take 1 (by kernel_rfl) ?_
        simp only [List.take_succ_cons, List.take_zero, List.drop_succ_cons, List.drop_zero]
        repeat (go_big_quiet_step (fail))
        refine wpQuiet_nil ?_
        refine Reg.mix_nil ?_
        go_wp2_with fail
        have hln : List.length (l ++ x.data.toList ++ [58, 32] ++ y.data.toList ++ [13, 10]) = l.length + x.size + 2 + y.size + 2 := by simp; omega
        go_roundw
        case rel => exact ⟨k + 1, by go_num, by omega, by rw [HT.out, HA.out]; rfl, by rw [HS.out, hln]; exact unhide HO7⟩
        case measure => simp [intOf]; omega
    · have hT : L.take k = L := List.take_of_length_le hge
      rw [hT] at HA HO ⊢
      clear hT ho
      go_wp2_with (refine wpList_ownText rfl _ rfl (linesL L) rfl (unhide HO).own ?_)
      go_ret2
      unfold BytesO
      rw [HA.out]
      exact ⟨rfl, (unhide HO).bel⟩


end Go.Proofs.YtbpopmbabckojaaGreatDoor.Sp
end
