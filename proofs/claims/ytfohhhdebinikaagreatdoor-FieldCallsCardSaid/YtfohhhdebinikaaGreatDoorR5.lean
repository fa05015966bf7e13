/- FieldCalls, the walk. -/
import Derived.Test.YtfohhhdebinikaaGreatDoorE3
import Derived.Test.YtfohhhdebinikaaGreatDoorReg3
import Derived.OrdersHeld
import Derived.Test.YtfohhhdebinikaaGreatDoorF8
import Derived.Lib.BufferRead
import Derived.Test.YtfohhhdebinikaaGreatDoorN3
namespace Go.Proofs.YtfohhhdebinikaaGreatDoor.Reg
open Go.RowKit Go

section
variable {P : Program} {ops : Array Oper} {md : Region.Mode} {S : World → Prop} {Q : Exit → Act → World → Prop}

inductive Plan where
  | done
  | run (π : List Nat) (p : Plan)
  | two (i j : Nat) (p q : Plan)

def planB (md : Region.Mode) (ops : Array Oper) : Plan → Array Bool → Bool
  | .done, listed => (Region.ready md ops listed).isEmpty
  | .run π p, listed => mixP md ops π listed && planB md ops p (lay listed π)
  | .two i j p q, listed => (decide (Region.ready md ops listed = [i, j]) && ((ops[i]?).isSome && (ops[j]?).isSome)) && (planB md ops p (listed.setIfInBounds i true) && planB md ops q (listed.setIfInBounds j true))
def planLen : Plan → Nat
  | .done => 0
  | .run π p => π.length + planLen p
  | .two _ _ p q => 1 + max (planLen p) (planLen q)
def wpPlan (P : Program) (ops : Array Oper) (S : World → Prop) (Q : Exit → Act → World → Prop) (l : List Oper) : Plan → Act → World → Prop
  | .done, a, w => Q .normal a w
  | .run π p, a, w => wpMix P ops S (fun _ a w => wpPlan P ops S Q l p a w) (pickL l π) a w
  | .two i j p q, a, w => wpList P ops (Then S (wpPlan P ops S Q l p)) (pickL l [i]) a w ∧ wpList P ops (Then S (wpPlan P ops S Q l q)) (pickL l [j]) a w

theorem wpAnyH_mixK {l : List Oper} {K : Act → World → Prop} (hsel : Region.noSelect l.toArray = true) (hQ : ∀ c a d v w, Q (.panic c) (Act.put a d v) w → Q (.panic c) a w) :
    ∀ (π : List Nat) (f : Nat) (listed : Array Bool) (a : Act) (w : World), mixP md l.toArray π listed = true → S w → π.length ≤ f →
      (∀ f' a' w', f ≤ f' + π.length → S w' → K a' w' → wpAnyH P md l.toArray Q S f' (lay listed π) a' w') → wpMix P l.toArray S (fun _ a w => K a w) (pickL l π) a w → wpAnyH P md l.toArray Q S f listed a w
  | [], f, listed, a, w, _, hS, _, hK, h => hK f a w (by simp) hS h
  | i :: π, 0, _, _, _, _, _, hl, _, _ => absurd hl (by simp)
  | i :: π, f + 1, listed, a, w, hB, hS, hl, hK, h => by
    simp only [mixP, Bool.and_eq_true] at hB
    obtain ⟨hB, hB'⟩ := hB
    have hK' : ∀ f' a' w', f ≤ f' + π.length → S w' → K a' w' → wpAnyH P md l.toArray Q S f' (lay (listed.setIfInBounds i true) π) a' w' :=
      fun f' a' w' hf hs hk => hK f' a' w' (by simp; omega) hs hk
    cases hi : l.toArray[i]? with
    | none => simp [hi] at hB
    | some o =>
      simp only [hi] at hB
      have hi' : l[i]? = some o := by simpa using hi
      simp only [pickL, hi', wpMix] at h
      by_cases hr : readKind o.op = true
      · simp only [hr, if_true, Bool.and_eq_true] at hB h
        obtain ⟨v, hy, h⟩ := h
        exact wpAnyH_take hi hsel hB.2 hB.1 (fun c a w => hQ c a _ _ w) hy hS (wpAnyH_mixK hsel hQ π f _ _ w hB' hS (by simpa using hl) hK' h)
      · simp only [hr, Bool.false_eq_true, if_false, decide_eq_true_eq] at hB h
        refine wpAnyH_all hB (by simp) fun j hj => ?_
        rw [List.mem_singleton] at hj
        subst hj
        exact wpOp_mono (fun a' w' h' => ⟨h'.1, wpAnyH_mixK hsel hQ π f _ _ w' hB' h'.1 (by simpa using hl) hK' h'.2⟩) (wpOp_of_then hi h)

theorem wpAnyH_plan {l : List Oper} (hsel : Region.noSelect l.toArray = true) (hQ : ∀ c a d v w, Q (.panic c) (Act.put a d v) w → Q (.panic c) a w) :
    ∀ (p : Plan) (f : Nat) (listed : Array Bool) (a : Act) (w : World), planB md l.toArray p listed = true → S w → planLen p ≤ f → wpPlan P l.toArray S Q l p a w → wpAnyH P md l.toArray Q S f listed a w
  | .done, f, listed, a, w, hB, _, _, h => wpAnyH_done (by simpa [planB] using hB) h f
  | .run π p, f, listed, a, w, hB, hS, hl, h => by
    simp only [planB, Bool.and_eq_true] at hB
    simp only [planLen] at hl
    exact wpAnyH_mixK hsel hQ π f listed a w hB.1 hS (by omega) (fun f' a' w' hf hs hk => wpAnyH_plan hsel hQ p f' _ a' w' hB.2 hs (by omega) hk) h
  | .two i j p q, 0, _, _, _, _, _, hl, _ => absurd hl (by simp [planLen])
  | .two i j p q, f + 1, listed, a, w, hB, hS, hl, h => by
    simp only [planB, Bool.and_eq_true, decide_eq_true_eq] at hB
    obtain ⟨⟨hr, hsi, hsj⟩, hp, hq⟩ := hB
    simp only [planLen] at hl
    obtain ⟨oi, hi⟩ := Option.isSome_iff_exists.1 hsi
    obtain ⟨oj, hj⟩ := Option.isSome_iff_exists.1 hsj
    have hi' : l[i]? = some oi := by simpa using hi
    have hj' : l[j]? = some oj := by simpa using hj
    simp only [wpPlan, pickL, hi', hj'] at h
    refine wpAnyH_all hr (by simp) fun k hk => ?_
    rcases List.mem_cons.1 hk with rfl | hk
    · exact wpOp_mono (fun a' w' h' => ⟨h'.1, wpAnyH_plan hsel hQ p f _ _ w' hp h'.1 (by omega) h'.2⟩) (wpOp_of_then hi h.1)
    · rw [List.mem_singleton] at hk
      subst hk
      exact wpOp_mono (fun a' w' h' => ⟨h'.1, wpAnyH_plan hsel hQ q f _ _ w' hq h'.1 (by omega) h'.2⟩) (wpOp_of_then hj h.2)

theorem region_plan {w0 : World} {id : Nat} {a : Act} {w : World} {l : List Oper} (p : Plan) (hm : P.follows .mixedOrders = true) (hsel : Region.noSelect l.toArray = true) (hB : planB .any l.toArray p (Array.replicate l.toArray.size false) = true) (hn : planLen p ≤ l.toArray.size)
    (hQ : ∀ c a d v w, Q (.panic c) (Act.put a d v) w → Q (.panic c) a w) (h0 : Below w0.heap.size w0 w) (h : wpPlan P l.toArray (fun w' => ∃ x : More w0, w' = x.w) Q l p a w.drew) : (Code.region id l.toArray true).wp P Q a w :=
  wp_region_held hm (wpAnyH_plan hsel hQ p _ _ a _ hB ⟨⟨w.drew, h0.drew⟩, rfl⟩ hn h)
end
end Go.Proofs.YtfohhhdebinikaaGreatDoor.Reg

namespace Go.Proofs.YtfohhhdebinikaaGreatDoor.Sp
open Go.RowKit Sl

def charI (c : Int) : Bool := decide (c = 9 ∨ (32 ≤ c ∧ c ≤ 126) ∨ 128 ≤ c)
theorem charI_B (c : UInt8) : charI c.toNat = chr c := by
  have := byte_all (fun c => charI c.toNat == chr c) (by decide +kernel) c
  simpa using this
theorem char_any (c : Int) (w : World) : Calls Tryz.prog 72 #[.int .u8 c] w fun e w' => e = .returned (.bool (charI c)) ∧ w = w' := by
  go_enter Tryz.func72, Tryz.ntmps72
  by_cases h9 : c = 9
  · have hb : (c == 9) = true := by simp [h9]
    have H := Lib.hid h9
    clear h9
    go_wp2
    all_goals go_ret
    all_goals exact ⟨ret_bool (by unfold charI; rw [decide_eq_true (Or.inl H.out)]), rfl⟩
  · have hb : (c == 9) = false := by simp [h9]
    have H := Lib.hid h9
    clear h9
    go_wp2
    all_goals go_ret
    all_goals exact ⟨ret_bool (by unfold charI; have := H.out; (first | (with_reducible refine dec_t ?_; omega) | (with_reducible refine dec_f ?_; omega) | (with_reducible refine dec_d ?_; omega) | (with_reducible refine dec_e ?_; omega) | (with_reducible refine dec_n ?_; omega) | (with_reducible refine dec_nd ?_; omega))), rfl⟩

set_option maxHeartbeats 1000000 in
theorem chars_any (s : ByteArray) (hs : s.size ≤ 9223372036854775807) (w : World) :
    Calls Tryz.prog 60 #[.string s] w fun e w' => e = .returned (.bool (allS chr s.data.toList)) ∧ w = w' := by
  go_enter Tryz.func60, Tryz.ntmps60
  go_wp2_with fail
  go_loop [3] (fun n => ∃ k : Nat, k ≤ s.size ∧ n = .int .i64 k ∧ (s.data.toList.take k).all chr = true) (fun n => s.size - (intOf n).toNat)
  case atStart => exact ⟨0, Nat.zero_le _, rfl, rfl⟩
  case round =>
    obtain ⟨k, hk, rfl, hall⟩ := hrel
    have HA := Lib.hid hall
    clear hall
    by_cases hlt : k < s.size
    · have hN := Lib.hid (all_no (q := chr) s k hlt)
      have hT := Lib.hid (all_take (q := chr) s k hlt)
      have hc := hide (char_any s[k].toNat)
      rw [charI_B] at hc
      cases hq : chr s[k]
      · rw [hq] at hc
        have HQ := Lib.hid hq
        clear hq
        go_wp2_with (go_at_call 72; refine (unhide hc _).mono ?_; rintro e w1 ⟨rfl, rfl⟩)
        go_ret
        exact ⟨ret_bool (by unfold allS; rw [hN.out HQ.out]), rfl⟩
      · rw [hq] at hc
        have HQ := Lib.hid hq
        clear hq
        go_wp2_with (go_at_call 72; refine (unhide hc _).mono ?_; rintro e w1 ⟨rfl, rfl⟩)
        go_round
        case rel => exact ⟨k + 1, by omega, by go_num, by rw [hT.out, HA.out, HQ.out]; rfl⟩
        case measure => simp [intOf]; omega
    · have hke : k = s.size := by omega
      subst hke
      have hall := HA.out
      rw [List.take_of_length_le (by simp)] at hall
      have HF := Lib.hid hall
      clear hall
      go_wp2
      go_ret
      exact ⟨ret_bool (by unfold allS; rw [HF.out]), rfl⟩

set_option maxRecDepth 100000 in
set_option maxHeartbeats 2000000 in
theorem rcheck_any (x y : ByteArray) (hx : x.size ≤ 1000000) (hy : y.size ≤ 1000000) (w : World) :
    Calls Tryz.prog 37 #[.agg #[.string x, .string y]] w fun e w' => e = .returned (.int .i64 (errI (chkS (x, y)))) ∧ Below w.heap.size w w' := by
  have h1 := fun w => rtoken_any x (by omega) w
  have h2 := fun w => chars_any y (by omega) w
  have h3 := fun w => rtrim_any y (by omega) w
  have hc : chkS (x, y) = ((tokenS x.data.toList && allS chr y.data.toList) && ((ofL (trimW y.data.toList)).toList == y.toList)) := rfl
  rw [hc]
  obtain ⟨z, hz⟩ : ∃ z, ofL (trimW y.data.toList) = z := ⟨_, rfl⟩
  obtain ⟨a, ha⟩ : ∃ a, tokenS x.data.toList = a := ⟨_, rfl⟩
  obtain ⟨b, hb⟩ : ∃ b, allS chr y.data.toList = b := ⟨_, rfl⟩
  rw [ha] at h1 ⊢
  rw [hb] at h2 ⊢
  rw [hz] at h3 ⊢
  have H1 := hide h1
  have H2 := hide h2
  have H3 := hide h3
  clear h1 h2 h3 hc hz ha hb
  go_enter Tryz.func37, Tryz.ntmps37
  go_upto_region 1 with fail
  have HH := Reg.Has.new w [.string x, .string y] 30
  have HB := hide ((Below.refl w.heap.size w).alloc (Nat.le_refl _) (.cells #[.string x, .string y] 30))
  generalize w.alloc (.cells #[.string x, .string y] 30) = w1 at HH HB ⊢
  have p1 := HH.cell 0 _ rfl; have q1 := HH.cell 1 _ rfl; have u1 := HH.free 0 (by simp); have v1 := HH.free 1 (by simp); have z1 := HH.lt
  clear HH
  cases a <;> cases b
  all_goals
    refine Reg.region_more (by kernel_rfl) (by kernel_rfl) ?_
    repeat (go_big_quiet_step ((first | (go_at_call 59; exact Reg.Calls.more_same (unhide H1 _)) | (go_at_call 60; exact Reg.Calls.more_same (unhide H2 _)) | (go_at_call 49; exact Reg.Calls.more_same (unhide H3 _)))))
    refine wpQuiet_nil ?_
    intro w9 hb9; obtain ⟨hc9, hf9, hz9⟩ := bcell hb9; (try simp at hz9)
    have HB9 := hide ((unhide HB).trans (hb9.mono (unhide HB).size))
    clear hb9 hc9 hf9
  · go_wp2_with fail
    go_ret
    exact ⟨rfl, unhide HB9⟩
  · go_wp2_with fail
    go_ret
    exact ⟨rfl, unhide HB9⟩
  · go_wp2_with fail
    go_ret
    exact ⟨rfl, unhide HB9⟩
  · cases hzy : (z.toList == y.toList)
    · go_wp2_with fail
      go_ret
      exact ⟨by rw [hzy] <;> rfl, unhide HB9⟩
    · go_wp2_with fail
      go_ret
      exact ⟨by rw [hzy] <;> rfl, unhide HB9⟩


theorem cutS_at (c : UInt8) : ∀ (l : List UInt8) (k : Nat), (l.take k).all (fun b => b != c) = true → l[k]? = some c → cutS c l = (l.take k, l.drop (k + 1), true)
  | [], k, _, h => by simp at h
  | b :: t, 0, _, h => by
    have e : b = c := by simpa using h
    rw [cutS, if_pos e]
    simp
  | b :: t, k + 1, ha, h => by
    rw [List.take_succ_cons, List.all_cons, Bool.and_eq_true] at ha
    have hb : b ≠ c := by simpa using ha.1
    have ih := cutS_at c t k ha.2 (by simpa using h)
    rw [cutS, if_neg hb, ih]
    rfl
theorem cutS_none (c : UInt8) : ∀ l : List UInt8, l.all (fun b => b != c) = true → cutS c l = (l, [], false)
  | [], _ => rfl
  | b :: t, ha => by
    rw [List.all_cons, Bool.and_eq_true] at ha
    have hb : b ≠ c := by simpa using ha.1
    rw [cutS, if_neg hb, cutS_none c t ha.2]
theorem byte_ne (b : UInt8) (c : UInt8) : (((b.toNat : Nat) : Int) != (c.toNat : Int)) = (b != c) := by
  by_cases h : b = c
  · subst h; simp
  · have h1 : ((b.toNat : Nat) : Int) ≠ (c.toNat : Int) := fun e => h (UInt8.toNat_inj.1 (by omega))
    rw [bne_iff_ne.2 h1, bne_iff_ne.2 h]

set_option maxRecDepth 100000 in
set_option maxHeartbeats 4000000 in
theorem rline_any (s : ByteArray) (hs : s.size ≤ 1000000) (w : World) :
    Calls Tryz.prog 27 #[.string s] w fun e w' => fldOut (lineF s) (lineB s) e ∧ Below w.heap.size w w' := by
  have hat := fun k h1 h2 => cutS_at 58 s.data.toList k h1 h2
  have hno := cutS_none 58 s.data.toList
  have HAT := hide hat
  have HNO := hide hno
  clear hat hno
  go_enter Tryz.func27, Tryz.ntmps27
  go_upto_region 1 with fail
  have HR := hide (Reg.Has.new w [.string ⟨#[]⟩, .string ⟨#[]⟩] 30)
  have HB := hide ((Below.refl w.heap.size w).alloc (Nat.le_refl _) (.cells #[.string ⟨#[]⟩, .string ⟨#[]⟩] 30))
  have zr := (unhide HR).lt
  generalize w.alloc (.cells #[.string ⟨#[]⟩, .string ⟨#[]⟩] 30) = w1 at HR HB zr ⊢
  go_wp2_with fail
  go_loop [4] (fun n => ∃ k : Nat, k ≤ s.size ∧ n = .int .i64 k ∧ (s.data.toList.take k).all (fun b => b != 58) = true) (fun n => s.size - (intOf n).toNat)
  case atStart => exact ⟨0, Nat.zero_le _, rfl, rfl⟩
  case round =>
    obtain ⟨k, hk, rfl, hall⟩ := hrel
    have HA := Lib.hid hall
    clear hall
    by_cases hlt : k < s.size
    · have hb := byte_ne s[k] 58
      have hT := Lib.hid (all_take (q := fun b => b != 58) s k hlt)
      cases hq : (s[k] != 58)
      · rw [hq] at hb
        have h58 : s[k] = 58 := by simpa using hq
        have hg : s.data.toList[k]? = some 58 := by
          rw [List.getElem?_eq_getElem (by simpa using hlt), ← h58]
          rfl
        have hcut := (unhide HAT) k HA.out hg
        have HCUT := Lib.hid hcut
        have hb2 : (((s[k].toNat : Nat) : Int) != 58) = false := hb
        have e1 : (s.extract 0 k).data.toList = (cutS 58 s.data.toList).1 := by rw [hcut, Lib.extract_data]; rfl
        have e2 : (s.extract (k + 1) s.size).data.toList = (cutS 58 s.data.toList).2.1 := by rw [hcut, Lib.extract_to_end]
        have hT2 := fun w => rtrim_any (s.extract (k + 1) s.size) (by rw [size_list e2]; have := (cutS_len 58 s.data.toList).2; have h8 : s.data.toList.length = s.size := by simp
                                                                      omega) w
        rw [e2] at hT2
        have hx : (lineF s).1 = s.extract 0 k := (ba_eq e1).symm
        have hlb : lineB s = chkS (lineF s) := by unfold lineB; rw [hcut]; rfl
        have hy : (lineF s).2 = ofL (trimW (cutS 58 s.data.toList).2.1) := rfl
        rw [← hy] at hT2
        have hzl := lineF_size s
        obtain ⟨⟨x, y⟩, hf⟩ : ∃ f, lineF s = f := ⟨_, rfl⟩
        rw [hf] at hT2 hx hlb hzl
        have hck := fun w => rcheck_any x y (Nat.le_trans hzl.1 hs) (Nat.le_trans hzl.2 hs) w
        obtain ⟨ok, hok⟩ : ∃ ok, chkS (x, y) = ok := ⟨_, rfl⟩
        rw [hok] at hlb hck
        simp only at hx hT2
        have HT2 := hide hT2
        have HCK := hide hck
        have HF := Lib.hid hf
        have HLB := Lib.hid hlb
        clear hb hq h58 hg hcut hT e1 e2 hT2 hy hzl hck hok hf hlb
        go_upto_region 6 with fail
        refine Reg.region_plan (w0 := w) (.run [0, 1, 2, 3, 4, 5, 6] (.two 7 9 (.two 8 9 (.run [9, 10] .done) (.run [8, 10] .done)) (.run [7, 8, 10] .done))) (by kernel_rfl) (by kernel_rfl) (by kernel_rfl) (by decide) (by intro c a d v w h; cases d <;> exact h) (unhide HB) ?_
        simp only [Reg.wpPlan, Reg.pickL, List.getElem?_cons_zero, List.getElem?_cons_succ]
        refine Reg.mix_take 7 (by kernel_rfl) ?_
        simp only [List.take_succ_cons, List.take_zero, List.drop_succ_cons, List.drop_zero]
        repeat (go_big_quiet_step (fail))
        refine wpQuiet_nil ?_
        refine Reg.mix_nil ?_
        have HR := hide ((unhide HR).call (Below.drew (Below.refl _ _)))
        have HB := hide ((unhide HB).drew)
        have zr2 : w.heap.size < w1.drew.heap.size := zr
        generalize w1.drew = w2 at HR HB zr2 ⊢
        subst hx
        have HBN := hide ((unhide HB).alloc (unhide HB).size (.cells #[.string (s.extract 0 k), .string y] 30))
        have HN := hide (Reg.Has.new w2 [.string (s.extract 0 k), .string y] 30)
        have HRN := hide ((unhide HR).alloc (.cells #[.string (s.extract 0 k), .string y] 30))
        have zb2 : w.heap.size < w2.heap.size := zr2
        refine ⟨?_, ?_⟩
        · skip
          go_wp2_with ((go_at_call 49; refine (unhide HT2 _).mono ?_; rintro e w3 ⟨rfl, rfl⟩))
          refine ⟨rfl, ⟨⟨_, unhide HB⟩, rfl⟩, ?_⟩
          simp only [Reg.wpPlan, Reg.pickL, List.getElem?_cons_zero, List.getElem?_cons_succ]
          refine ⟨?_, ?_⟩
          · skip
            go_wp2_with (fail)
            refine ⟨rfl, ⟨⟨_, unhide HB⟩, rfl⟩, ?_⟩
            refine Reg.mix_one (by kernel_rfl) ?_
            go_wp2_with (fail)
            refine ⟨rfl, ⟨⟨_, (unhide HB).alloc (unhide HB).size _⟩, rfl⟩, ?_⟩
            refine Reg.mix_one (by kernel_rfl) ?_
            go_wp2_with (fail)
            refine ⟨rfl, ⟨⟨_, unhide HBN⟩, rfl⟩, ?_⟩
            refine Reg.mix_nil ?_
            generalize w2.alloc (.cells #[.string (s.extract 0 k), .string y] 30) = wf at HN HBN HRN ⊢
            generalize w2.heap.size = gf at *
            generalize s.extract 0 k = x at *
            have p0 := (unhide HRN).cell 0 _ rfl
            have p1 := (unhide HRN).cell 1 _ rfl
            have zz := (unhide HRN).lt
            have zf := (unhide HN).lt
            unfold errI at HCK
            cases ok
            · simp only [Bool.false_eq_true, if_false] at HCK
              go_wp2_with (first
                | (refine wpList_storeF rfl _ _ rfl w.heap.size rfl #[.string ⟨#[]⟩, .string ⟨#[]⟩] rfl rfl _ rfl (unhide HR9) (by kernel_rfl) ?_; intro HZ; have HBZ := below_setCells w.heap.size (Nat.le_refl _) (#[.string ⟨#[]⟩, .string ⟨#[]⟩]).toList 0 _ (unhide HB9); generalize World.setCells _ w.heap.size 0 _ = w9 at HZ HBZ ⊢; have ZZ := hide HZ; have BZ := hide HBZ; clear HZ HBZ)
                | (refine wpList_loadF rfl _ rfl gf rfl _ rfl (unhide HN) ?_)
                | (go_at_call 37; refine (unhide HCK _).mono ?_; rintro e w4 ⟨rfl, hb4⟩; have HR9 := hide ((unhide HRN).call hb4); have HB9 := hide ((unhide HBN).trans (hb4.mono (unhide HBN).size)); clear hb4))
              have hl := run_loadF w.heap.size #[.string ⟨#[]⟩, .string ⟨#[]⟩] rfl (unhide ZZ)
              refine bodyPost_ret (Mem.results_cell2 (ad := ⟨w.heap.size, 0, none⟩) Tryz.results27 rfl hl) rfl ⟨?_, unhide BZ⟩
              rw [HF.out, HLB.out]
              rfl
            · simp only [if_true] at HCK
              go_wp2_with (first
                | (refine wpList_storeF rfl _ _ rfl w.heap.size rfl #[.string x, .string y] rfl rfl _ rfl (unhide HR9) (by kernel_rfl) ?_; intro HZ; have HBZ := below_setCells w.heap.size (Nat.le_refl _) (#[.string x, .string y]).toList 0 _ (unhide HB9); generalize World.setCells _ w.heap.size 0 _ = w9 at HZ HBZ ⊢; have ZZ := hide HZ; have BZ := hide HBZ; clear HZ HBZ)
                | (have h7 := ckDone; refine wpList_loadF rfl _ rfl gf rfl _ rfl (unhide HN9) ?_)
                | (refine wpList_loadF rfl _ rfl gf rfl _ rfl (unhide HN) ?_)
                | (go_at_call 37; refine (unhide HCK _).mono ?_; rintro e w4 ⟨rfl, hb4⟩; have ckDone := True.intro; have HN9 := hide ((unhide HN).call hb4); have HR9 := hide ((unhide HRN).call hb4); have HB9 := hide ((unhide HBN).trans (hb4.mono (unhide HBN).size)); clear hb4))
              have hl := run_loadF w.heap.size #[.string x, .string y] rfl (unhide ZZ)
              refine bodyPost_ret (Mem.results_cell2 (ad := ⟨w.heap.size, 0, none⟩) Tryz.results27 rfl hl) rfl ⟨?_, unhide BZ⟩
              rw [HF.out, HLB.out]
              rfl
          · skip
            go_wp2_with (fail)
            refine ⟨rfl, ⟨⟨_, (unhide HB).alloc (unhide HB).size _⟩, rfl⟩, ?_⟩
            refine Reg.mix_one (by kernel_rfl) ?_
            go_wp2_with (fail)
            refine ⟨rfl, ⟨⟨_, (unhide HB).alloc (unhide HB).size _⟩, rfl⟩, ?_⟩
            refine Reg.mix_one (by kernel_rfl) ?_
            go_wp2_with (fail)
            refine ⟨rfl, ⟨⟨_, unhide HBN⟩, rfl⟩, ?_⟩
            refine Reg.mix_nil ?_
            generalize w2.alloc (.cells #[.string (s.extract 0 k), .string y] 30) = wf at HN HBN HRN ⊢
            generalize w2.heap.size = gf at *
            generalize s.extract 0 k = x at *
            have p0 := (unhide HRN).cell 0 _ rfl
            have p1 := (unhide HRN).cell 1 _ rfl
            have zz := (unhide HRN).lt
            have zf := (unhide HN).lt
            unfold errI at HCK
            cases ok
            · simp only [Bool.false_eq_true, if_false] at HCK
              go_wp2_with (first
                | (refine wpList_storeF rfl _ _ rfl w.heap.size rfl #[.string ⟨#[]⟩, .string ⟨#[]⟩] rfl rfl _ rfl (unhide HR9) (by kernel_rfl) ?_; intro HZ; have HBZ := below_setCells w.heap.size (Nat.le_refl _) (#[.string ⟨#[]⟩, .string ⟨#[]⟩]).toList 0 _ (unhide HB9); generalize World.setCells _ w.heap.size 0 _ = w9 at HZ HBZ ⊢; have ZZ := hide HZ; have BZ := hide HBZ; clear HZ HBZ)
                | (refine wpList_loadF rfl _ rfl gf rfl _ rfl (unhide HN) ?_)
                | (go_at_call 37; refine (unhide HCK _).mono ?_; rintro e w4 ⟨rfl, hb4⟩; have HR9 := hide ((unhide HRN).call hb4); have HB9 := hide ((unhide HBN).trans (hb4.mono (unhide HBN).size)); clear hb4))
              have hl := run_loadF w.heap.size #[.string ⟨#[]⟩, .string ⟨#[]⟩] rfl (unhide ZZ)
              refine bodyPost_ret (Mem.results_cell2 (ad := ⟨w.heap.size, 0, none⟩) Tryz.results27 rfl hl) rfl ⟨?_, unhide BZ⟩
              rw [HF.out, HLB.out]
              rfl
            · simp only [if_true] at HCK
              go_wp2_with (first
                | (refine wpList_storeF rfl _ _ rfl w.heap.size rfl #[.string x, .string y] rfl rfl _ rfl (unhide HR9) (by kernel_rfl) ?_; intro HZ; have HBZ := below_setCells w.heap.size (Nat.le_refl _) (#[.string x, .string y]).toList 0 _ (unhide HB9); generalize World.setCells _ w.heap.size 0 _ = w9 at HZ HBZ ⊢; have ZZ := hide HZ; have BZ := hide HBZ; clear HZ HBZ)
                | (have h7 := ckDone; refine wpList_loadF rfl _ rfl gf rfl _ rfl (unhide HN9) ?_)
                | (refine wpList_loadF rfl _ rfl gf rfl _ rfl (unhide HN) ?_)
                | (go_at_call 37; refine (unhide HCK _).mono ?_; rintro e w4 ⟨rfl, hb4⟩; have ckDone := True.intro; have HN9 := hide ((unhide HN).call hb4); have HR9 := hide ((unhide HRN).call hb4); have HB9 := hide ((unhide HBN).trans (hb4.mono (unhide HBN).size)); clear hb4))
              have hl := run_loadF w.heap.size #[.string x, .string y] rfl (unhide ZZ)
              refine bodyPost_ret (Mem.results_cell2 (ad := ⟨w.heap.size, 0, none⟩) Tryz.results27 rfl hl) rfl ⟨?_, unhide BZ⟩
              rw [HF.out, HLB.out]
              rfl
        · skip
          go_wp2_with (fail)
          refine ⟨rfl, ⟨⟨_, (unhide HB).alloc (unhide HB).size _⟩, rfl⟩, ?_⟩
          refine Reg.mix_one (by kernel_rfl) ?_
          go_wp2_with ((go_at_call 49; refine (unhide HT2 _).mono ?_; rintro e w3 ⟨rfl, rfl⟩))
          refine ⟨rfl, ⟨⟨_, (unhide HB).alloc (unhide HB).size _⟩, rfl⟩, ?_⟩
          refine Reg.mix_one (by kernel_rfl) ?_
          go_wp2_with (fail)
          refine ⟨rfl, ⟨⟨_, (unhide HB).alloc (unhide HB).size _⟩, rfl⟩, ?_⟩
          refine Reg.mix_one (by kernel_rfl) ?_
          go_wp2_with (fail)
          refine ⟨rfl, ⟨⟨_, unhide HBN⟩, rfl⟩, ?_⟩
          refine Reg.mix_nil ?_
          generalize w2.alloc (.cells #[.string (s.extract 0 k), .string y] 30) = wf at HN HBN HRN ⊢
          generalize w2.heap.size = gf at *
          generalize s.extract 0 k = x at *
          have p0 := (unhide HRN).cell 0 _ rfl
          have p1 := (unhide HRN).cell 1 _ rfl
          have zz := (unhide HRN).lt
          have zf := (unhide HN).lt
          unfold errI at HCK
          cases ok
          · simp only [Bool.false_eq_true, if_false] at HCK
            go_wp2_with (first
              | (refine wpList_storeF rfl _ _ rfl w.heap.size rfl #[.string ⟨#[]⟩, .string ⟨#[]⟩] rfl rfl _ rfl (unhide HR9) (by kernel_rfl) ?_; intro HZ; have HBZ := below_setCells w.heap.size (Nat.le_refl _) (#[.string ⟨#[]⟩, .string ⟨#[]⟩]).toList 0 _ (unhide HB9); generalize World.setCells _ w.heap.size 0 _ = w9 at HZ HBZ ⊢; have ZZ := hide HZ; have BZ := hide HBZ; clear HZ HBZ)
              | (refine wpList_loadF rfl _ rfl gf rfl _ rfl (unhide HN) ?_)
              | (go_at_call 37; refine (unhide HCK _).mono ?_; rintro e w4 ⟨rfl, hb4⟩; have HR9 := hide ((unhide HRN).call hb4); have HB9 := hide ((unhide HBN).trans (hb4.mono (unhide HBN).size)); clear hb4))
            have hl := run_loadF w.heap.size #[.string ⟨#[]⟩, .string ⟨#[]⟩] rfl (unhide ZZ)
            refine bodyPost_ret (Mem.results_cell2 (ad := ⟨w.heap.size, 0, none⟩) Tryz.results27 rfl hl) rfl ⟨?_, unhide BZ⟩
            rw [HF.out, HLB.out]
            rfl
          · simp only [if_true] at HCK
            go_wp2_with (first
              | (refine wpList_storeF rfl _ _ rfl w.heap.size rfl #[.string x, .string y] rfl rfl _ rfl (unhide HR9) (by kernel_rfl) ?_; intro HZ; have HBZ := below_setCells w.heap.size (Nat.le_refl _) (#[.string x, .string y]).toList 0 _ (unhide HB9); generalize World.setCells _ w.heap.size 0 _ = w9 at HZ HBZ ⊢; have ZZ := hide HZ; have BZ := hide HBZ; clear HZ HBZ)
              | (have h7 := ckDone; refine wpList_loadF rfl _ rfl gf rfl _ rfl (unhide HN9) ?_)
              | (refine wpList_loadF rfl _ rfl gf rfl _ rfl (unhide HN) ?_)
              | (go_at_call 37; refine (unhide HCK _).mono ?_; rintro e w4 ⟨rfl, hb4⟩; have ckDone := True.intro; have HN9 := hide ((unhide HN).call hb4); have HR9 := hide ((unhide HRN).call hb4); have HB9 := hide ((unhide HBN).trans (hb4.mono (unhide HBN).size)); clear hb4))
            have hl := run_loadF w.heap.size #[.string x, .string y] rfl (unhide ZZ)
            refine bodyPost_ret (Mem.results_cell2 (ad := ⟨w.heap.size, 0, none⟩) Tryz.results27 rfl hl) rfl ⟨?_, unhide BZ⟩
            rw [HF.out, HLB.out]
            rfl
      · rw [hq] at hb
        have hb2 : (((s[k].toNat : Nat) : Int) != 58) = true := hb
        have HQ := Lib.hid hq
        clear hq hb
        go_wp2_with fail
        go_round
        case rel => exact ⟨k + 1, by omega, by go_num, by rw [hT.out, HA.out, HQ.out]; rfl⟩
        case measure => simp [intOf]; omega
    · have hke : k = s.size := by omega
      subst hke
      have hall := HA.out
      rw [List.take_of_length_le (by simp)] at hall
      have hcut := (unhide HNO) hall
      have hlb : lineB s = false := by unfold lineB; rw [hcut]; rfl
      have HLB := Lib.hid hlb
      clear hall hcut hlb
      go_wp2_with (refine wpList_storeF rfl _ _ rfl w.heap.size rfl #[.string ⟨#[]⟩, .string ⟨#[]⟩] rfl rfl _ rfl (unhide HR) (by kernel_rfl) ?_; intro HZ; have HBZ := below_setCells w.heap.size (Nat.le_refl _) (#[.string ⟨#[]⟩, .string ⟨#[]⟩]).toList 0 _ (unhide HB); generalize World.setCells _ w.heap.size 0 _ = w9 at HZ HBZ ⊢; have ZZ := hide HZ; have BZ := hide HBZ; clear HZ HBZ)
      have hl := run_loadF w.heap.size #[.string ⟨#[]⟩, .string ⟨#[]⟩] rfl (unhide ZZ)
      refine bodyPost_ret (Mem.results_cell2 (ad := ⟨w.heap.size, 0, none⟩) Tryz.results27 rfl hl) rfl ⟨?_, unhide BZ⟩
      rw [HLB.out]
      rfl


theorem infoU8 : (Tryz.prog.info? 5).map (fun i => (i.zero, i.size, i.bytes)) = some (some (.int .u8 0), 1, 1) := by kernel_rfl
section
variable {ops : Array Oper} {rest : List Oper} {o : Oper} {a : Act} {w : World} {Q : Exit → Act → World → Prop}
theorem wpList_pushStr {w0 : World} (hgd : o.guard = none) (s x : Operand) (ho : o.op = .call { callee := .builtin .append, args := #[s, x], argTypes := #[54, 9] })
    (base : Nat) (v : Value) (n : Nat) (l : List UInt8) (hl : l.length = n) (hs : a.eval s = v) (hown : Sl.Own w0 w base 5 1 v n (Lib.byteCells l)) (u : ByteArray) (hx : a.eval x = .string u) (hn : n + u.size ≤ 100000000000)
    (h : ∀ v' w1, Sl.Own w0 w1 base 5 1 v' (n + u.size) (Lib.byteCells (l ++ u.data.toList)) → wpList Tryz.prog ops Q rest (a.put o.dst v') w1) : wpList Tryz.prog ops Q (o :: rest) a w := by
  obtain ⟨i0, hi, hz0, hz1, hz2⟩ := info_parts infoU8
  refine Lib.wpList_append_own_string w hgd s x 54 9 ho base 5 i0 Tryz.underlying54 Tryz.underlying9 hi hz0 hz1 hz2 v n (Lib.byteCells l) hs hown.own u hx (by unfold maxLen; omega) (by omega) hown.le (fun v' w' h2 h3 _ => ?_)
  refine h v' w' ⟨?_, hown.bel.grown h3 hown.le (row_base hown.own), Nat.le_trans hown.le h3.size⟩
  have e1 : Lib.byteCells (l ++ u.data.toList) = Lib.byteCells l ++ Lib.strCells u := by simp [Lib.byteCells, Lib.strCells]
  rw [e1]
  exact h2
theorem run_ownText {base : Nat} {v : Value} (l : List UInt8) (h : w.ownsRow base 5 1 v l.length (Lib.byteCells l)) : (convert 54 9 v).run Tryz.prog w = .ok (.string ⟨l.toArray⟩) w := by
  rcases h.2 with ⟨rfl, h0⟩ | ⟨g, cap, cur, rfl, _⟩
  · have hl : l = [] := List.eq_nil_of_length_eq_zero h0
    subst hl
    exact Lib.run_convert_nil_bytes w 54 9 5 0 Tryz.underlying54 Tryz.underlying5 Tryz.underlying9
  · refine Mem.run_text 54 5 9 Tryz.underlying54 Tryz.underlying5 Tryz.underlying9 g 0 cap l (fun i u hu => ?_)
    rw [Nat.zero_add]
    have hlt : i < l.length := by
      have := (List.getElem?_eq_some_iff.1 hu).1
      rw [Mem.bytesV_len] at this
      exact this
    exact (h.cellAt i (by omega)).trans hu
theorem wpList_ownText (hgd : o.guard = none) (x : Operand) (ho : o.op = .convert 54 9 x) {base : Nat} {v : Value} (l : List UInt8) (hx : a.eval x = v) (hown : w.ownsRow base 5 1 v l.length (Lib.byteCells l))
    (h : wpList Tryz.prog ops Q rest (a.put o.dst (.string ⟨l.toArray⟩)) w) : wpList Tryz.prog ops Q (o :: rest) a w := by
  refine wpList_plain hgd fun K hK => ?_
  unfold Oper.wp execOp
  simp only [ho, hx, Sem.run_bind, Sem.run_pure, Result.andThen_ok, run_ownText l hown]
  exact hK _ _ h
end

set_option maxRecDepth 100000 in
set_option maxHeartbeats 4000000 in
theorem rbytes_any (v : Value) (L : List Fld) (hL : L.length ≤ 100000) (hf : ∀ f ∈ L, f.1.size ≤ 100000 ∧ f.2.size ≤ 100000) (w : World) (hv : Rd w v L.length 2 (fldV L)) :
    Calls Tryz.prog 28 #[v] w fun e w' => BytesO L e ∧ Below w.heap.size w w' := by
  obtain ⟨ao, cap, rfl⟩ := hv.form
  have HV := hide hv
  have HF := hide hf
  clear hv hf
  go_enter Tryz.func28, Tryz.ntmps28
  go_wp2_with fail
  go_loopw [4, 5] (fun v i wr => ∃ k : Nat, i = .int .i64 k ∧ k ≤ L.length ∧ (L.take k).all chkS = true ∧ Sl.Own w wr w.heap.size 5 1 v (linesL (L.take k)).length (Lib.byteCells (linesL (L.take k)))) (fun _ i _ => L.length - (intOf i).toNat)
  case atStart => exact ⟨0, rfl, Nat.zero_le _, by simp, Sl.Own.start _ _ (Nat.le_refl _) _ _⟩
  case round =>
    obtain ⟨k, rfl, hk, hall, ho⟩ := hrel
    have HA := Lib.hid hall
    have hrv := Rd.own ho.own
    obtain ⟨bo, cp, rfl⟩ := hrv.form
    have HO := hide ho
    clear hall hrv
    rcases Nat.lt_or_ge k L.length with hlt | hge
    · obtain ⟨b, off, rfl, hbw, c1, c2⟩ := fld_cells (unhide HV) rfl k hlt
      have hz := (unhide HF) L[k] (List.getElem_mem _)
      have hnl := linesL_len 200004 (L.take k) (fun f hf => by have := (unhide HF) f (List.mem_of_mem_take hf); omega)
      rw [List.length_take, Nat.min_eq_left hk] at hnl
      have HS := Lib.hid (linesL_take L k hlt)
      have HT := Lib.hid (allC_take L k hlt)
      have hno := allC_no L k hlt
      obtain ⟨⟨x, y⟩, hx⟩ : ∃ x, L[k] = x := ⟨_, rfl⟩
      rw [hx] at c1 c2 hz hno HS HT
      have d1 := (ho.bel.cell (p := ⟨b, off + k * 2, none⟩) hbw).trans c1
      have d2 := (ho.bel.cell (p := ⟨b, off + k * 2 + 1, none⟩) hbw).trans c2
      obtain ⟨l, hl⟩ : ∃ l, linesL (L.take k) = l := ⟨_, rfl⟩
      rw [hl] at HO HS hnl ⊢
      have hzx : x.size ≤ 100000 := hz.1
      have hzy : y.size ≤ 100000 := hz.2
      have hc := fun w => rcheck_any x y (by omega) (by omega) w
      have hnl2 : l.length ≤ 20000400000 := Nat.le_trans hnl (Nat.le_trans (Nat.mul_le_mul_right _ (by omega : k ≤ 100000)) (by decide))
      obtain ⟨ok, hok⟩ : ∃ ok, chkS (x, y) = ok := ⟨_, rfl⟩
      rw [hok] at hc hno HT
      unfold errI at hc
      have HNO := hide hno
      have hle : l ++ (line1 (x, y)).data.toList = (((l ++ x.data.toList) ++ [58, 32]) ++ y.data.toList) ++ [13, 10] := by
        rw [line1_data]
        simp
      rw [hle] at HS
      clear hx hl hz hnl hno hok ho hle
      cases ok
      · simp only [Bool.false_eq_true, if_false] at hc
        have HC := hide hc
        have HN := Lib.hid ((unhide HNO) rfl)
        clear hc
        go_wp2_with (go_at_call 37; refine (unhide HC _).mono ?_; rintro e w2 ⟨rfl, hb2⟩; have HO2 := hide ((unhide HO).call hb2); clear hb2)
        go_ret2
        unfold BytesO
        rw [HN.out]
        exact ⟨rfl, (unhide HO2).bel⟩
      · simp only [if_true] at hc
        have HC := hide hc
        clear hc
        go_upto_region 8 with (go_at_call 37; refine (unhide HC _).mono ?_; rintro e w2 ⟨rfl, hb2⟩; have HO2 := hide ((unhide HO).call hb2); clear hb2)
        have HO3 := hide ((unhide HO2).call (Below.drew (Below.refl _ _)))
        refine Reg.region_plan (w0 := w) (.run [0, 1, 2, 3, 4, 5, 8, 9, 10, 11, 12, 6, 7, 13, 14, 15] .done) (by kernel_rfl) (by kernel_rfl) (by kernel_rfl) (by decide) (by intro c a d v w h; cases d <;> exact h) ((unhide HO2).bel) ?_
        simp only [Reg.wpPlan, Reg.pickL, List.getElem?_cons_zero, List.getElem?_cons_succ]
        clear d1 d2 HO HO2
        generalize w2.drew = w3 at HO3 ⊢
        refine Reg.mix_take 11 (by kernel_rfl) ?_
        simp only [List.take_succ_cons, List.take_zero, List.drop_succ_cons, List.drop_zero]
        repeat (go_big_quiet_step (fail))
        refine wpQuiet_nil ?_
        refine Reg.mix_one (by kernel_rfl) ?_
        go_wp2_with ((at_builtin; refine wpList_pushStr (w0 := w) rfl _ _ rfl w.heap.size _ l.length l rfl rfl (unhide HO3) x rfl (by omega) ?_; intro v4 w4 h4; obtain ⟨ao4, cp4, rfl⟩ := (Rd.own h4.own).form; have HO4 := hide h4; clear h4))
        refine ⟨rfl, ⟨⟨_, (unhide HO4).bel⟩, rfl⟩, ?_⟩
        refine Reg.mix_one (by kernel_rfl) ?_
        go_wp2_with ((at_builtin; refine wpList_pushStr (w0 := w) rfl _ _ rfl w.heap.size _ (l.length + x.size) _ (by first | (simp; done) | (simp; omega)) rfl (unhide HO4) ⟨#[58, 32]⟩ rfl (by show l.length + x.size + 2 ≤ _; omega) ?_; intro v5 w5 h5; obtain ⟨ao5, cp5, rfl⟩ := (Rd.own h5.own).form; have HO5 := hide h5; clear h5))
        refine ⟨rfl, ⟨⟨_, (unhide HO5).bel⟩, rfl⟩, ?_⟩
        refine Reg.mix_one (by kernel_rfl) ?_
        go_wp2_with ((at_builtin; refine wpList_pushStr (w0 := w) rfl _ _ rfl w.heap.size _ (l.length + x.size + 2) _ (by first | (simp; done) | (simp; omega)) rfl (unhide HO5) y rfl (by omega) ?_; intro v6 w6 h6; obtain ⟨ao6, cp6, rfl⟩ := (Rd.own h6.own).form; have HO6 := hide h6; clear h6))
        refine ⟨rfl, ⟨⟨_, (unhide HO6).bel⟩, rfl⟩, ?_⟩
        refine Reg.mix_one (by kernel_rfl) ?_
        go_wp2_with ((at_builtin; refine wpList_pushStr (w0 := w) rfl _ _ rfl w.heap.size _ (l.length + x.size + 2 + y.size) _ (by first | (simp; done) | (simp; omega)) rfl (unhide HO6) ⟨#[13, 10]⟩ rfl (by show l.length + x.size + 2 + y.size + 2 ≤ _; omega) ?_; intro v7 w7 h7; obtain ⟨ao7, cp7, rfl⟩ := (Rd.own h7.own).form; have HO7 := hide h7; clear h7))
        refine ⟨rfl, ⟨⟨_, (unhide HO7).bel⟩, rfl⟩, ?_⟩
        refine Reg.mix_take 1 (by kernel_rfl) ?_
        simp only [List.take_succ_cons, List.take_zero, List.drop_succ_cons, List.drop_zero]
        repeat (go_big_quiet_step (fail))
        refine wpQuiet_nil ?_
        refine Reg.mix_nil ?_
        go_wp2_with fail
        have hln : List.length (l ++ x.data.toList ++ [58, 32] ++ y.data.toList ++ [13, 10]) = l.length + x.size + 2 + y.size + 2 := by simp; omega
        go_roundw
        case rel => exact ⟨k + 1, by go_num, by omega, by rw [HT.out, HA.out]; rfl, by rw [HS.out, hln]; exact unhide HO7⟩
        case measure => simp [intOf]; omega
    · have hT : L.take k = L := List.take_of_length_le hge
      rw [hT] at HA HO ⊢
      clear hT ho
      go_wp2_with (refine wpList_ownText rfl _ rfl (linesL L) rfl (unhide HO).own ?_)
      go_ret2
      unfold BytesO
      rw [HA.out]
      exact ⟨rfl, (unhide HO).bel⟩


theorem same_low (a b : ByteArray) : same a.data.toList b.data.toList = decide (low a = low b) := by
  unfold same
  by_cases h : low a = low b
  · rw [decide_eq_true h]
    have e : lower a.data.toList = lower b.data.toList := congrArg (fun z : ByteArray => z.data.toList) h
    rw [e]
    simp
  · rw [decide_eq_false h, beq_eq_false_iff_ne]
    intro e
    exact h (ba_ext e)
theorem has_uniq (L : List Fld) (x : ByteArray) : hasB (uniq L) (low x) = L.any (isN x) := by
  apply Bool.eq_iff_iff.2
  rw [hasB_mem, List.any_eq_true]
  constructor
  · intro h
    obtain ⟨f, hf, e⟩ := uniq_from L h
    exact ⟨f, hf, by unfold isN; rw [same_low]; exact decide_eq_true e⟩
  · rintro ⟨f, hf, h⟩
    unfold isN at h
    rw [same_low] at h
    rw [← of_decide_eq_true h]
    exact foldl_has L [] hf

set_option maxRecDepth 100000 in
set_option maxHeartbeats 1000000 in
theorem rnames_any (v : Value) (L : List Fld) (hL : Few L) (w : World) (hv : Rd w v L.length 2 (fldV L)) :
    Calls Tryz.prog 30 #[v] w (RetS w (uniq L)) := by
  obtain ⟨ao, cap, rfl⟩ := hv.form
  have HV := hide hv
  have HF := hide hL.2
  have hlen := hL.1
  clear hv hL
  go_enter Tryz.func30, Tryz.ntmps30
  go_wp2_with fail
  go_loopw [3, 4] (fun v i wr => ∃ k : Nat, i = .int .i64 k ∧ k ≤ L.length ∧ Sl.Own w wr w.heap.size 9 1 v (uniq (L.take k)).length (strV (uniq (L.take k)))) (fun _ i _ => L.length - (intOf i).toNat)
  case atStart => exact ⟨0, rfl, Nat.zero_le _, Sl.Own.start _ _ (Nat.le_refl _) _ _⟩
  case round =>
    obtain ⟨k, rfl, hk, ho⟩ := hrel
    obtain ⟨bo, cp, rfl⟩ := (Rd.own ho.own).form
    have HO := hide ho
    rcases Nat.lt_or_ge k L.length with hlt | hge
    · obtain ⟨b, off, rfl, hbw, c1, _⟩ := fld_cells (unhide HV) rfl k hlt
      have hz := (unhide HF) L[k] (List.getElem_mem _)
      have hut := uniq_take L k hlt
      have hul : (uniq (L.take k)).length ≤ 100 := by have := uniq_len (L.take k); rw [List.length_take] at this; omega
      unfold addU at hut
      rw [has_uniq] at hut
      obtain ⟨x, hx⟩ : ∃ x, L[k].1 = x := ⟨_, rfl⟩
      rw [hx] at c1 hut hz
      have hzx : x.size ≤ 2000 := hz.1
      have hlc : ∀ w, Calls Tryz.prog 15 #[.string x] w fun e w' => e = .returned (.string (low x)) ∧ Below w.heap.size w w' := fun w => rlower_any x (by omega) w
      obtain ⟨K, hK⟩ : ∃ K, uniq (L.take k) = K := ⟨_, rfl⟩
      rw [hK] at HO hut hul ⊢
      have d0 := (ho.bel.cell (p := ⟨b, off + k * 2, none⟩) hbw).trans c1
      have HUT := Lib.hid hut
      have HLC := hide hlc
      clear hut hlc hz ho hK
      go_wp2_with fail
      go_loopw [5, 6] (fun f i wr2 => ∃ j : Nat, i = .int .i64 j ∧ j ≤ k ∧ f = .bool (!(L.take j).any (isN x)) ∧ Below wr.heap.size wr wr2) (fun _ i _ => k - (intOf i).toNat)
      case atStart => exact ⟨0, rfl, Nat.zero_le _, rfl, Below.refl _ _⟩
      case round =>
        obtain ⟨j, rfl, hj, rfl, hbj⟩ := hrel
        have HO2 := hide ((unhide HO).call hbj)
        have hbw2 := (unhide HO2).bel
        have d1 := (hbw2.cell (p := ⟨b, off + k * 2, none⟩) hbw).trans c1
        have HBJ := hide hbj
        clear hbj
        rcases Nat.lt_or_ge j k with hjk | hjk
        · have hjl : j < L.length := by omega
          obtain ⟨b2, off2, e2, _, m1, _⟩ := fld_cells (unhide HV) rfl j hjl
          cases e2
          have d2 := (hbw2.cell (p := ⟨b, off + j * 2, none⟩) hbw).trans m1
          have hzj := (unhide HF) L[j] (List.getElem_mem _)
          have hany := anyF_take L (isN x) j hjl
          have hin : isN x L[j] = same L[j].1.data.toList x.data.toList := rfl
          rw [hin] at hany
          obtain ⟨y, hy⟩ : ∃ y, L[j].1 = y := ⟨_, rfl⟩
          rw [hy] at m1 d2 hzj hany
          have hsm := fun w => rsame_any y x (by have := hzj.1; omega) (by omega) w
          obtain ⟨sm, hsm2⟩ : ∃ sm, same y.data.toList x.data.toList = sm := ⟨_, rfl⟩
          rw [hsm2] at hsm hany
          obtain ⟨an, han⟩ : ∃ an, (L.take j).any (isN x) = an := ⟨_, rfl⟩
          rw [han] at hany ⊢
          have HSM := hide hsm
          have HAN := Lib.hid hany
          have zb := World.block_lt_of_cell? wr _ d2
          clear hsm hany han hsm2 hin hzj m1 hbw2 hy
          cases an <;> cases sm
          all_goals
            simp only [Bool.not_false, Bool.not_true]
            go_upto_region 9 with fail
            refine Reg.region_more (by kernel_rfl) (by kernel_rfl) ?_
            repeat (go_big_quiet_step ((go_at_call 25; exact Reg.Calls.more (unhide HSM _))))
            refine wpQuiet_nil ?_
            intro w6 hb6; obtain ⟨hc6, hf6, hz6⟩ := bcell hb6; (try simp at hz6)
            have HB6 := hide ((unhide HBJ).trans (hb6.mono (unhide HBJ).size))
            clear hb6 hc6 hf6
            go_wp2_with fail
            go_roundw
            case rel => exact ⟨j + 1, by go_num, by omega, by rw [HAN.out]; rfl, unhide HB6⟩
            case measure => simp [intOf]; omega
        · have hkj : k = j := by omega
          subst hkj
          clear hbw2
          obtain ⟨an, han⟩ : ∃ an, (L.take k).any (isN x) = an := ⟨_, rfl⟩
          rw [han] at HUT ⊢
          clear han
          cases an
          · simp only [Bool.not_false]
            have hut2 : uniq (L.take (k + 1)) = K ++ [low x] := by rw [HUT.out, if_neg (by decide)]
            have HU2 := Lib.hid hut2
            clear hut2 HUT
            go_wp2_with (first
              | (at_builtin; refine wpList_pushS (w0 := w) rfl _ _ rfl w.heap.size _ _ _ rfl (unhide HO3) (low x) rfl _ rfl (by omega) ?_; intro v' w8 h8; obtain ⟨ao', cp', rfl⟩ := (Rd.own h8.own).form; have H8 := hide h8; clear h8)
              | (go_at_call 15; refine (unhide HLC _).mono ?_; rintro e w7 ⟨rfl, hb7⟩; have HO3 := hide ((unhide HO2).call hb7); clear hb7))
            go_roundw
            case rel => exact ⟨k + 1, by go_num, by omega, by rw [HU2.out, List.length_append, strV_app]; exact unhide H8⟩
            case measure => simp [intOf]; omega
          · simp only [Bool.not_true]
            have hut2 : uniq (L.take (k + 1)) = K := by rw [HUT.out, if_pos (by first | rfl | trivial)]
            have HU2 := Lib.hid hut2
            clear hut2 HUT
            go_wp2_with fail
            go_roundw
            case rel => exact ⟨k + 1, by go_num, by omega, by rw [HU2.out]; exact unhide HO2⟩
            case measure => simp [intOf]; omega
    · have hT : L.take k = L := List.take_of_length_le hge
      rw [hT] at HO ⊢
      clear hT ho
      go_wp2_with fail
      go_ret
      exact ⟨_, rfl, (unhide HO).own, (unhide HO).bel⟩


set_option maxRecDepth 100000 in
set_option maxHeartbeats 8000000 in
theorem fcalls_any (u v : Value) (L M : List Fld) (s name value : ByteArray) (hL : L.length ≤ 9223372036854775807) (hM : M.length ≤ 9223372036854775807) (hf : ∀ f ∈ L, f.1.size ≤ 1000000000000000 ∧ f.2.size ≤ 1000000000000000)
    (hg : ∀ f ∈ M, f.1.size ≤ 1000000000000000 ∧ f.2.size ≤ 1000000000000000) (h1 : s.size ≤ 9223372036854775807) (h2 : name.size ≤ 9223372036854775807) (h3 : value.size ≤ 9223372036854775807) (w : World) (hu : Rd w u L.length 2 (fldV L)) (hv : Rd w v M.length 2 (fldV M)) (hX : MaxV w) :
    Calls Tryz.prog 8 #[u, v, .string s, .string name, .string value] w fun e w' => e = .returned (.bool true) ∧ Below w.heap.size w w' := by
  obtain ⟨ao, cap, rfl⟩ := hu.form
  obtain ⟨bo, caq, rfl⟩ := hv.form
  have HU := hide hu
  have HV := hide hv
  have HX := hide hX
  have HB := hide (Below.refl w.heap.size w)
  have HLL := hide (fun w' (h : Below w.heap.size w w') => light_any _ L hL hf w' (hu.below h))
  have HLM := hide (fun w' (h : Below w.heap.size w w') => light_any _ M hM hg w' (hv.below h))
  clear hu hv hX hf hg
  go_enter Tryz.func8, Tryz.ntmps8
  go_upto_region 3 with (go_at_call 9; refine (lives_any _ (unhide HX)).mono ?_; rintro e w1 ⟨rfl, hb⟩; have HB := hide ((unhide HB).trans (hb.mono (unhide HB).size)); clear hb)
  go_wp2_with (first
    | (go_at_call 10; ((with_reducible refine (unhide HLM _ (unhide HB)).mono ?_); rintro e w3 ⟨r2, rfl, hr2, hb⟩; have HR2 := hide hr2; have HB := hide ((unhide HB).trans (hb.mono (unhide HB).size)); clear hr2 hb))
    | (go_at_call 10; ((with_reducible refine (unhide HLL _ (unhide HB)).mono ?_); rintro e w2 ⟨r, rfl, hr, hb⟩; have HR := hide hr; have HB := hide ((unhide HB).trans (hb.mono (unhide HB).size)); clear hr hb)))
  all_goals try (go_ret; exact ⟨rfl, unhide HB⟩)
  have hr9 : r = true := by first | assumption | (have h9 : (!r) = false := by assumption
                                                  simpa using h9)
  subst hr9
  have hr8 : r2 = true := by first | assumption | (have h9 : (!r2) = false := by assumption
                                                   simpa using h9)
  subst hr8
  have hs2 : s.size ≤ 300 := by omega
  have hn2 : name.size ≤ 60 := by omega
  have hv2 : value.size ≤ 100 := by omega
  have hlL := light_few (unhide HR (by first | rfl | trivial))
  have hlM := light_few (unhide HR2 (by first | rfl | trivial))
  have eL1 : L.length ≤ 30 := hlL.1
  have eM1 : M.length ≤ 30 := hlM.1
  have hfew : Few L := ⟨by omega, fun f hf => by have := hlL.2 f hf; omega⟩
  have zL : ∀ f ∈ L, f.1.size ≤ 100000 ∧ f.2.size ≤ 100000 := fun f hf => by have := hlL.2 f hf; omega
  have zM : ∀ f ∈ M, f.1.size ≤ 100000 ∧ f.2.size ≤ 100000 := fun f hf => by have := hlM.2 f hf; omega
  have hfS : Few (setB L name value) := set_few ⟨by omega, fun f hf => by have := hlL.2 f hf; omega⟩ (by omega) (by omega)
  have hfD : Few (delF L name) := del_few hfew
  have hal := allB_small hfew name
  have hbl : (listB L name).length ≤ 1000000 := Nat.le_trans (flat_len (allB L name) 2000 hal.2) (Nat.le_trans (Nat.mul_le_mul_right _ hal.1) (by decide))
  have hul := uniq_len L
  have a1 := fun w (h : MaxV w) => line_any s (by omega) w h
  have a2 := fun w => rline_any s (by omega) w
  unfold fldOut at a1 a2
  have a3 := fun w' (h : Below w.heap.size w w') => bytes_any _ L (by omega) zL w' ((unhide HU).below h)
  have a4 := fun w' (h : Below w.heap.size w w') => rbytes_any _ L (by omega) zL w' ((unhide HU).below h)
  unfold BytesO at a3 a4
  have a5 := fun w' (h : Below w.heap.size w w') => fget_any _ L name hfew (by omega) w' ((unhide HU).below h)
  have a6 := fun w' (h : Below w.heap.size w w') => rget_any _ L name hfew (by omega) w' ((unhide HU).below h)
  have a7 := fun w' (h : Below w.heap.size w w') => lnames_any _ L (by omega) (fun f hf => (zL f hf).1) w' ((unhide HU).below h)
  have a8 := fun w' (h : Below w.heap.size w w') => rnames_any _ L hfew w' ((unhide HU).below h)
  have a9 := fun w' (h : Below w.heap.size w w') => fall_any _ L name hfew (by omega) w' ((unhide HU).below h)
  have a10 := fun w' (h : Below w.heap.size w w') => rall_any _ L name hfew (by omega) w' ((unhide HU).below h)
  have a11 := fun w' (h : Below w.heap.size w w') => flist_any _ L name hfew (by omega) w' ((unhide HU).below h)
  have a12 := fun w' (h : Below w.heap.size w w') => rlist_any _ L name hfew (by omega) w' ((unhide HU).below h)
  have a13 := fun w' (h : Below w.heap.size w w') => own_any _ L (by omega) w' ((unhide HU).below h)
  have a14 := fun u w' (h : Rd w' u L.length 2 (fldV L)) => fset_any u L name value (by omega) (fun f hf => (hfew.2 f hf).1) (by omega) w' h
  have a15 := fun w' (h : Below w.heap.size w w') => rset_any _ L name value hfew (by omega) w' ((unhide HU).below h)
  have a16 := fun u w' (h : Rd w' u L.length 2 (fldV L)) => fdel_any u L name (by omega) (fun f hf => (hfew.2 f hf).1) (by omega) w' h
  have a17 := fun w' (h : Below w.heap.size w w') => rdel_any _ L name hfew (by omega) w' ((unhide HU).below h)
  have a18 := fun w' (h : Below w.heap.size w w') => fsame_any _ _ L M (by omega) (by omega) (fun f hf => (zL f hf).1) (fun f hf => (zM f hf).1) w' ((unhide HU).below h) ((unhide HV).below h)
  have a19 := fun w' (h : Below w.heap.size w w') => rsameF_any _ _ L M (by omega) (by omega) (fun f hf => (zL f hf).1) (fun f hf => (zM f hf).1) w' ((unhide HU).below h) ((unhide HV).below h)
  have a20 := fun w => check_any name value (by omega) (by omega) w
  have a21 := fun w => rcheck_any name value (by omega) (by omega) w
  have s1 := fun u v w' (hu : Rd w' u (uniq L).length 1 (strV (uniq L))) (hv : Rd w' v (uniq L).length 1 (strV (uniq L))) => ksameS_any u v (uniq L) (uniq L) (by omega) (by omega) w' hu hv
  have s2 := fun u v w' (hu : Rd w' u (allB L name).length 1 (strV (allB L name))) (hv : Rd w' v (allB L name).length 1 (strV (allB L name))) => ksameS_any u v (allB L name) (allB L name) (by omega) (by omega) w' hu hv
  have s3 := fun u v w' (hu : Rd w' u (listB L name).length 1 (strV (listB L name))) (hv : Rd w' v (listB L name).length 1 (strV (listB L name))) => ksameS_any u v (listB L name) (listB L name) (by omega) (by omega) w' hu hv
  have s4 := fun u v w' (hu : Rd w' u (setB L name value).length 2 (fldV (setB L name value))) (hv : Rd w' v (setB L name value).length 2 (fldV (setB L name value))) => ksameF_any u v (setB L name value) (setB L name value) (by have := hfS.1; omega) (by have := hfS.1; omega) w' hu hv
  have s5 := fun u v w' (hu : Rd w' u (delF L name).length 2 (fldV (delF L name))) (hv : Rd w' v (delF L name).length 2 (fldV (delF L name))) => ksameF_any u v (delF L name) (delF L name) (by have := hfD.1; omega) (by have := hfD.1; omega) w' hu hv
  rw [sameLS_self] at s1 s2 s3
  rw [sameLF_self] at s4 s5
  obtain ⟨X, hXe⟩ : ∃ X, (if lineB s = true then (lineF s).1 else ⟨#[]⟩) = X := ⟨_, rfl⟩
  obtain ⟨Y, hYe⟩ : ∃ Y, (if lineB s = true then (lineF s).2 else ⟨#[]⟩) = Y := ⟨_, rfl⟩
  obtain ⟨E0, hE0⟩ : ∃ E, errI (lineB s) = E := ⟨_, rfl⟩
  obtain ⟨Z, hZ⟩ : ∃ Z, (if L.all chkS = true then ofL (linesL L) else ⟨#[]⟩) = Z := ⟨_, rfl⟩
  obtain ⟨E1, hE1⟩ : ∃ E, errI (L.all chkS) = E := ⟨_, rfl⟩
  obtain ⟨G, hG⟩ : ∃ G, getB L name = G := ⟨_, rfl⟩
  obtain ⟨gb, hgb⟩ : ∃ gb, (!(allB L name).isEmpty) = gb := ⟨_, rfl⟩
  obtain ⟨E2, hE2⟩ : ∃ E, errI (chkS (name, value)) = E := ⟨_, rfl⟩
  obtain ⟨bb, hbb⟩ : ∃ bb, sameFs L M = bb := ⟨_, rfl⟩
  simp only [hXe, hYe, hE0] at a1 a2
  simp only [hZ, hE1] at a3 a4
  rw [hG, hgb] at a5 a6
  rw [hbb] at a18 a19
  rw [hE2] at a20 a21
  clear hXe hYe hE0 hZ hE1 hG hgb hE2 hbb hal hfS hfD hbl
  obtain ⟨U, hU⟩ : ∃ U, uniq L = U := ⟨_, rfl⟩
  obtain ⟨A, hA⟩ : ∃ A, allB L name = A := ⟨_, rfl⟩
  obtain ⟨B, hB⟩ : ∃ B, listB L name = B := ⟨_, rfl⟩
  obtain ⟨S, hS⟩ : ∃ S, setB L name value = S := ⟨_, rfl⟩
  obtain ⟨D, hD⟩ : ∃ D, delF L name = D := ⟨_, rfl⟩
  rw [hU] at a7 a8 s1
  rw [hA] at a9 a10 s2
  rw [hB] at a11 a12 s3
  rw [hS] at a14 a15 s4
  rw [hD] at a16 a17 s5
  have A1 := hide a1
  have A2 := hide a2
  have A3 := hide a3
  have A4 := hide a4
  have A5 := hide a5
  have A6 := hide a6
  have A7 := hide a7
  have A8 := hide a8
  have A9 := hide a9
  have A10 := hide a10
  have A11 := hide a11
  have A12 := hide a12
  have A13 := hide a13
  have A14 := hide a14
  have A15 := hide a15
  have A16 := hide a16
  have A17 := hide a17
  have A18 := hide a18
  have A19 := hide a19
  have A20 := hide a20
  have A21 := hide a21
  have S1 := hide s1
  have S2 := hide s2
  have S3 := hide s3
  have S4 := hide s4
  have S5 := hide s5
  clear a1 a2 a3 a4 a5 a6 a7 a8 a9 a10 a11 a12 a13 a14 a15 a16 a17 a18 a19 a20 a21 s1 s2 s3 s4 s5 hU hA hB hS hD hlL hlM hfew zL zM hul HR HR2 HLL HLM
  have heq := fun w => eqlFld X Y X Y w
  rw [show (X.toList == X.toList && Y.toList == Y.toList) = true by simp] at heq
  have hgu := fun x y xs ys w => guardFld .eql x y xs ys w
  go_upto_region 6 with (go_at_call 13; refine (unhide A1 _ ((unhide HX).below (unhide HB))).mono ?_; rintro e w4 ⟨rfl, hb⟩; have HB := hide ((unhide HB).trans (hb.mono (unhide HB).size)); clear hb)
  have HP := hide (Reg.Has.new w4 [.string X, .string Y] 30)
  have HB := hide ((unhide HB).alloc (unhide HB).size (.cells #[.string X, .string Y] 30))
  generalize w4.alloc (.cells #[.string X, .string Y] 30) = w5 at HP HB ⊢
  generalize w4.heap.size = gp at *
  go_upto_region 7 with (go_at_call 27; refine (unhide A2 _).mono ?_; rintro e w6 ⟨rfl, hb⟩; have HP := hide ((unhide HP).call hb); have HB := hide ((unhide HB).trans (hb.mono (unhide HB).size)); clear hb)
  have HQ := hide (Reg.Has.new w6 [.string X, .string Y] 30)
  have HP := hide ((unhide HP).alloc (.cells #[.string X, .string Y] 30))
  have HB := hide ((unhide HB).alloc (unhide HB).size (.cells #[.string X, .string Y] 30))
  generalize w6.alloc (.cells #[.string X, .string Y] 30) = w7 at HP HQ HB ⊢
  generalize w6.heap.size = gq at *
  go_upto_region 12 with (first
    | (go_at_call 11; refine (unhide A3 _ (unhide HB)).mono ?_; rintro e w8 ⟨rfl, hb⟩; have HP := hide ((unhide HP).call hb); have HQ := hide ((unhide HQ).call hb); have HB := hide ((unhide HB).trans (hb.mono (unhide HB).size)); clear hb)
    | (go_at_call 28; refine (unhide A4 _ (unhide HB)).mono ?_; rintro e w8 ⟨rfl, hb⟩; have HP := hide ((unhide HP).call hb); have HQ := hide ((unhide HQ).call hb); have HB := hide ((unhide HB).trans (hb.mono (unhide HB).size)); clear hb)
    | (go_at_call 24; refine (unhide A5 _ (unhide HB)).mono ?_; rintro e w8 ⟨rfl, hb⟩; have HP := hide ((unhide HP).call hb); have HQ := hide ((unhide HQ).call hb); have HB := hide ((unhide HB).trans (hb.mono (unhide HB).size)); clear hb)
    | (go_at_call 29; refine (unhide A6 _ (unhide HB)).mono ?_; rintro e w8 ⟨rfl, hb⟩; have HP := hide ((unhide HP).call hb); have HQ := hide ((unhide HQ).call hb); have HB := hide ((unhide HB).trans (hb.mono (unhide HB).size)); clear hb)
    | (go_at_call 17; refine (unhide A7 _ (unhide HB)).mono ?_; rintro e w8 ⟨v8, rfl, ho, hb⟩; obtain ⟨no, nc, rfl⟩ := (Rd.own ho).form; have R1 := hide (Rd.own ho); have HP := hide ((unhide HP).call hb); have HQ := hide ((unhide HQ).call hb); have HB := hide ((unhide HB).trans (hb.mono (unhide HB).size)); clear ho hb))
  have hp := unhide HP
  have hq := unhide HQ
  have p1 := hp.cell 0 _ rfl; have q1 := hp.cell 1 _ rfl; have u1 := hp.free 0 (by simp); have v1 := hp.free 1 (by simp); have z1 := hp.lt
  have p2 := hq.cell 0 _ rfl; have q2 := hq.cell 1 _ rfl; have u2 := hq.free 0 (by simp); have v2 := hq.free 1 (by simp); have z2 := hq.lt
  clear hp hq
  go_wp2_with (first
    | (go_at_call 30; refine (unhide A8 _ (unhide HB)).mono ?_; rintro e w9 ⟨v9, rfl, ho, hb⟩; obtain ⟨ro, rc, rfl⟩ := (Rd.own ho).form; have R1 := hide ((unhide R1).below hb); have R2 := hide (Rd.own ho); have HB := hide ((unhide HB).trans (hb.mono (unhide HB).size)); clear ho hb)
    | (have h7 := mC; go_at_call 20; refine (unhide S3 _ _ _ (unhide R1) (unhide R2)).mono ?_; rintro e w9 ⟨rfl, hb⟩; have HB := hide ((unhide HB).trans (hb.mono (unhide HB).size)); clear hb)
    | (have h7 := mA; go_at_call 20; refine (unhide S2 _ _ _ (unhide R1) (unhide R2)).mono ?_; rintro e w9 ⟨rfl, hb⟩; have HB := hide ((unhide HB).trans (hb.mono (unhide HB).size)); clear hb)
    | (go_at_call 20; refine (unhide S1 _ _ _ (unhide R1) (unhide R2)).mono ?_; rintro e w9 ⟨rfl, hb⟩; have HB := hide ((unhide HB).trans (hb.mono (unhide HB).size)); clear hb)
    | (go_at_call 18; refine (unhide A9 _ (unhide HB)).mono ?_; rintro e w9 ⟨v9, rfl, ho, hb⟩; obtain ⟨ro, rc, rfl⟩ := (Rd.own ho).form; clear R1 R2; have mA := True.intro; have R1 := hide (Rd.own ho); have HB := hide ((unhide HB).trans (hb.mono (unhide HB).size)); clear ho hb)
    | (go_at_call 31; refine (unhide A10 _ (unhide HB)).mono ?_; rintro e w9 ⟨v9, rfl, ho, hb⟩; obtain ⟨ro, rc, rfl⟩ := (Rd.own ho).form; have R1 := hide ((unhide R1).below hb); have R2 := hide (Rd.own ho); have HB := hide ((unhide HB).trans (hb.mono (unhide HB).size)); clear ho hb)
    | (go_at_call 21; refine (unhide A11 _ (unhide HB)).mono ?_; rintro e w9 ⟨v9, rfl, ho, hb⟩; obtain ⟨ro, rc, rfl⟩ := (Rd.own ho).form; clear R1 R2 mA; have mC := True.intro; have R1 := hide (Rd.own ho); have HB := hide ((unhide HB).trans (hb.mono (unhide HB).size)); clear ho hb)
    | (go_at_call 32; refine (unhide A12 _ (unhide HB)).mono ?_; rintro e w9 ⟨v9, rfl, ho, hb⟩; obtain ⟨ro, rc, rfl⟩ := (Rd.own ho).form; have R1 := hide ((unhide R1).below hb); have R2 := hide (Rd.own ho); have HB := hide ((unhide HB).trans (hb.mono (unhide HB).size)); clear ho hb)
    | (go_at_call 14; refine (unhide A13 _ (unhide HB)).mono ?_; rintro e w9 ⟨v9, rfl, ho, hb⟩; obtain ⟨oo, oc, rfl⟩ := (Rd.own ho).form; clear R1 R2; have RO := hide (Rd.own ho); have HB := hide ((unhide HB).trans (hb.mono (unhide HB).size)); clear ho hb)
    | (go_at_call 22; refine (unhide A14 _ _ (unhide RO)).mono ?_; rintro e w9 ⟨v9, rfl, ho, hb⟩; obtain ⟨ro, rc, rfl⟩ := (Rd.own ho).form; have R1 := hide (Rd.own ho); have HB := hide ((unhide HB).trans (hb.mono (unhide HB).size)); clear ho hb RO)
    | (go_at_call 34; refine (unhide A15 _ (unhide HB)).mono ?_; rintro e w9 ⟨v9, rfl, ho, hb⟩; obtain ⟨ro, rc, rfl⟩ := (Rd.own ho).form; have R1 := hide ((unhide R1).below hb); have R2 := hide (Rd.own ho); have HB := hide ((unhide HB).trans (hb.mono (unhide HB).size)); clear ho hb)
    | (go_at_call 23; refine (unhide A16 _ _ (unhide RO)).mono ?_; rintro e w9 ⟨v9, rfl, ho, hb⟩; obtain ⟨ro, rc, rfl⟩ := (Rd.own ho).form; have mD := True.intro; have R1 := hide (Rd.own ho); have HB := hide ((unhide HB).trans (hb.mono (unhide HB).size)); clear ho hb RO)
    | (go_at_call 35; refine (unhide A17 _ (unhide HB)).mono ?_; rintro e w9 ⟨v9, rfl, ho, hb⟩; obtain ⟨ro, rc, rfl⟩ := (Rd.own ho).form; have R1 := hide ((unhide R1).below hb); have R2 := hide (Rd.own ho); have HB := hide ((unhide HB).trans (hb.mono (unhide HB).size)); clear ho hb)
    | (have h7 := mD; go_at_call 33; refine (unhide S5 _ _ _ (unhide R1) (unhide R2)).mono ?_; rintro e w9 ⟨rfl, hb⟩; have HB := hide ((unhide HB).trans (hb.mono (unhide HB).size)); clear hb)
    | (go_at_call 33; refine (unhide S4 _ _ _ (unhide R1) (unhide R2)).mono ?_; rintro e w9 ⟨rfl, hb⟩; have HB := hide ((unhide HB).trans (hb.mono (unhide HB).size)); clear hb)
    | (go_at_call 16; refine (unhide A18 _ (unhide HB)).mono ?_; rintro e w9 ⟨rfl, hb⟩; have HB := hide ((unhide HB).trans (hb.mono (unhide HB).size)); clear hb)
    | (go_at_call 36; refine (unhide A19 _ (unhide HB)).mono ?_; rintro e w9 ⟨rfl, hb⟩; have HB := hide ((unhide HB).trans (hb.mono (unhide HB).size)); clear hb)
    | (go_at_call 12; refine (unhide A20 _).mono ?_; rintro e w9 ⟨rfl, hb⟩; have HB := hide ((unhide HB).trans (hb.mono (unhide HB).size)); clear hb)
    | (go_at_call 37; refine (unhide A21 _).mono ?_; rintro e w9 ⟨rfl, hb⟩; have HB := hide ((unhide HB).trans (hb.mono (unhide HB).size)); clear hb))
  go_ret
  exact ⟨rfl, unhide HB⟩
end Go.Proofs.YtfohhhdebinikaaGreatDoor.Sp
