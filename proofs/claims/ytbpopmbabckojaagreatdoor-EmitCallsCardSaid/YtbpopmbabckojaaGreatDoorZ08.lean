/- Lemmas for the statement's proof, several texts in one: E5, E26, F3, F4, F5, F8. -/
import Derived.Test.YtbpopmbabckojaaGreatDoorZ07
import Derived.Lib.AppendIntMem
/- The reference's Set; ref07's Hop and Strip. -/
namespace Go.Proofs.YtbpopmbabckojaaGreatDoor.Sp
open Go.RowKit Sl

theorem Own.put {w0 w : World} {base : Nat} {e : TypeId} {sz : Nat} {v : Value} {n : Nat} {xs : List Value} (h : Own w0 w base e sz v n xs) (p : Addr) (u : Value) (hp : base ≤ p.block) (hne : ∀ k, v.ownBlock = some k → k ≠ p.block) : Own w0 (w.setCell p u) base e sz v n xs :=
  ⟨h.own.kept (row := some p.block) ⟨rfl, rfl, rfl, by simp [World.setCell], fun k _ hr => Below.heap_setCell _ _ _ _ (by intro e; exact hr (by rw [e]))⟩ (by
    cases hv : v.ownBlock with
    | none => exact .inl rfl
    | some g => exact .inr (by intro e; cases e; exact hne _ hv rfl)), h.bel.setCell hp u, by simpa [World.setCell] using h.le⟩

section
variable {P : Program} {ops : Array Oper} {rest : List Oper} {o : Oper} {a : Act} {w : World} {Q : Exit → Act → World → Prop}
theorem wpList_pushFat {wr w0 : World} (hgd : o.guard = none) (s x : Operand) (ho : o.op = .call { callee := .builtin .append, args := #[s, x], argTypes := #[22, 22] })
    (base : Nat) (v : Value) (n : Nat) (xs : List Value) (hs : a.eval s = v) (hown : Own w0 wr base 55 2 v n xs) (p q : ByteArray) (hw : w = wr.alloc (.cells #[.string p, .string q] 55))
    (g : Nat) (hg : wr.heap.size = g) (c : Nat) (hx : a.eval x = .slice (some ⟨g, 0, none⟩) 1 c) (hn : n ≤ 1000000)
    (h : ∀ v' w1, Own w0 w1 base 55 2 v' (n + 1) (xs ++ [.string p, .string q]) → wpList Tryz.prog ops Q rest (a.put o.dst v') w1) : wpList Tryz.prog ops Q (o :: rest) a w := by
  subst hg
  exact wpList_pushF hgd s x ho base v n xs hs hown p q hw c hx hn h
end



def stepR (name value : ByteArray) (there : Bool) (f : Fld) : List Fld := if isN name f = true then (if there = true then [] else [(f.1, value)]) else [f]
def outR (name value : ByteArray) : Bool → List Fld → List Fld
  | _, [] => []
  | there, f :: t => stepR name value there f ++ outR name value (there || isN name f) t
theorem setR_out (name value : ByteArray) : ∀ (L : List Fld) (there : Bool), setR name value there L = outR name value there L ++ (if (there || L.any (isN name)) = true then [] else [(name, value)])
  | [], true => rfl
  | [], false => rfl
  | f :: t, there => by
    have ih := setR_out name value t
    cases hf : isN name f
    · rw [List.any_cons, hf, Bool.false_or]
      simp [setR, outR, stepR, hf, ih there]
    · cases there <;> simp [setR, outR, stepR, hf, ih true]
theorem outR_app (name value : ByteArray) : ∀ (A B : List Fld) (there : Bool), outR name value there (A ++ B) = outR name value there A ++ outR name value (there || A.any (isN name)) B
  | [], B, there => by simp [outR]
  | f :: t, B, there => by
    rw [List.cons_append, outR, outR, outR_app name value t B, List.append_assoc]
    simp [Bool.or_assoc]
theorem outR_take (name value : ByteArray) (L : List Fld) (k : Nat) (h : k < L.length) : outR name value false (L.take (k + 1)) = outR name value false (L.take k) ++ stepR name value ((L.take k).any (isN name)) L[k] := by
  rw [List.take_succ_eq_append_getElem h, outR_app]
  simp [outR]
theorem anyF_take (L : List Fld) (p : Fld → Bool) (k : Nat) (h : k < L.length) : (L.take (k + 1)).any p = ((L.take k).any p || p L[k]) := by
  rw [List.take_succ_eq_append_getElem h, List.any_append]; simp
theorem outR_len (name value : ByteArray) : ∀ (L : List Fld) (there : Bool), (outR name value there L).length ≤ L.length
  | [], _ => Nat.le_refl _
  | f :: t, there => by
    rw [outR, List.length_append]
    have := outR_len name value t (there || isN name f)
    have h2 : (stepR name value there f).length ≤ 1 := by unfold stepR; repeat' split
                                                          all_goals simp
    simp; omega

end Go.Proofs.YtbpopmbabckojaaGreatDoor.Sp

/- The reference's Same of fields. -/
namespace Go.Proofs.YtbpopmbabckojaaGreatDoor.Sp
open Go.RowKit Sl

def samePF (p : Fld × Fld) : Bool := same p.1.1.data.toList p.2.1.data.toList && p.1.2.toList == p.2.2.toList
/-- the fields are the same, names small or not -/
def sameFs (A B : List Fld) : Bool := decide (A.length = B.length) && (A.zip B).all samePF
theorem zip_step {A B : List Fld} (hl : A.length = B.length) {k : Nat} (h : k < A.length) (h2 : k < B.length) : ((A.zip B).take (k + 1)).all samePF = (((A.zip B).take k).all samePF && samePF (A[k], B[k])) := by
  have hz : k < (A.zip B).length := by rw [List.length_zip]; omega
  rw [List.take_succ_eq_append_getElem hz, List.all_append, List.getElem_zip]
  simp
theorem zip_all {A B : List Fld} (hl : A.length = B.length) : ((A.zip B).take A.length).all samePF = sameFs A B := by
  have hz : (A.zip B).length ≤ A.length := by rw [List.length_zip]; omega
  unfold sameFs
  rw [List.take_of_length_le hz, decide_eq_true hl, Bool.true_and]
theorem zip_no {A B : List Fld} {k : Nat} (h : k < A.length) (h2 : k < B.length) (hn : samePF (A[k], B[k]) = false) : sameFs A B = false := by
  have hz : k < (A.zip B).length := by rw [List.length_zip]; omega
  unfold sameFs
  rw [Bool.and_eq_false_iff]
  refine .inr ?_
  rw [List.all_eq_false]
  refine ⟨(A.zip B)[k], List.getElem_mem hz, ?_⟩
  rw [List.getElem_zip, hn]
  decide

set_option maxRecDepth 100000 in
set_option maxHeartbeats 2000000 in
theorem rsameF_any (u v : Value) (A B : List Fld) (hA : A.length ≤ 100000000) (hB : B.length ≤ 100000000) (hsA : ∀ f ∈ A, f.1.size ≤ 100000) (hsB : ∀ f ∈ B, f.1.size ≤ 100000) (w : World) (hu : Rd w u A.length 2 (fldV A)) (hv : Rd w v B.length 2 (fldV B)) :
    Calls Tryz.prog 44 #[u, v] w fun e w' => e = .returned (.bool (sameFs A B)) ∧ Below w.heap.size w w' := by
  obtain ⟨ao, cap, rfl⟩ := hu.form
  obtain ⟨bo, caq, rfl⟩ := hv.form
  have HU := hide hu
  have HV := hide hv
  have HSA := hide hsA
  have HSB := hide hsB
  clear hu hv hsA hsB
  by_cases hl : A.length = B.length
  · have HL := Lib.hid hl
    clear hl
    have hlen : (((A.length : Nat) : Int) != ((B.length : Nat) : Int)) = false := by rw [HL.out]; simp
    go_enter Tryz.func44, Tryz.ntmps44
    go_wp2_with fail
    go_loopw [5] (fun i wr => ∃ k : Nat, i = .int .i64 k ∧ k ≤ A.length ∧ ((A.zip B).take k).all samePF = true ∧ Below w.heap.size w wr) (fun i _ => A.length - (intOf i).toNat)
    case atStart => exact ⟨0, rfl, Nat.zero_le _, by simp, Below.refl _ _⟩
    case round =>
      obtain ⟨k, rfl, hk, hall, hbel⟩ := hrel
      have HA := Lib.hid hall
      have HB := hide hbel
      clear hall
      rcases Nat.lt_or_ge k A.length with hlt | hge
      · have hlt2 : k < B.length := by rw [← HL.out]; exact hlt
        obtain ⟨b, off, rfl, hb, d1, d3⟩ := fld_cells ((unhide HU).below hbel) rfl k hlt
        obtain ⟨b2, off2, rfl, hb2, d2, d4⟩ := fld_cells ((unhide HV).below hbel) rfl k hlt2
        have hzA := (unhide HSA) A[k] (List.getElem_mem _)
        have hzB := (unhide HSB) B[k] (List.getElem_mem _)
        have hst := zip_step HL.out hlt hlt2
        have hno := fun h => zip_no (A := A) (B := B) hlt hlt2 h
        obtain ⟨⟨x, x'⟩, hx⟩ : ∃ x, A[k] = x := ⟨_, rfl⟩
        obtain ⟨⟨y, y'⟩, hy⟩ : ∃ y, B[k] = y := ⟨_, rfl⟩
        rw [hx] at d1 d3 hzA hst hno
        rw [hy] at d2 d4 hzB hst hno
        rw [HA.out, Bool.true_and] at hst
        have hp : samePF ((x, x'), (y, y')) = (same x.data.toList y.data.toList && (x'.toList == y'.toList)) := rfl
        rw [hp] at hst hno
        have hc := fun w => rsame_any x y (show x.size ≤ 9223372036854775807 by have h9 : x.size ≤ 100000 := hzA; omega) (show y.size ≤ 9223372036854775807 by have h9 : y.size ≤ 100000 := hzB; omega) w
        obtain ⟨sm, hsm⟩ : ∃ sm, same x.data.toList y.data.toList = sm := ⟨_, rfl⟩
        rw [hsm] at hc hst hno
        have HC := hide hc
        have HST := Lib.hid hst
        have HNO := hide hno
        clear hbel hx hy hsm hc hst hno hp hzA hzB
        cases sm
        · have hF := (unhide HNO) rfl
          have HF := Lib.hid hF
          clear hF
          go_wp2_with fail
          refine Reg.region_more (by kernel_rfl) (by kernel_rfl) ?_
          repeat (go_big_quiet_step ((go_at_call 49; exact Reg.Calls.more (unhide HC _))))
          refine wpQuiet_nil ?_
          intro w9 hb9; obtain ⟨hc9, hf9, hz9⟩ := bcell hb9; (try simp at hz9)
          have HB9 := hide ((unhide HB).trans (hb9.mono (unhide HB).size))
          clear hb9 hc9 hf9
          go_wp2_with fail
          go_ret
          exact ⟨by rw [HF.out] <;> rfl, unhide HB9⟩
        · go_wp2_with fail
          refine Reg.region_more (by kernel_rfl) (by kernel_rfl) ?_
          repeat (go_big_quiet_step ((go_at_call 49; exact Reg.Calls.more (unhide HC _))))
          refine wpQuiet_nil ?_
          intro w9 hb9; obtain ⟨hc9, hf9, hz9⟩ := bcell hb9; (try simp at hz9)
          have HB9 := hide ((unhide HB).trans (hb9.mono (unhide HB).size))
          clear hb9 hc9 hf9
          cases hxy : (x'.toList == y'.toList)
          · have hF := (unhide HNO) (by rw [hxy]; rfl)
            have HF := Lib.hid hF
            clear hF
            go_wp2_with fail
            go_ret
            exact ⟨by rw [HF.out] <;> rfl, unhide HB9⟩
          · have hT := HST.out
            rw [hxy] at hT
            have HT := Lib.hid hT
            clear hT
            go_wp2_with fail
            go_roundw
            case rel => exact ⟨k + 1, by go_num, by omega, HT.out, unhide HB9⟩
            case measure => simp [intOf]; omega
      · have hT : sameFs A B = true := by
          have h1 := HA.out
          have h2 := zip_all HL.out
          rw [List.take_of_length_le (by rw [List.length_zip]; omega)] at h1 h2
          rw [← h2, h1]
        have HT := Lib.hid hT
        clear hT hbel
        go_wp2_with fail
        go_ret
        exact ⟨by rw [HT.out] <;> rfl, unhide HB⟩
  · have hT : sameFs A B = false := by unfold sameFs; rw [decide_eq_false hl]; rfl
    have HT := Lib.hid hT
    clear hT
    have hlen : (((A.length : Nat) : Int) != ((B.length : Nat) : Int)) = true := by rw [bne_iff_ne]; omega
    go_enter Tryz.func44, Tryz.ntmps44
    go_wp2_with fail
    go_ret
    exact ⟨by rw [HT.out] <;> rfl, Below.refl _ _⟩
end Go.Proofs.YtbpopmbabckojaaGreatDoor.Sp

/- Plain: what is set, what is removed. -/
namespace Go.Proofs.YtbpopmbabckojaaGreatDoor.Sp
open Go.RowKit Sl

theorem isN_iff {name : ByteArray} {f : Fld} : isN name f = true ↔ lower f.1.data.toList = lower name.data.toList := by
  unfold isN same; exact beq_iff_eq
/-! ### Set -/
theorem outR_mem {name value : ByteArray} : ∀ {L : List Fld} {there : Bool} {f : Fld}, f ∈ outR name value there L → f ∈ L ∨ isN name f = true
  | [], _, f, h => by simp [outR] at h
  | g :: t, there, f, h => by
    rw [outR, List.mem_append] at h
    rcases h with h | h
    · unfold stepR at h
      split at h
      · rename_i hg
        split at h
        · cases h
        · rw [List.mem_singleton] at h
          subst h
          exact .inr hg
      · rw [List.mem_singleton] at h
        subst h
        exact .inl List.mem_cons_self
    · rcases outR_mem h with h | h
      · exact .inl (List.mem_cons_of_mem _ h)
      · exact .inr h
theorem isN_self (name value : ByteArray) : isN name (name, value) = true := by unfold isN same; simp
theorem setB_mem {L : List Fld} {name value : ByteArray} {f : Fld} (h : f ∈ setB L name value) : f ∈ L ∨ isN name f = true := by
  unfold setB at h
  rw [setR_out, List.mem_append] at h
  rcases h with h | h
  · exact outR_mem h
  · split at h
    · cases h
    · rw [List.mem_singleton] at h
      subst h
      exact .inr (isN_self _ _)
theorem outR_other (name value : ByteArray) (p : Fld → Bool) (hp : ∀ f, isN name f = true → p f = false) : ∀ (L : List Fld) (there : Bool), (outR name value there L).filter p = L.filter p
  | [], _ => rfl
  | g :: t, there => by
    rw [outR, List.filter_append, outR_other name value p hp t]
    unfold stepR
    cases hg : isN name g
    · rw [if_neg (by decide), List.filter_cons, List.filter_cons]
      split <;> rfl
    · rw [if_pos rfl, List.filter_cons_of_neg (by rw [hp g hg]; decide)]
      split
      · rfl
      · rw [List.filter_cons_of_neg (by rw [hp (g.1, value) (by unfold isN at hg ⊢; exact hg)]; decide)]; rfl
theorem set_other (L : List Fld) (name value : ByteArray) (p : Fld → Bool) (hp : ∀ f, isN name f = true → p f = false) : (setB L name value).filter p = L.filter p := by
  unfold setB
  rw [setR_out, List.filter_append, outR_other name value p hp]
  split
  · simp
  · rw [List.filter_cons_of_neg (by rw [hp _ (isN_self _ _)]; decide)]; simp
theorem outR_true (name value : ByteArray) : ∀ L : List Fld, (outR name value true L).filter (isN name) = []
  | [] => rfl
  | g :: t => by
    rw [outR, List.filter_append, Bool.true_or, outR_true name value t, List.append_nil]
    unfold stepR
    cases hg : isN name g
    · rw [if_neg (by decide), List.filter_cons_of_neg (by rw [hg]; decide)]; rfl
    · rw [if_pos rfl, if_pos rfl]; rfl
theorem outR_false (name value : ByteArray) : ∀ L : List Fld, ((outR name value false L).filter (isN name)).map (·.2) = if L.any (isN name) = true then [value] else []
  | [] => rfl
  | g :: t => by
    rw [outR, List.filter_append, Bool.false_or]
    cases hg : isN name g
    · rw [List.map_append, outR_false name value t, List.any_cons, hg, Bool.false_or]
      unfold stepR
      rw [hg, if_neg (by decide), List.filter_cons_of_neg (by rw [hg]; decide)]
      rfl
    · rw [outR_true, List.append_nil, List.any_cons, hg, Bool.true_or, if_pos rfl]
      unfold stepR
      rw [hg, if_pos rfl, if_neg (by decide), List.filter_cons_of_pos (by unfold isN at hg ⊢; exact hg)]
      rfl
theorem allB_set (L : List Fld) (name value : ByteArray) : allB (setB L name value) name = [value] := by
  unfold allB setB
  rw [setR_out, List.filter_append, List.map_append, outR_false, Bool.false_or]
  split
  · simp
  · rw [List.filter_cons_of_pos (isN_self _ _)]; rfl
theorem getB_set (L : List Fld) (name value : ByteArray) : getB (setB L name value) name = value := by
  unfold getB joinB
  rw [allB_set]
  show ofL (Lib.join [value.data.toList] [44, 32]) = value
  rw [Lib.join_one, ofL_of]
theorem isN_apart {n m : ByteArray} (h : lower n.data.toList ≠ lower m.data.toList) (f : Fld) (hf : isN n f = true) : isN m f = false := by
  rw [isN_iff] at hf
  rw [← Bool.not_eq_true, isN_iff, hf]
  exact h
theorem allB_set_other (L : List Fld) (name value m : ByteArray) (h : lower name.data.toList ≠ lower m.data.toList) : allB (setB L name value) m = allB L m := by
  unfold allB
  rw [set_other L name value (isN m) (isN_apart h)]
theorem delF_set (L : List Fld) (name value : ByteArray) : delF (setB L name value) name = delF L name := by
  unfold delF
  exact set_other L name value _ (fun f hf => by rw [hf]; rfl)

/-! ### what goes on -/
theorem del_none {L : List Fld} {name : ByteArray} (h : ∀ f ∈ L, isN name f = false) : delF L name = L := by
  unfold delF
  rw [List.filter_eq_self]
  intro f hf
  rw [h f hf]; rfl
theorem del_not {L : List Fld} {name : ByteArray} {f : Fld} (h : f ∈ delF L name) : isN name f = false := by
  have := (List.mem_filter.1 h).2
  simpa using this

theorem allB_del (L : List Fld) (name : ByteArray) : allB (delF L name) name = [] := by
  unfold allB delF
  rw [List.filter_filter, List.filter_eq_nil_iff.2 (fun f _ => by cases h : isN name f <;> simp)]
  rfl
theorem allB_del_other (L : List Fld) (name m : ByteArray) (h : lower name.data.toList ≠ lower m.data.toList) : allB (delF L name) m = allB L m := by
  unfold allB delF
  rw [List.filter_filter]
  congr 1
  refine List.filter_congr (fun f _ => ?_)
  cases hm : isN m f
  · rfl
  · cases hn : isN name f
    · rfl
    · have := isN_apart h f hn
      rw [this] at hm; cases hm
theorem outR_one (name value : ByteArray) : ∀ L : List Fld, (outR name value true L).length = (delF L name).length
  | [] => rfl
  | g :: t => by
    rw [outR, List.length_append, Bool.true_or, outR_one name value t]
    unfold delF stepR
    cases hg : isN name g
    · rw [if_neg (by decide), List.filter_cons_of_pos (by rw [hg]; rfl)]; simp; omega
    · rw [if_pos rfl, if_pos rfl, List.filter_cons_of_neg (by rw [hg]; decide)]; simp
theorem outR_two (name value : ByteArray) : ∀ L : List Fld, (outR name value false L).length = (delF L name).length + if L.any (isN name) = true then 1 else 0
  | [] => rfl
  | g :: t => by
    rw [outR, List.length_append, Bool.false_or]
    cases hg : isN name g
    · rw [outR_two name value t, List.any_cons, hg, Bool.false_or]
      unfold delF stepR
      rw [hg, if_neg (by decide), List.filter_cons_of_pos (by rw [hg]; rfl)]
      simp; omega
    · rw [outR_one, List.any_cons, hg, Bool.true_or, if_pos rfl]
      unfold delF stepR
      rw [hg, if_pos rfl, if_neg (by decide), List.filter_cons_of_neg (by rw [hg]; decide)]
      simp; omega
theorem set_del_len (L : List Fld) (name value : ByteArray) : (setB L name value).length = (delF L name).length + 1 := by
  unfold setB
  rw [setR_out, List.length_append, outR_two, Bool.false_or]
  split <;> simp
theorem set_none (L : List Fld) (name value : ByteArray) (h : ∀ f ∈ L, isN name f = false) : setB L name value = L ++ [(name, value)] := by
  unfold setB
  induction L with
  | nil => rfl
  | cons f t ih =>
    rw [setR, if_neg (by rw [h f List.mem_cons_self]; decide), ih (fun g hg => h g (List.mem_cons_of_mem _ hg))]
    rfl
theorem outR_small {name value : ByteArray} : ∀ {L : List Fld} {there : Bool} {f : Fld}, f ∈ outR name value there L → f ∈ L ∨ (f.2 = value ∧ ∃ g ∈ L, g.1 = f.1)
  | [], _, f, h => by simp [outR] at h
  | g :: t, there, f, h => by
    rw [outR, List.mem_append] at h
    rcases h with h | h
    · unfold stepR at h
      split at h
      · split at h
        · cases h
        · rw [List.mem_singleton] at h
          subst h
          exact .inr ⟨rfl, g, List.mem_cons_self, rfl⟩
      · rw [List.mem_singleton] at h
        subst h
        exact .inl List.mem_cons_self
    · rcases outR_small h with h | ⟨h, x, hx, e⟩
      · exact .inl (List.mem_cons_of_mem _ h)
      · exact .inr ⟨h, x, List.mem_cons_of_mem _ hx, e⟩
theorem set_len (L : List Fld) (name value : ByteArray) : (setB L name value).length ≤ L.length + 1 := by
  unfold setB
  rw [setR_out, List.length_append]
  have := outR_len name value L false
  split <;> simp <;> omega
theorem set_few {L : List Fld} {name value : ByteArray} (h : L.length ≤ 99 ∧ ∀ f ∈ L, f.1.size ≤ 2000 ∧ f.2.size ≤ 2000) (hn : name.size ≤ 2000) (hv : value.size ≤ 2000) : Few (setB L name value) := by
  refine ⟨by have := set_len L name value; omega, fun f hf => ?_⟩
  unfold setB at hf
  rw [setR_out, List.mem_append] at hf
  rcases hf with hf | hf
  · rcases outR_small hf with hf | ⟨e, g, hg, e2⟩
    · exact h.2 f hf
    · rw [e, ← e2]
      exact ⟨(h.2 g hg).1, hv⟩
  · split at hf
    · cases hf
    · rw [List.mem_singleton] at hf
      subst hf
      exact ⟨hn, hv⟩
theorem del_few {L : List Fld} {name : ByteArray} (h : Few L) : Few (delF L name) := ⟨Nat.le_trans (List.length_filter_le _ _) h.1, fun f hf => h.2 f (List.mem_filter.1 hf).1⟩
theorem sameLS_self (A : List ByteArray) : sameLS A A = true := by simp [sameLS]
theorem sameLF_self (A : List Fld) : sameLF A A = true := by simp [sameLF]
theorem sameFs_self (L : List Fld) : sameFs L L = true := by
  unfold sameFs
  rw [decide_eq_true rfl, Bool.true_and, List.all_eq_true]
  intro p hp
  have : p.1 = p.2 := by
    induction L with
    | nil => simp at hp
    | cons f t ih =>
      simp only [List.zip_cons_cons, List.mem_cons] at hp
      rcases hp with rfl | hp
      · rfl
      · exact ih hp
  obtain ⟨a, b⟩ := p
  obtain rfl : a = b := this
  unfold samePF same
  simp
end Go.Proofs.YtbpopmbabckojaaGreatDoor.Sp

/- field.Same. -/
namespace Go.Proofs.YtbpopmbabckojaaGreatDoor.Sp
open Go.RowKit Sl



end Go.Proofs.YtbpopmbabckojaaGreatDoor.Sp

/- The example that is asked first; what is gone through. -/
namespace Go.Proofs.YtbpopmbabckojaaGreatDoor.Sp
open Go.RowKit Sl

theorem lv_a : lineF ⟨#[65, 58, 32, 32, 98, 32]⟩ = (⟨#[65]⟩, ⟨#[98]⟩) := by decide +kernel
theorem lv_b : lineB ⟨#[65, 58, 32, 32, 98, 32]⟩ = true := by decide +kernel
theorem lv_c : lineB ⟨#[65, 32, 58, 32, 98]⟩ = false := by decide +kernel


def LightO (w : World) (L : List Fld) (e : Ending) (w' : World) : Prop := ∃ r, e = .returned (.bool r) ∧ (r = true → L.length ≤ 30 ∧ ∀ f ∈ L, f.1.size + f.2.size ≤ 600) ∧ Below w.heap.size w w'
theorem lightK (v : Value) (L : List Fld) (hL : L.length ≤ 9223372036854775807) (hf : ∀ f ∈ L, f.1.size ≤ 1000000000000000 ∧ f.2.size ≤ 1000000000000000) (w : World) (hv : Rd w v L.length 2 (fldV L)) :
    Calls Tryz.prog 58 #[v, .int .i64 30, .int .i64 600] w (LightO w L) := lightF_any v L 30 600 hL (by decide) (by decide) hf w hv
theorem light_few {L : List Fld} (h : L.length ≤ 30 ∧ ∀ f ∈ L, f.1.size + f.2.size ≤ 600) : L.length ≤ 30 ∧ ∀ f ∈ L, f.1.size ≤ 600 ∧ f.2.size ≤ 600 := ⟨h.1, fun f hf => by have := h.2 f hf; omega⟩
end Go.Proofs.YtbpopmbabckojaaGreatDoor.Sp

/- field.Bytes. -/
namespace Go.Proofs.YtbpopmbabckojaaGreatDoor.Sp
open Go.RowKit Sl

def line1 (f : Fld) : ByteArray := f.1 ++ ⟨#[58, 32]⟩ ++ f.2 ++ ⟨#[13, 10]⟩
def linesL (L : List Fld) : List UInt8 := L.flatMap fun f => (line1 f).data.toList
theorem line1_data (f : Fld) : (line1 f).data.toList = f.1.data.toList ++ [58, 32] ++ f.2.data.toList ++ [13, 10] := by
  unfold line1
  rw [app_data, app_data, app_data]
theorem line1_size (f : Fld) : (line1 f).size = f.1.size + f.2.size + 4 := by
  rw [size_list (line1_data f)]
  simp; omega
theorem linesL_len (c : Nat) : ∀ L : List Fld, (∀ f ∈ L, f.1.size + f.2.size + 4 ≤ c) → (linesL L).length ≤ L.length * c
  | [], _ => by simp [linesL]
  | f :: t, h => by
    have ih := linesL_len c t (fun g hg => h g (List.mem_cons_of_mem _ hg))
    have h0 := h f List.mem_cons_self
    have h1 := line1_size f
    unfold linesL at ih ⊢
    rw [List.flatMap_cons, List.length_append, List.length_cons, Nat.add_mul]
    have h2 : (line1 f).data.toList.length = (line1 f).size := by simp
    omega
theorem linesL_app (A B : List Fld) : linesL (A ++ B) = linesL A ++ linesL B := by simp [linesL]
theorem linesL_take (L : List Fld) (k : Nat) (h : k < L.length) : linesL (L.take (k + 1)) = linesL (L.take k) ++ (line1 L[k]).data.toList := by
  rw [List.take_succ_eq_append_getElem h, linesL_app]
  show _ ++ List.flatMap _ [L[k]] = _
  rw [List.flatMap_cons, List.flatMap_nil, List.append_nil]

theorem isB_call {T e : TypeId} {B b : Nat} {xs : List Value} {w w' : World} (h : Lib.IsBuilder T e B b xs w) (hb : Below w.heap.size w w') : Lib.IsBuilder T e B b xs w' := by
  have one : ∀ p, Lib.BuilderAt T e B b p xs w → Lib.BuilderAt T e B b p xs w' := by
    rintro p ⟨hB, v, hbk, hown, hne⟩
    have hlt : b < w.heap.size := Lib.BuilderAt.lt ⟨hB, v, hbk, hown, hne⟩
    refine ⟨hB, v, (hb.block b hlt).trans hbk, ?_, hne⟩
    exact hown.kept (row := none) ⟨hb.os, hb.tape, hb.output, hb.size, fun k hk _ => hb.block k hk⟩ (by
      cases hv : v.ownBlock with
      | none => exact .inl rfl
      | some g => exact .inr (by simp))
  rcases h with h | h
  · exact .inl (one _ h)
  · exact .inr (one _ h)

theorem write_any (B b : Nat) (l : List UInt8) (s : ByteArray) (w : World) (h : Lib.IsBuilder 68 5 B b (Lib.byteCells l) w) (hlen : l.length + s.size ≤ 140737488355328) (hBw : B ≤ w.heap.size) :
    Calls Tryz.prog 62 #[.pointer (some ⟨b, 0, none⟩), .string s] w fun e w' => e = .returned (.tuple #[.int .i64 s.size, .nilIface]) ∧ Lib.IsBuilder 68 5 B b (Lib.byteCells (l ++ s.data.toList)) w' ∧ Below B w w' := by
  have hl : (Lib.byteCells l).length = l.length := by simp [Lib.byteCells]
  refine (Any.Builder_WriteString { Tryz.lays156 with } Tryz.Builder_Extra_156 B b (Lib.byteCells l) s w h (by rw [hl]; exact hlen) hBw).mono ?_
  rintro e w' ⟨rfl, h1, h2⟩
  refine ⟨rfl, .inr ?_, h2⟩
  have : Lib.byteCells (l ++ s.data.toList) = Lib.byteCells l ++ Lib.strCells s := by simp [Lib.byteCells, Lib.strCells]
  rw [this]
  exact h1

def BytesO (L : List Fld) (e : Ending) : Prop := e = .returned (.tuple #[.string (if L.all chkS = true then ofL (linesL L) else ⟨#[]⟩), .int .i64 (errI (L.all chkS))])
theorem allC_take (L : List Fld) (k : Nat) (h : k < L.length) : (L.take (k + 1)).all chkS = ((L.take k).all chkS && chkS L[k]) := by
  rw [List.take_succ_eq_append_getElem h, List.all_append]; simp
theorem allC_no (L : List Fld) (k : Nat) (h : k < L.length) (hn : chkS L[k] = false) : L.all chkS = false := by
  cases hh : L.all chkS
  · rfl
  · rw [List.all_eq_true] at hh
    rw [hh _ (List.getElem_mem h)] at hn
    exact hn

set_option maxRecDepth 100000 in
set_option maxHeartbeats 2000000 in
theorem bytes_any (v : Value) (L : List Fld) (hL : L.length ≤ 1000000) (hf : ∀ f ∈ L, f.1.size ≤ 100000 ∧ f.2.size ≤ 100000) (w : World) (hv : Rd w v L.length 2 (fldV L)) :
    Calls Tryz.prog 47 #[v] w fun e w' => BytesO L e ∧ Below w.heap.size w w' := by
  obtain ⟨ao, cap, rfl⟩ := hv.form
  have HV := hide hv
  have HF := hide hf
  clear hv hf
  go_enter Tryz.func47, Tryz.ntmps47
  go_upto_region 2 with fail
  have HI := hide (Lib.fresh_isBuilder 68 5 w)
  have HB := hide ((Below.refl w.heap.size w).alloc (Nat.le_refl _) (.cells #[.pointer none, .slice none 0 0] 68))
  generalize w.alloc (.cells #[.pointer none, .slice none 0 0] 68) = w0 at HI HB ⊢
  go_wp2_with fail
  go_loopw [10] (fun i wr => ∃ k : Nat, i = .int .i64 k ∧ k ≤ L.length ∧ (L.take k).all chkS = true ∧ Lib.IsBuilder 68 5 w.heap.size w.heap.size (Lib.byteCells (linesL (L.take k))) wr ∧ Below w.heap.size w wr) (fun i _ => L.length - (intOf i).toNat)
  case atStart => exact ⟨0, rfl, Nat.zero_le _, by simp, by rw [List.take_zero]; exact unhide HI, unhide HB⟩
  case round =>
    clear HI HB
    obtain ⟨k, rfl, hk, hall, hi, hb⟩ := hrel
    have HA := Lib.hid hall
    have HI := hide hi
    have HB := hide hb
    clear hall hi
    rcases Nat.lt_or_ge k L.length with hlt | hge
    · obtain ⟨b, off, rfl, hbk, d1, d2⟩ := fld_cells ((unhide HV).below hb) rfl k hlt
      have hz := (unhide HF) L[k] (List.getElem_mem _)
      have hnl := linesL_len 200004 (L.take k) (fun f hf => by have := (unhide HF) f (List.mem_of_mem_take hf); omega)
      rw [List.length_take, Nat.min_eq_left hk] at hnl
      have HS := Lib.hid (linesL_take L k hlt)
      have HT := Lib.hid (allC_take L k hlt)
      have hno := allC_no L k hlt
      have h1s := line1_size L[k]
      have hsz := hb.size
      obtain ⟨⟨x, y⟩, hx⟩ : ∃ x, L[k] = x := ⟨_, rfl⟩
      rw [hx] at d1 d2 hz hno h1s HS HT
      obtain ⟨l, hl⟩ : ∃ l, linesL (L.take k) = l := ⟨_, rfl⟩
      rw [hl] at HI HS hnl
      have hzx : x.size ≤ 1000000 := Nat.le_trans hz.1 (by decide)
      have hzy : y.size ≤ 1000000 := Nat.le_trans hz.2 (by decide)
      have hc := fun w => check_any x y hzx hzy w
      have HZ := hide (show l.length + (line1 (x, y)).size ≤ 140737488355328 by simp only at hz h1s; omega)
      clear hx hl hz h1s hnl hb
      obtain ⟨ok, hok⟩ : ∃ ok, chkS (x, y) = ok := ⟨_, rfl⟩
      rw [hok] at hc hno HT
      have HC := hide hc
      have HNO := hide hno
      clear hc hno hok
      unfold errI at HC
      cases ok
      · simp only [Bool.false_eq_true, if_false] at HC
        have HN := Lib.hid ((unhide HNO) rfl)
        go_wp2_with (go_at_call 70; refine (unhide HC _).mono ?_; rintro e w2 ⟨rfl, hb2⟩; have HB2 := hide (((unhide HB).alloc hsz (.cells #[.string x, .string y] 55)).trans (hb2.mono (by simp; omega))); clear hb2)
        go_ret2
        unfold BytesO
        rw [HN.out]
        exact ⟨rfl, unhide HB2⟩
      · simp only [if_true] at HC
        go_wp2_with (first
          | (go_at_call 70; refine (unhide HC _).mono ?_; rintro e w2 ⟨rfl, hb2⟩; have d3 := cell_call hb2 (a := ⟨wr.heap.size, 0, none⟩) (v := .string x) (by simp); have d4 := cell_call hb2 (a := ⟨wr.heap.size, 1, none⟩) (v := .string y) (by simp); have HI2 := hide (isB_call (isB_call (unhide HI) ((Below.refl wr.heap.size wr).alloc (Nat.le_refl _) (.cells #[.string x, .string y] 55))) hb2); have HB2 := hide (((unhide HB).alloc hsz (.cells #[.string x, .string y] 55)).trans (hb2.mono (by simp; omega))); clear hb2)
          | (go_at_call 62; refine (write_any w.heap.size w.heap.size l (line1 (x, y)) _ (unhide HI2) (unhide HZ) (unhide HB2).size).mono ?_; rintro e w3 ⟨rfl, hi3, hb3⟩; have HI3 := hide hi3; have HB3 := hide ((unhide HB2).trans hb3); clear hi3 hb3))
        go_roundw
        case rel => exact ⟨k + 1, by go_num, by omega, by rw [HT.out, HA.out]; rfl, by rw [HS.out]; exact unhide HI3, unhide HB3⟩
        case measure => simp [intOf]; omega
    · have hT : L.take k = L := List.take_of_length_le hge
      rw [hT] at HA HI
      have HN := HA
      have HI2 := HI
      have hsz := hb.size
      clear hT hb
      go_wp2_with (go_at_call 41; refine (Tryz.Builder_String_any w.heap.size w.heap.size (linesL L) _ (unhide HI2) hsz).mono ?_; rintro e w3 ⟨rfl, hb3⟩; have HB3 := hide ((unhide HB).trans hb3); clear hb3)
      go_ret2
      unfold BytesO
      rw [HN.out]
      exact ⟨rfl, unhide HB3⟩
end Go.Proofs.YtbpopmbabckojaaGreatDoor.Sp
