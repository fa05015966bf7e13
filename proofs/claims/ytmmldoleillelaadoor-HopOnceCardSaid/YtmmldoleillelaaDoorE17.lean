/- Plain: via's value is small. -/
import Derived.Test.YtmmldoleillelaaDoorC20
import Derived.Test.YtmmldoleillelaaDoorE16
namespace Go.Proofs.YtmmldoleillelaaDoor.Sp
open Go.RowKit Sl

def sumF (L : List Fld) : Nat := (L.map fun f => f.1.size + f.2.size).sum
theorem sumF_take (L : List Fld) (k : Nat) (h : k < L.length) : sumF (L.take (k + 1)) = sumF (L.take k) + (L[k].1.size + L[k].2.size) := by
  unfold sumF
  rw [List.take_succ_eq_append_getElem h, List.map_append, List.sum_append]; simp
theorem sumF_mem {L : List Fld} {f : Fld} (h : f ∈ L) : f.1.size + f.2.size ≤ sumF L := by
  induction L with
  | nil => cases h
  | cons g t ih =>
    unfold sumF at ih ⊢
    rw [List.map_cons, List.sum_cons]
    rcases List.mem_cons.1 h with rfl | h
    · omega
    · have := ih h; omega
set_option maxRecDepth 100000 in
set_option maxHeartbeats 2000000 in
theorem lightF2_any (v : Value) (L : List Fld) (most bytes : Nat) (hL : L.length ≤ 9223372036854775807) (hb1 : most ≤ 1000) (hb2 : bytes ≤ 1000) (hf : ∀ f ∈ L, f.1.size ≤ 1000000000000000 ∧ f.2.size ≤ 1000000000000000) (w : World) (hv : Rd w v L.length 2 (fldV L)) :
    Calls Tryd.prog 51 #[v, .int .i64 most, .int .i64 bytes] w fun e w' => ∃ r, e = .returned (.bool r) ∧ (r = true → L.length ≤ most ∧ sumF L ≤ bytes) ∧ Below w.heap.size w w' := by
  obtain ⟨ao, cap, rfl⟩ := hv.form
  have HV := hide hv
  have HF := hide hf
  clear hv hf
  rcases Nat.lt_or_ge most L.length with hm | hm
  · go_enter Tryd.func51, Tryd.ntmps51
    go_wp2_with fail
    go_ret
    exact ⟨_, rfl, (by simp), Below.refl _ _⟩
  · go_enter Tryd.func51, Tryd.ntmps51
    go_wp2_with fail
    go_loopw [7, 8] (fun n i wr => ∃ k s : Nat, i = .int .i64 k ∧ n = .int .i64 s ∧ k ≤ L.length ∧ s ≤ bytes ∧ sumF (L.take k) = s ∧ Below w.heap.size w wr) (fun _ i _ => L.length - (intOf i).toNat)
    case atStart => exact ⟨0, 0, rfl, rfl, Nat.zero_le _, Nat.zero_le _, rfl, Below.refl _ _⟩
    case round =>
      obtain ⟨k, s, rfl, rfl, hk, hs, hall, hbel⟩ := hrel
      have HA := hide hall
      have HB := hide hbel
      rcases Nat.lt_or_ge k L.length with hlt | hge
      · obtain ⟨b, off, rfl, hb, c1, c2⟩ := fld_cells (unhide HV) rfl k hlt
        have d1 := (hbel.cell (p := ⟨b, off + k * 2, none⟩) hb).trans c1
        have d2 := (hbel.cell (p := ⟨b, off + k * 2 + 1, none⟩) hb).trans c2
        have z1 := ((unhide HF) L[k] (List.getElem_mem _)).1
        have z2 := ((unhide HF) L[k] (List.getElem_mem _)).2
        have HT := hide (sumF_take L k hlt)
        clear c1 c2 hall hbel
        have hbw : b < wr.heap.size := Nat.lt_of_lt_of_le hb (unhide HB).size
        go_wp2_with fail
        refine Reg.region_more (by kernel_rfl) (by kernel_rfl) ?_
        repeat (go_big_quiet_step (fail))
        refine wpQuiet_nil ?_
        intro w9 hb9; obtain ⟨hc9, hf9, hz9⟩ := bcell hb9; (try simp at hz9)
        have HB9 := hide ((unhide HB).trans (hb9.mono (unhide HB).size))
        clear hb9 hc9 hf9
        rcases Nat.lt_or_ge bytes (s + L[k].1.size + L[k].2.size) with hq | hq
        · go_wp2_with fail
          go_ret
          exact ⟨_, rfl, (by simp), unhide HB9⟩
        · go_wp2_with fail
          go_roundw
          case rel =>
            exact ⟨k + 1, s + L[k].1.size + L[k].2.size, by go_num, by go_num, by omega, by omega, by rw [unhide HT, unhide HA]; omega, unhide HB9⟩
          case measure => simp [intOf]; omega
      · have hT : L.take k = L := List.take_of_length_le hge
        have HT := Lib.hid hT
        clear hT hall hbel
        go_wp2_with fail
        go_ret
        refine ⟨_, rfl, fun _ => ⟨hm, ?_⟩, unhide HB⟩
        have := unhide HA
        rw [HT.out] at this
        omega

def LightOut2 (w : World) (F : List Fld) (most bytes : Nat) (e : Ending) (w' : World) : Prop := ∃ r, e = .returned (.bool r) ∧ (r = true → F.length ≤ most ∧ sumF F ≤ bytes) ∧ Below w.heap.size w w'
theorem lightF20b (v : Value) (L : List Fld) (hL : L.length ≤ 9223372036854775807) (hf : ∀ f ∈ L, f.1.size ≤ 1000000000000000 ∧ f.2.size ≤ 1000000000000000) (w : World) (hv : Rd w v L.length 2 (fldV L)) :
    Calls Tryd.prog 51 #[v, .int .i64 20, .int .i64 600] w (LightOut2 w L 20 600) := lightF2_any v L 20 600 hL (by omega) (by omega) hf w hv
theorem lightF10b (v : Value) (L : List Fld) (hL : L.length ≤ 9223372036854775807) (hf : ∀ f ∈ L, f.1.size ≤ 1000000000000000 ∧ f.2.size ≤ 1000000000000000) (w : World) (hv : Rd w v L.length 2 (fldV L)) :
    Calls Tryd.prog 51 #[v, .int .i64 10, .int .i64 300] w (LightOut2 w L 10 300) := lightF2_any v L 10 300 hL (by omega) (by omega) hf w hv

set_option maxRecDepth 100000 in
set_option maxHeartbeats 1000000 in
theorem lightM2_any (me ta re bo : ByteArray) (st mi : Int) (fs tr : Value) (F T : List Fld) (h1 : me.size ≤ 9223372036854775807) (h2 : ta.size ≤ 9223372036854775807) (h3 : re.size ≤ 9223372036854775807) (h4 : bo.size ≤ 9223372036854775807)
    (hF : F.length ≤ 9223372036854775807) (hT : T.length ≤ 9223372036854775807) (hf : ∀ f ∈ F, f.1.size ≤ 1000000000000000 ∧ f.2.size ≤ 1000000000000000) (ht : ∀ f ∈ T, f.1.size ≤ 1000000000000000 ∧ f.2.size ≤ 1000000000000000) (w : World) (hv : Rd w fs F.length 2 (fldV F)) (hu : Rd w tr T.length 2 (fldV T)) :
    Calls Tryd.prog 32 #[.agg (msgV me ta st re mi fs bo tr)] w (LightOut2 w F 20 600) := by
  obtain ⟨ao, cap, rfl⟩ := hv.form
  obtain ⟨bo', caq, rfl⟩ := hu.form
  have HV := hide hv
  have HU := hide hu
  have hl1 := hide (fun w' (h : Below w.heap.size w w') => lightF20b _ F hF hf w' (hv.below h))
  have hl2 := hide (fun w' (h : Below w.heap.size w w') => lightF10b _ T hT ht w' (hu.below h))
  clear hv hu hf ht
  unfold msgV
  go_enter Tryd.func32, Tryd.ntmps32
  have HB0 := hide ((Below.refl w.heap.size w).alloc (Nat.le_refl _) (.cells #[.string me, .string ta, .int .i64 st, .string re, .int .i64 mi, .slice ao F.length cap, .string bo, .slice bo' T.length caq] 24))
  go_wp2_with (first
    | (go_at_call 51; refine (unhide hl2 _ (unhide HB2)).mono ?_; rintro e w3 ⟨r3, rfl, hr3, hb3⟩; have HB3 := hide ((unhide HB2).trans (hb3.mono (unhide HB2).size)); clear hr3 hb3)
    | (go_at_call 51; refine (unhide hl1 _ (unhide HB0)).mono ?_; rintro e w2 ⟨r, rfl, hr, hb2⟩; have HR := hide hr; have x7 := cell_call hb2 (a := ⟨w.heap.size, 7, none⟩) (v := .slice bo' T.length caq) (by simp); have HB2 := hide ((unhide HB0).trans (hb2.mono (by simp))); clear hr hb2))
  all_goals go_ret
  all_goals first
    | exact ⟨_, rfl, fun _ => unhide HR (by first | rfl | assumption), unhide HB3⟩
    | exact ⟨_, rfl, (by simp), unhide HB3⟩
    | exact ⟨_, rfl, (by simp), unhide HB2⟩
    | exact ⟨_, rfl, (by simp), unhide HB0⟩

set_option maxRecDepth 100000 in
set_option maxHeartbeats 1000000 in
theorem light2_any (me ta re bo : ByteArray) (st mi : Int) (fs tr : Value) (F T : List Fld) (h1 : me.size ≤ 9223372036854775807) (h2 : ta.size ≤ 9223372036854775807) (h3 : re.size ≤ 9223372036854775807) (h4 : bo.size ≤ 9223372036854775807)
    (hF : F.length ≤ 9223372036854775807) (hT : T.length ≤ 9223372036854775807) (hf : ∀ f ∈ F, f.1.size ≤ 1000000000000000 ∧ f.2.size ≤ 1000000000000000) (ht : ∀ f ∈ T, f.1.size ≤ 1000000000000000 ∧ f.2.size ≤ 1000000000000000) (w : World) (hv : Rd w fs F.length 2 (fldV F)) (hu : Rd w tr T.length 2 (fldV T)) :
    Calls Tryd.prog 9 #[.agg (msgV me ta st re mi fs bo tr)] w (LightOut2 w F 20 600) := by
  have hc := hide (fun w' (h : Below w.heap.size w w') => lightM2_any me ta re bo st mi fs tr F T h1 h2 h3 h4 hF hT hf ht w' (hv.below h) (hu.below h))
  have HB0 := hide (fun o => (Below.refl w.heap.size w).alloc (Nat.le_refl _) o)
  clear hv hu hf ht
  unfold msgV at hc ⊢
  go_enter Tryd.func9, Tryd.ntmps9
  go_wp2_with (go_at_call 32; refine (unhide hc _ (unhide HB0 _)).mono ?_; rintro e w2 ⟨r, rfl, hr, hb2⟩; have HR := hide hr; have HB2 := hide hb2; clear hr hb2)
  go_ret
  exact ⟨_, rfl, unhide HR, (unhide HB0 _).trans ((unhide HB2).mono (by simp))⟩


theorem sumF_filter (L : List Fld) (p : Fld → Bool) : sumF (L.filter p) ≤ sumF L := by
  induction L with
  | nil => exact Nat.le_refl _
  | cons f t ih =>
    rw [List.filter_cons]
    unfold sumF at ih ⊢
    split
    · rw [List.map_cons, List.map_cons, List.sum_cons, List.sum_cons]; omega
    · rw [List.map_cons, List.sum_cons]; omega
theorem lens_all (L : List Fld) (name : ByteArray) : lensB (allB L name) ≤ sumF L := by
  unfold allB lensB
  refine Nat.le_trans ?_ (sumF_filter L (isN name))
  generalize L.filter (isN name) = M
  induction M with
  | nil => exact Nat.le_refl _
  | cons f t ih =>
    unfold sumF at ih ⊢
    rw [List.map_cons, List.map_cons, List.map_cons, List.sum_cons, List.sum_cons]
    omega
theorem lens_eq (A : List ByteArray) : Lib.lens (A.map (·.data.toList)) = lensB A := by
  unfold Lib.lens lensB
  rw [List.map_map]
  rfl
theorem join_le : ∀ A : List ByteArray, (joinB A).size ≤ lensB A + 2 * A.length
  | [] => Nat.zero_le _
  | x :: t => by
    have h1 := lens_eq (x :: t)
    unfold joinB
    rw [show (ofL (Lib.join ((x :: t).map (·.data.toList)) [44, 32])).size = (Lib.join ((x :: t).map (·.data.toList)) [44, 32]).length from size_list rfl]
    rw [List.map_cons] at h1 ⊢
    rw [Lib.join_length, h1]
    simp; omega
theorem getB_le (L : List Fld) (name : ByteArray) : (getB L name).size ≤ sumF L + 2 * L.length := by
  have h1 := join_le (allB L name)
  have h2 := lens_all L name
  have h3 := allB_len L name
  unfold getB
  omega
theorem viaV_le (L : List Fld) (d name : ByteArray) : (viaV L d name).size ≤ sumF L + 2 * L.length + d.size + name.size + 5 := by
  have := getB_le L viaN
  have e1 : (⟨#[44, 32]⟩ : ByteArray).size = 2 := rfl
  have e2 : (⟨#[49, 46]⟩ : ByteArray).size = 2 := rfl
  have e3 : (⟨#[32]⟩ : ByteArray).size = 1 := rfl
  unfold viaV
  split <;> (rw [app_size, app_size, app_size, app_size]; (try rw [app_size]); omega)
theorem outR_small {name value : ByteArray} : ∀ {L : List Fld} {there : Bool} {f : Fld}, f ∈ outR name value there L → f ∈ L ∨ (f.2 = value ∧ ∃ g ∈ L, g.1 = f.1)
  | [], _, f, h => by simp [outR] at h
  | g :: t, there, f, h => by
    rw [outR, List.mem_append] at h
    rcases h with h | h
    · unfold stepR at h
      split at h
      · split at h
        · cases h
        · rw [List.mem_singleton] at h
          subst h
          exact .inr ⟨rfl, g, List.mem_cons_self, rfl⟩
      · rw [List.mem_singleton] at h
        subst h
        exact .inl List.mem_cons_self
    · rcases outR_small h with h | ⟨h, x, hx, e⟩
      · exact .inl (List.mem_cons_of_mem _ h)
      · exact .inr ⟨h, x, List.mem_cons_of_mem _ hx, e⟩
theorem set_len (L : List Fld) (name value : ByteArray) : (setB L name value).length ≤ L.length + 1 := by
  unfold setB
  rw [setR_out, List.length_append]
  have := outR_len name value L false
  split <;> simp <;> omega
theorem set_few {L : List Fld} {name value : ByteArray} (h : L.length ≤ 99 ∧ ∀ f ∈ L, f.1.size ≤ 2000 ∧ f.2.size ≤ 2000) (hn : name.size ≤ 2000) (hv : value.size ≤ 2000) : Few (setB L name value) := by
  refine ⟨by have := set_len L name value; omega, fun f hf => ?_⟩
  unfold setB at hf
  rw [setR_out, List.mem_append] at hf
  rcases hf with hf | hf
  · rcases outR_small hf with hf | ⟨e, g, hg, e2⟩
    · exact h.2 f hf
    · rw [e, ← e2]
      exact ⟨(h.2 g hg).1, hv⟩
  · split at hf
    · cases hf
    · rw [List.mem_singleton] at hf
      subst hf
      exact ⟨hn, hv⟩
theorem sumF_app (A B : List Fld) : sumF (A ++ B) = sumF A + sumF B := by unfold sumF; rw [List.map_append, List.sum_append]
theorem pre_sum (me : ByteArray) (F : List Fld) : sumF (preF me F) ≤ sumF F + 4 ∧ (preF me F).length ≤ F.length + 1 := by
  have h1 := sumF_filter (stripF F) (fun f => !isN clB f)
  have h2 : sumF (stripF F) ≤ sumF F := sumF_filter F _
  have h3 := sumF_filter (delF (stripF F) clB) (fun f => !isN exB f)
  have l1 := strip_len F
  have l2 := delF_len (stripF F) clB
  have l3 := delF_len (delF (stripF F) clB) exB
  have e1 : sumF (delF (stripF F) clB) ≤ sumF (stripF F) := h1
  have e3 : sumF (delF (delF (stripF F) clB) exB) ≤ sumF (delF (stripF F) clB) := h3
  unfold preF
  split
  · omega
  · unfold hostF
    split
    · rw [sumF_app]
      have : sumF [(hoB, (⟨#[]⟩ : ByteArray))] = 4 := rfl
      constructor
      · omega
      · simp; omega
    · omega
theorem light_few1 {F : List Fld} (hl : F.length ≤ 20) (hs : sumF F ≤ 600) : Few1 F := ⟨by omega, fun f hf => by have := sumF_mem hf; omega⟩
theorem pre_few1 {F : List Fld} (hl : F.length ≤ 20) (hs : sumF F ≤ 600) (me : ByteArray) : Few1 (preF me F) := by
  obtain ⟨h1, h2⟩ := pre_sum me F
  exact ⟨by omega, fun f hf => by have := sumF_mem hf; omega⟩
/-- what goes on is small too -/
theorem fwd_few {F : List Fld} (hl : F.length ≤ 20) (hs : sumF F ≤ 600) (me : ByteArray) (minor : Int) (h0 : -9223372036854775808 ≤ minor) (h1 : minor ≤ 9223372036854775807) (p : ByteArray) (hp : p.size ≤ 100) :
    Few1 (fwdF me F minor p) ∧ (getB (fwdF me F minor p) viaN).size ≤ 800 := by
  obtain ⟨e1, e2⟩ := pre_sum me F
  have hv := viaV_le (preF me F) (itoaB minor) p
  have hi := itoa_size minor h0 h1
  have hl2 := set_len (preF me F) viaN (viaV (preF me F) (itoaB minor) p)
  have hf := set_few (pre_few1 hl hs me) (show viaN.size ≤ 2000 by decide) (show (viaV (preF me F) (itoaB minor) p).size ≤ 2000 by omega)
  refine ⟨⟨by show (setB _ _ _).length ≤ 99; omega, hf.2⟩, ?_⟩
  unfold fwdF viaF
  rw [getB_set]
  omega
theorem fwd2_few {F : List Fld} (hl : F.length ≤ 20) (hs : sumF F ≤ 600) (me : ByteArray) (minor : Int) (h0 : -9223372036854775808 ≤ minor) (h1 : minor ≤ 9223372036854775807) (p q : ByteArray) (hp : p.size ≤ 100) (hq : q.size ≤ 100) :
    Few (fwdF me (fwdF me F minor p) 1 q) := by
  obtain ⟨hf, hg⟩ := fwd_few hl hs me minor h0 h1 p hp
  have e : fwdF me (fwdF me F minor p) 1 q = setB (fwdF me F minor p) viaN (viaV (fwdF me F minor p) (itoaB 1) q) := by
    unfold fwdF viaF
    rw [show preF me (setB (preF me F) viaN (viaV (preF me F) (itoaB minor) p)) = setB (preF me F) viaN (viaV (preF me F) (itoaB minor) p) from fwd_again me F minor p]
  rw [e]
  refine set_few hf (by decide) ?_
  have e1 : (⟨#[44, 32]⟩ : ByteArray).size = 2 := rfl
  have e2 : (⟨#[49, 46]⟩ : ByteArray).size = 2 := rfl
  have e3 : (⟨#[32]⟩ : ByteArray).size = 1 := rfl
  have e4 := itoa_size 1 (by omega) (by omega)
  unfold viaV
  split <;> (rw [app_size, app_size, app_size, app_size]; (try rw [app_size]); omega)
end Go.Proofs.YtmmldoleillelaaDoor.Sp
