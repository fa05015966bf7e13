/- Lemmas for the statement's proof, several texts in one: Q8, S12, M1, M3. -/
import Derived.Test.YtbpopmbabckojaaGreatDoorZ18
import Derived.Test.YtbpopmbabckojaaGreatDoorZ20
import Derived.Test.YtbpopmbabckojaaGreatDoorZ17
import Derived.Test.YtbpopmbabckojaaGreatDoorZ12
set_option linter.unusedVariables false
set_option linter.unusedSimpArgs false
/- The reference's parser: head. -/
section
namespace Go.Proofs.YtbpopmbabckojaaGreatDoor.Sp
open Go.RowKit Sl

theorem hdG_bad {resp : Bool} {L H C f k : Nat} {l : List UInt8} {bg : Bool} {m : Hd} {n st : Nat} (h : lnS L 431 l = (n, st)) (hs : st ≠ 0) : hdG resp L H C (f + 1) l k bg m = (m, 0, (st : Int)) := by
  simp only [hdG, h]
  rw [if_pos hs]
theorem hdG_zero {resp : Bool} {L H C f k : Nat} {l : List UInt8} {bg : Bool} {m : Hd} (h : lnS L 431 l = (0, 0)) : hdG resp L H C (f + 1) l k bg m = if H < k + l.length then (m, 0, 431) else (m, 0, 0) := by
  simp only [hdG, h]
  simp
theorem hdG_more {resp : Bool} {L H C f k : Nat} {l : List UInt8} {bg : Bool} {m : Hd} {n : Nat} (h : lnS L 431 l = (n, 0)) (hn : n ≠ 0) :
    hdG resp L H C (f + 1) l k bg m =
      if H < k + n then (m, 0, 431)
      else if bg = false then
        (if (lnT L 431 l).toList.isEmpty = true ∧ resp = false ∧ k + n = 2 then hdG resp L H C f (l.drop n) (k + n) false m
         else if (firstS resp (lnT L 431 l)).2 ≠ 0 then ((firstS resp (lnT L 431 l)).1, 0, (firstS resp (lnT L 431 l)).2)
         else hdG resp L H C f (l.drop n) (k + n) true (firstS resp (lnT L 431 l)).1)
      else if (lnT L 431 l).toList.isEmpty = true then (if resp = false ∧ hostM m = false then (m, 0, 400) else (m, k + n, 0))
      else if lineB (lnT L 431 l) = false then (m, 0, 400)
      else if C ≤ m.F.length then (m, 0, 431)
      else hdG resp L H C f (l.drop n) (k + n) true { m with F := m.F ++ [lineF (lnT L 431 l)] } := by
  simp only [hdG, h]
  rw [if_neg (by simp), if_neg hn, Nat.max_zero, if_neg hn]
theorem firstS_nil (resp : Bool) (s : ByteArray) : (firstS resp s).1.F = [] := by
  unfold firstS
  split
  · split <;> rfl
  · rfl
theorem drop_lt {l : List UInt8} {n f : Nat} (h : l.length < f + 1) (hn : 2 ≤ n) (hl : n ≤ l.length) : (l.drop n).length < f := by rw [List.length_drop]; omega
theorem lnG_le (most long : Nat) : ∀ (l : List UInt8) (i : Nat) (p : Bool), (lnG most long i p l).1 ≤ i + l.length ∧ (lnG most long i p l).1 ≤ most
  | [], i, p => by simp only [lnG]; split <;> simp
  | c :: t, i, p => by
    simp only [lnG]
    split
    · simp
    · split
      · simp
      · split
        · simp; omega
        · have := lnG_le most long t (i + 1) (c == 13); simp only [List.length_cons]; omega
theorem lnG_two (most long : Nat) : ∀ (l : List UInt8) (i : Nat) (p : Bool), (i = 0 → p = false) → (lnG most long i p l).1 = 0 ∨ 2 ≤ (lnG most long i p l).1
  | [], i, p, _ => by simp only [lnG]; split <;> simp
  | c :: t, i, p, h => by
    simp only [lnG]
    split
    · simp
    · rename_i h1
      split
      · simp
      · rename_i h2
        split
        · rename_i h3
          right
          cases p with
          | false => rw [h3] at h2; simp at h2
          | true =>
            have : i ≠ 0 := fun e => by cases h e
            simp; omega
        · exact lnG_two most long t (i + 1) (c == 13) (fun e => by omega)
theorem lnS_le (most long : Nat) (l : List UInt8) : (lnS most long l).1 ≤ l.length ∧ (lnS most long l).1 ≤ most := by
  have := lnG_le most long l 0 false
  unfold lnS
  omega
theorem lnS_two (most long : Nat) (l : List UInt8) : (lnS most long l).1 = 0 ∨ 2 ≤ (lnS most long l).1 := lnG_two most long l 0 false (fun _ => rfl)
theorem lnT_size (most long : Nat) (l : List UInt8) : (lnT most long l).size ≤ most := by
  have := (lnS_le most long l).2
  unfold lnT
  rw [show (ofL (l.take ((lnS most long l).1 - 2))).size = (l.take ((lnS most long l).1 - 2)).length by simp [ofL, ByteArray.size], List.length_take]
  omega

end Go.Proofs.YtbpopmbabckojaaGreatDoor.Sp
end

/- The reference's RequestLine, StatusLine. -/
section
namespace Go.Proofs.YtbpopmbabckojaaGreatDoor.Sp
open Go.RowKit Sl

theorem itoa_one {n : Int} (h0 : 0 ≤ n) (h1 : n ≤ 1) : Lib.itoa n = [UInt8.ofNat (48 + n.toNat)] := by
  have : n = 0 ∨ n = 1 := by omega
  rcases this with rfl | rfl <;> decide +kernel
theorem itoa_dig : ((List.range 600).all fun k => decide (k < 100) || (Lib.itoa (k : Int) == [UInt8.ofNat (48 + k / 100), UInt8.ofNat (48 + k / 10 % 10), UInt8.ofNat (48 + k % 10)])) = true := by decide +kernel
theorem itoa_of {k : Nat} (h0 : 100 ≤ k) (h1 : k ≤ 599) : Lib.itoa (k : Int) = [UInt8.ofNat (48 + k / 100), UInt8.ofNat (48 + k / 10 % 10), UInt8.ofNat (48 + k % 10)] := by
  have h := itoa_dig
  rw [List.all_eq_true] at h
  have h2 := h k (List.mem_range.2 (by omega))
  rw [decide_eq_false (by omega), Bool.false_or, beq_iff_eq] at h2
  exact h2
theorem nat_of {d : Nat} (h : d < 10) : ((UInt8.ofNat (48 + d)).toNat : Int) = 48 + (d : Int) := by
  simp [Nat.mod_eq_of_lt (show 48 + d < 256 by omega)]
theorem w8 (n : Int) (h : 0 ≤ n ∧ n < 256) : IntKind.u8.wrap n = n := by rw [IntKind.wrap_u8]; omega

set_option maxRecDepth 100000 in
set_option maxHeartbeats 2000000 in
theorem rreqLine_any (m t : ByteArray) (n : Int) (hm : m.size ≤ 1000000) (ht : t.size ≤ 1000000) (w : World) :
    Calls Tryz.prog 76 #[.string m, .string t, .int .i64 n] w fun e w' => e = .returned (.tuple #[.string (ofL (rlS m.data.toList t.data.toList n).1), .int .i64 (rlS m.data.toList t.data.toList n).2]) ∧ Below w.heap.size w w' := by
  have c1 := hide (fun w => rtoken_any m (by omega) w)
  have c2 := hide (fun w => rseen_any t (by omega) w)
  by_cases h1 : tokenS m.data.toList = true
  rotate_left
  · have hr := hide (show rlS m.data.toList t.data.toList n = ([], 4) by unfold rlS; rw [if_neg]; exact fun h => h1 h.1)
    rw [Bool.not_eq_true] at h1
    rw [h1] at c1
    clear h1 c2
    go_enter Tryz.func76, Tryz.ntmps76
    go_wp2_with fail
    refine (unhide c1 _).mono ?_; rintro e w1 ⟨rfl, rfl⟩
    go_wp2_with fail
    go_ret2
    exact ⟨by rw [unhide hr] <;> rfl, Below.refl _ _⟩
  rw [h1] at c1
  by_cases h2 : seenS t.data.toList = true
  rotate_left
  · have hr := hide (show rlS m.data.toList t.data.toList n = ([], 4) by unfold rlS; rw [if_neg]; exact fun h => h2 h.2.1)
    rw [Bool.not_eq_true] at h2
    rw [h2] at c2
    clear h1 h2
    go_enter Tryz.func76, Tryz.ntmps76
    go_wp2_with fail
    refine (unhide c1 _).mono ?_; rintro e w1 ⟨rfl, rfl⟩
    go_wp2_with fail
    refine (unhide c2 _).mono ?_; rintro e w2 ⟨rfl, rfl⟩
    go_wp2_with fail
    go_ret2
    exact ⟨by rw [unhide hr] <;> rfl, Below.refl _ _⟩
  rw [h2] at c2
  by_cases h3 : 0 ≤ n ∧ n ≤ 1
  rotate_left
  · have hr := hide (show rlS m.data.toList t.data.toList n = ([], 4) by unfold rlS; rw [if_neg]; exact fun h => h3 h.2.2)
    have hb : decide (n < 0) = true ∨ (decide (n < 0) = false ∧ decide (1 < n) = true) := by
      by_cases h : n < 0
      · exact .inl (decide_eq_true h)
      · exact .inr ⟨decide_eq_false h, decide_eq_true (by omega)⟩
    clear h1 h2 h3
    rcases hb with h | ⟨h, h'⟩
    all_goals
      go_enter Tryz.func76, Tryz.ntmps76
      go_wp2_with fail
      refine (unhide c1 _).mono ?_; rintro e w1 ⟨rfl, rfl⟩
      go_wp2_with fail
      refine (unhide c2 _).mono ?_; rintro e w2 ⟨rfl, rfl⟩
      go_wp2_with fail
      go_ret2
      exact ⟨by rw [unhide hr] <;> rfl, Below.refl _ _⟩
  obtain ⟨h3, h4⟩ := h3
  obtain ⟨k, rfl⟩ : ∃ k : Nat, n = (k : Int) := ⟨n.toNat, by omega⟩
  have hk : k ≤ 1 := by omega
  have hi := itoa_one h3 h4
  rw [show (k : Int).toNat = k by omega] at hi
  have hc : ((UInt8.ofNat (48 + k)).toNat : Int) = 48 + (k : Int) := nat_of (by omega)
  obtain ⟨c, hcc⟩ : ∃ c, UInt8.ofNat (48 + k) = c := ⟨_, rfl⟩
  rw [hcc] at hi hc
  have hr := hide (show rlS m.data.toList t.data.toList k = (rlT m.data.toList t.data.toList k, 0) by unfold rlS; rw [if_pos ⟨h1, h2, h3, h4⟩])
  have k1 : decide ((k : Int) < 0) = false := decide_eq_false (by omega)
  have k2 : decide (1 < (k : Int)) = false := decide_eq_false (by omega)
  have hw := w8 (48 + (k : Int)) (by omega)
  have hres : (((((m ++ ⟨#[32]⟩) ++ t) ++ ⟨#[32, 72, 84, 84, 80, 47, 49, 46]⟩) ++ ⟨#[c]⟩ : ByteArray)) = ofL (rlT m.data.toList t.data.toList k) := by
    refine ba_eq ?_
    rw [app_data, app_data, app_data, app_data]
    unfold rlT httpV
    rw [hi]
    simp
  have HRES := Lib.hid hres
  have hbv : ([.int .u8 (48 + (k : Int))] : List Value) = Mem.bytesV [c] := by
    show _ = [Value.int .u8 (c.toNat : Int)]
    rw [hc]
  have HV := Lib.hid hbv
  have hn1 : Reg.Has (w.alloc (.cells #[.int .u8 (48 + (k : Int))] 5)) w.heap.size (Mem.bytesV [c]) := by
    have h := Reg.Has.new w [.int .u8 (48 + (k : Int))] 5
    rw [← HV.out]
    exact h
  have HN2 := hide hn1
  have z1 : (⟨#[32]⟩ : ByteArray).size = 1 := rfl
  have z2 : (⟨#[32, 72, 84, 84, 80, 47, 49, 46]⟩ : ByteArray).size = 8 := rfl
  have z3 : (⟨#[c]⟩ : ByteArray).size = 1 := rfl
  clear h1 h2 h3 h4 hi hc hcc hres hn1 hbv
  go_enter Tryz.func76, Tryz.ntmps76
  go_wp2_with fail
  refine (unhide c1 _).mono ?_; rintro e w1 ⟨rfl, rfl⟩
  go_wp2_with fail
  refine (unhide c2 _).mono ?_; rintro e w2 ⟨rfl, rfl⟩
  go_wp2_with (refine Mem.wpList_text rfl 66 9 5 _ rfl w.heap.size 1 1 [c] rfl Tryz.underlying66 Tryz.underlying9 Tryz.underlying5 rfl (unhide HN2) ?_)
  go_ret2
  exact ⟨by rw [unhide hr, ← HRES.out] <;> rfl, (Below.refl _ _).alloc (Nat.le_refl _) _⟩

set_option maxRecDepth 100000 in
set_option maxHeartbeats 2000000 in
theorem rstatLine_any (n st : Int) (r : ByteArray) (hr0 : r.size ≤ 1000000) (w : World) :
    Calls Tryz.prog 77 #[.int .i64 n, .int .i64 st, .string r] w fun e w' => e = .returned (.tuple #[.string (ofL (slS n st r.data.toList).1), .int .i64 (slS n st r.data.toList).2]) ∧ Below w.heap.size w w' := by
  have c1 := hide (fun w => chars_any r (by omega) w)
  by_cases h3 : 0 ≤ n ∧ n ≤ 1 ∧ 100 ≤ st ∧ st ≤ 599
  rotate_left
  · have hr := hide (show slS n st r.data.toList = ([], 4) by unfold slS; rw [if_neg]; exact fun h => h3 ⟨h.1, h.2.1, h.2.2.1, h.2.2.2.1⟩)
    have hb : decide (n < 0) = true ∨ (decide (n < 0) = false ∧ decide (1 < n) = true) ∨ (decide (n < 0) = false ∧ decide (1 < n) = false ∧ decide (st < 100) = true) ∨ (decide (n < 0) = false ∧ decide (1 < n) = false ∧ decide (st < 100) = false ∧ decide (599 < st) = true) := by
      by_cases k1 : n < 0
      · exact .inl (decide_eq_true k1)
      · by_cases k2 : 1 < n
        · exact .inr (.inl ⟨decide_eq_false k1, decide_eq_true k2⟩)
        · by_cases k3 : st < 100
          · exact .inr (.inr (.inl ⟨decide_eq_false k1, decide_eq_false k2, decide_eq_true k3⟩))
          · exact .inr (.inr (.inr ⟨decide_eq_false k1, decide_eq_false k2, decide_eq_false k3, decide_eq_true (by omega)⟩))
    clear h3
    rcases hb with g1 | ⟨g1, g2⟩ | ⟨g1, g2, g3⟩ | ⟨g1, g2, g3, g4⟩
    all_goals
      go_enter Tryz.func77, Tryz.ntmps77
      go_wp2_with fail
      go_ret2
      exact ⟨by rw [unhide hr] <;> rfl, Below.refl _ _⟩
  obtain ⟨h3, h4, h5, h6⟩ := h3
  have k1 : decide (n < 0) = false := decide_eq_false (by omega)
  have k2 : decide (1 < n) = false := decide_eq_false (by omega)
  have k3 : decide (st < 100) = false := decide_eq_false (by omega)
  have k4 : decide (599 < st) = false := decide_eq_false (by omega)
  by_cases h1 : allS chr r.data.toList = true
  rotate_left
  · have hr := hide (show slS n st r.data.toList = ([], 4) by unfold slS; rw [if_neg]; exact fun h => h1 h.2.2.2.2)
    rw [Bool.not_eq_true] at h1
    rw [h1] at c1
    clear h1 h3 h4 h5 h6
    go_enter Tryz.func77, Tryz.ntmps77
    go_wp2_with fail
    refine (unhide c1 _).mono ?_; rintro e w1 ⟨rfl, rfl⟩
    go_wp2_with fail
    go_ret2
    exact ⟨by rw [unhide hr] <;> rfl, Below.refl _ _⟩
  rw [h1] at c1
  obtain ⟨k, rfl⟩ : ∃ k : Nat, n = (k : Int) := ⟨n.toNat, by omega⟩
  obtain ⟨u, rfl⟩ : ∃ u : Nat, st = (u : Int) := ⟨st.toNat, by omega⟩
  have hk : k ≤ 1 := by omega
  have hu0 : 100 ≤ u := by omega
  have hu1 : u ≤ 599 := by omega
  have hi := itoa_one h3 h4
  rw [show (k : Int).toNat = k by omega] at hi
  have hj := itoa_of hu0 hu1
  have hc : ((UInt8.ofNat (48 + k)).toNat : Int) = 48 + (k : Int) := nat_of (by omega)
  obtain ⟨a, ha⟩ : ∃ a, u / 100 = a := ⟨_, rfl⟩
  obtain ⟨b, hb⟩ : ∃ b, u / 10 = b := ⟨_, rfl⟩
  obtain ⟨d, hd⟩ : ∃ d, u / 10 % 10 = d := ⟨_, rfl⟩
  obtain ⟨f, hf⟩ : ∃ f, u % 10 = f := ⟨_, rfl⟩
  have t1 : Int.tdiv (u : Int) 100 = (a : Int) := by rw [Int.tdiv_eq_ediv_of_nonneg (by omega)]; omega
  have t2 : Int.tdiv (u : Int) 10 = (b : Int) := by rw [Int.tdiv_eq_ediv_of_nonneg (by omega)]; omega
  have t3 : Int.tmod (b : Int) 10 = (d : Int) := by rw [Int.tmod_eq_emod_of_nonneg (by omega)]; omega
  have t4 : Int.tmod (u : Int) 10 = (f : Int) := by rw [Int.tmod_eq_emod_of_nonneg (by omega)]; omega
  have ba : a < 10 := by omega
  have bd : d < 10 := by omega
  have bf : f < 10 := by omega
  have bb : b < 100 := by omega
  rw [ha, hd, hf] at hj
  have hna : ((UInt8.ofNat (48 + a)).toNat : Int) = 48 + (a : Int) := nat_of ba
  have hnd : ((UInt8.ofNat (48 + d)).toNat : Int) = 48 + (d : Int) := nat_of bd
  have hnf : ((UInt8.ofNat (48 + f)).toNat : Int) = 48 + (f : Int) := nat_of bf
  have wa := w8 (48 + (a : Int)) (by omega)
  have wd := w8 (48 + (d : Int)) (by omega)
  have wf := w8 (48 + (f : Int)) (by omega)
  have wk := w8 (48 + (k : Int)) (by omega)
  obtain ⟨c, hcc⟩ : ∃ c, UInt8.ofNat (48 + k) = c := ⟨_, rfl⟩
  obtain ⟨ca, hca⟩ : ∃ c, UInt8.ofNat (48 + a) = c := ⟨_, rfl⟩
  obtain ⟨cd, hcd⟩ : ∃ c, UInt8.ofNat (48 + d) = c := ⟨_, rfl⟩
  obtain ⟨cf, hcf⟩ : ∃ c, UInt8.ofNat (48 + f) = c := ⟨_, rfl⟩
  rw [hcc] at hi hc
  rw [hca, hcd, hcf] at hj
  rw [hca] at hna
  rw [hcd] at hnd
  rw [hcf] at hnf
  have hr := hide (show slS k u r.data.toList = (slT k u r.data.toList, 0) by unfold slS; rw [if_pos ⟨h3, h4, h5, h6, h1⟩])
  have hres : (((((⟨#[72, 84, 84, 80, 47, 49, 46]⟩ : ByteArray) ++ ⟨#[c]⟩) ++ ⟨#[32]⟩) ++ ⟨#[ca, cd, cf]⟩) ++ ⟨#[32]⟩) ++ r = ofL (slT k u r.data.toList) := by
    refine ba_eq ?_
    rw [app_data, app_data, app_data, app_data, app_data]
    unfold slT httpV
    rw [hi, hj]
    rfl
  have HRES := Lib.hid hres
  have hbv : ([.int .u8 (48 + (k : Int))] : List Value) = Mem.bytesV [c] := by
    show _ = [Value.int .u8 (c.toNat : Int)]
    rw [hc]
  have hbw : ([.int .u8 (48 + (a : Int)), .int .u8 (48 + (d : Int)), .int .u8 (48 + (f : Int))] : List Value) = Mem.bytesV [ca, cd, cf] := by
    show _ = [Value.int .u8 (ca.toNat : Int), Value.int .u8 (cd.toNat : Int), Value.int .u8 (cf.toNat : Int)]
    rw [hna, hnd, hnf]
  have HV := Lib.hid hbv
  have HW := Lib.hid hbw
  have z1 : (⟨#[32]⟩ : ByteArray).size = 1 := rfl
  have z2 : (⟨#[72, 84, 84, 80, 47, 49, 46]⟩ : ByteArray).size = 7 := rfl
  have z3 : (⟨#[c]⟩ : ByteArray).size = 1 := rfl
  have z4 : (⟨#[ca, cd, cf]⟩ : ByteArray).size = 3 := rfl
  have hn1 : ∀ w : World, Reg.Has (w.alloc (.cells #[.int .u8 (48 + (k : Int))] 5)) w.heap.size (Mem.bytesV [c]) := fun w => by
    have h := Reg.Has.new w [.int .u8 (48 + (k : Int))] 5
    rw [← HV.out]
    exact h
  have hn3 : ∀ w : World, Reg.Has (w.alloc (.cells #[.int .u8 (48 + (a : Int)), .int .u8 (48 + (d : Int)), .int .u8 (48 + (f : Int))] 5)) w.heap.size (Mem.bytesV [ca, cd, cf]) := fun w => by
    have h := Reg.Has.new w [.int .u8 (48 + (a : Int)), .int .u8 (48 + (d : Int)), .int .u8 (48 + (f : Int))] 5
    rw [← HW.out]
    exact h
  have H1 := hide hn1
  have H3 := hide hn3
  have H3' : Reg.Has ((w.alloc (.cells #[.int .u8 (48 + (k : Int))] 5)).alloc (.cells #[.int .u8 (48 + (a : Int)), .int .u8 (48 + (d : Int)), .int .u8 (48 + (f : Int))] 5)) (w.heap.size + 1) (Mem.bytesV [ca, cd, cf]) := by
    have h := hn3 (w.alloc (.cells #[.int .u8 (48 + (k : Int))] 5))
    rw [World.size_alloc] at h
    exact h
  have hr3 : (convert 66 9 (.slice (some ⟨w.heap.size + 1, 0, none⟩) 3 3)).run Tryz.prog ((w.alloc (.cells #[.int .u8 (48 + (k : Int))] 5)).alloc (.cells #[.int .u8 (48 + (a : Int)), .int .u8 (48 + (d : Int)), .int .u8 (48 + (f : Int))] 5)) = .ok (.string ⟨#[ca, cd, cf]⟩) _ :=
    Mem.run_text 66 5 9 Tryz.underlying66 Tryz.underlying5 Tryz.underlying9 (w.heap.size + 1) 0 3 [ca, cd, cf] (fun i v hv => by rw [Nat.zero_add]; exact H3'.cell i v hv)
  clear h1 h3 h4 h5 h6 hi hj hc hcc hca hcd hcf hna hnd hnf ha hb hd hf hres hbv hbw hn1 hn3 H3'
  go_enter Tryz.func77, Tryz.ntmps77
  go_wp2_with fail
  refine (unhide c1 _).mono ?_; rintro e w1 ⟨rfl, rfl⟩
  go_wp2_with (refine Mem.wpList_text rfl 66 9 5 _ rfl w.heap.size 1 1 [c] rfl Tryz.underlying66 Tryz.underlying9 Tryz.underlying5 rfl (unhide H1 w) ?_)
  go_ret2
  exact ⟨by rw [unhide hr, ← HRES.out] <;> rfl, ((Below.refl _ _).alloc (Nat.le_refl _) _).alloc (by simp) _⟩
end Go.Proofs.YtbpopmbabckojaaGreatDoor.Sp
end

/- A message's first line, both sides. -/
section
namespace Go.Proofs.YtbpopmbabckojaaGreatDoor.Sp
open Go.RowKit Sl

def lineS (me ta re : ByteArray) (st mi : Int) : List UInt8 × Int :=
  if me.toList.isEmpty = true then (if ta.toList.isEmpty = true then slS mi st re.data.toList else ([], 4)) else (if st = 0 ∧ re.toList.isEmpty = true then rlS me.data.toList ta.data.toList mi else ([], 4))
def LineOut (w : World) (me ta re : ByteArray) (st mi : Int) (e : Ending) (w' : World) : Prop :=
  e = .returned (.tuple #[.string (ofL (lineS me ta re st mi).1), .int .i64 (lineS me ta re st mi).2]) ∧ Below w.heap.size w w'
theorem line_bad {w w' : World} {me ta re : ByteArray} {st mi : Int} (h : lineS me ta re st mi = ([], 4)) (hb : Below w.heap.size w w') : LineOut w me ta re st mi (.returned (.tuple #[.string ⟨#[]⟩, .int .i64 4])) w' := by
  unfold LineOut; rw [h]; exact ⟨rfl, hb⟩
theorem line_at {w w' : World} {me ta re : ByteArray} {st mi : Int} {X : List UInt8 × Int} {x : ByteArray} {n : Int} (h : lineS me ta re st mi = X) (hx : ofL X.1 = x) (hn : X.2 = n) (hb : Below w.heap.size w w') : LineOut w me ta re st mi (.returned (.tuple #[.string x, .int .i64 n])) w' := by
  unfold LineOut; rw [h, hx, hn]; exact ⟨rfl, hb⟩

set_option maxRecDepth 100000 in
set_option maxHeartbeats 4000000 in
theorem eline_any (me ta re bo : ByteArray) (st mi : Int) (ao bo' : Option Addr) (n1 c1 n2 c2 : Nat) (h1 : me.size ≤ 1000000) (h2 : ta.size ≤ 1000000) (h3 : re.size ≤ 1000000) (w : World) (hT : Pow10 w) :
    Calls Tryz.prog 46 #[.agg (msgV me ta st re mi (.slice ao n1 c1) bo (.slice bo' n2 c2))] w (LineOut w me ta re st mi) := by
  have q1 := hide (fun w hT => reqLine_any me ta mi h1 h2 w hT)
  have q2 := hide (fun w hT => statLine_any mi st re h3 w hT)
  have HT := hide hT
  clear hT
  unfold msgV
  have HB := hide ((Below.refl w.heap.size w).alloc (Nat.le_refl _) (.cells #[.string me, .string ta, .int .i64 st, .string re, .int .i64 mi, .slice ao n1 c1, .string bo, .slice bo' n2 c2] 24))
  cases e1 : me.toList.isEmpty
  · by_cases e2 : st = 0 ∧ re.toList.isEmpty = true
    · obtain ⟨rfl, e3⟩ := e2
      have hs := Lib.hid (show lineS me ta re 0 mi = rlS me.data.toList ta.data.toList mi by unfold lineS; rw [e1, if_neg (by decide), if_pos ⟨rfl, e3⟩])
      generalize (rlS me.data.toList ta.data.toList mi) = X at q1 hs
      obtain ⟨x, hx⟩ : ∃ x, ofL X.1 = x := ⟨_, rfl⟩
      obtain ⟨n, hn⟩ : ∃ n, X.2 = n := ⟨_, rfl⟩
      rw [hx, hn] at q1
      have HX := Lib.hid hx
      have HN := Lib.hid hn
      clear hx hn
      go_enter Tryz.func46, Tryz.ntmps46
      go_wp2_with fail
      refine (unhide q1 _ ((unhide HT).below (unhide HB))).mono ?_; rintro e w1 ⟨rfl, hb1⟩
      have HB1 := hide ((unhide HB).trans (hb1.mono (unhide HB).size))
      clear hb1
      go_wp2_with fail
      go_ret2
      exact line_at hs.out HX.out HN.out (unhide HB1)
    · have hs := Lib.hid (show lineS me ta re st mi = ([], 4) by unfold lineS; rw [e1, if_neg (by decide), if_neg e2])
      by_cases e3 : st = 0
      · subst e3
        have e4 : re.toList.isEmpty = false := by
          cases hx : re.toList.isEmpty
          · rfl
          · exact absurd ⟨rfl, hx⟩ e2
        clear e2
        go_enter Tryz.func46, Tryz.ntmps46
        go_wp2_with fail
        go_ret2
        exact line_bad hs.out (unhide HB)
      · have e4 : (st != 0) = true := by rw [bne_iff_ne]; exact e3
        clear e2 e3
        go_enter Tryz.func46, Tryz.ntmps46
        go_wp2_with fail
        go_ret2
        exact line_bad hs.out (unhide HB)
  · cases e2 : ta.toList.isEmpty
    · have hs := Lib.hid (show lineS me ta re st mi = ([], 4) by unfold lineS; rw [e1, if_pos rfl, e2, if_neg (by decide)])
      go_enter Tryz.func46, Tryz.ntmps46
      go_wp2_with fail
      go_ret2
      exact line_bad hs.out (unhide HB)
    · have hs := Lib.hid (show lineS me ta re st mi = slS mi st re.data.toList by unfold lineS; rw [e1, if_pos rfl, e2, if_pos rfl])
      generalize (slS mi st re.data.toList) = X at q2 hs
      obtain ⟨x, hx⟩ : ∃ x, ofL X.1 = x := ⟨_, rfl⟩
      obtain ⟨n, hn⟩ : ∃ n, X.2 = n := ⟨_, rfl⟩
      rw [hx, hn] at q2
      have HX := Lib.hid hx
      have HN := Lib.hid hn
      clear hx hn
      go_enter Tryz.func46, Tryz.ntmps46
      go_wp2_with fail
      refine (unhide q2 _ ((unhide HT).below (unhide HB))).mono ?_; rintro e w1 ⟨rfl, hb1⟩
      have HB1 := hide ((unhide HB).trans (hb1.mono (unhide HB).size))
      clear hb1
      go_wp2_with fail
      go_ret2
      exact line_at hs.out HX.out HN.out (unhide HB1)
set_option maxRecDepth 100000 in
set_option maxHeartbeats 4000000 in
theorem r8line_any (me ta re bo : ByteArray) (st mi : Int) (ao bo' : Option Addr) (n1 c1 n2 c2 : Nat) (h1 : me.size ≤ 1000000) (h2 : ta.size ≤ 1000000) (h3 : re.size ≤ 1000000) (w : World) :
    Calls Tryz.prog 56 #[.agg (msgV me ta st re mi (.slice ao n1 c1) bo (.slice bo' n2 c2))] w (LineOut w me ta re st mi) := by
  have q1 := hide (fun w => rreqLine_any me ta mi h1 h2 w)
  have q2 := hide (fun w => rstatLine_any mi st re h3 w)
  unfold msgV
  have HB := hide ((Below.refl w.heap.size w).alloc (Nat.le_refl _) (.cells #[.string me, .string ta, .int .i64 st, .string re, .int .i64 mi, .slice ao n1 c1, .string bo, .slice bo' n2 c2] 24))
  cases e1 : me.toList.isEmpty
  · by_cases e2 : st = 0 ∧ re.toList.isEmpty = true
    · obtain ⟨rfl, e3⟩ := e2
      have hs := Lib.hid (show lineS me ta re 0 mi = rlS me.data.toList ta.data.toList mi by unfold lineS; rw [e1, if_neg (by decide), if_pos ⟨rfl, e3⟩])
      generalize (rlS me.data.toList ta.data.toList mi) = X at q1 hs
      obtain ⟨x, hx⟩ : ∃ x, ofL X.1 = x := ⟨_, rfl⟩
      obtain ⟨n, hn⟩ : ∃ n, X.2 = n := ⟨_, rfl⟩
      rw [hx, hn] at q1
      have HX := Lib.hid hx
      have HN := Lib.hid hn
      clear hx hn
      go_enter Tryz.func56, Tryz.ntmps56
      go_wp2_with fail
      refine (unhide q1 _).mono ?_; rintro e w1 ⟨rfl, hb1⟩
      have HB1 := hide ((unhide HB).trans (hb1.mono (unhide HB).size))
      clear hb1
      go_wp2_with fail
      go_ret2
      exact line_at hs.out HX.out HN.out (unhide HB1)
    · have hs := Lib.hid (show lineS me ta re st mi = ([], 4) by unfold lineS; rw [e1, if_neg (by decide), if_neg e2])
      by_cases e3 : st = 0
      · subst e3
        have e4 : re.toList.isEmpty = false := by
          cases hx : re.toList.isEmpty
          · rfl
          · exact absurd ⟨rfl, hx⟩ e2
        clear e2
        go_enter Tryz.func56, Tryz.ntmps56
        go_wp2_with fail
        go_ret2
        exact line_bad hs.out (unhide HB)
      · have e4 : (st != 0) = true := by rw [bne_iff_ne]; exact e3
        clear e2 e3
        go_enter Tryz.func56, Tryz.ntmps56
        go_wp2_with fail
        go_ret2
        exact line_bad hs.out (unhide HB)
  · cases e2 : ta.toList.isEmpty
    · have hs := Lib.hid (show lineS me ta re st mi = ([], 4) by unfold lineS; rw [e1, if_pos rfl, e2, if_neg (by decide)])
      go_enter Tryz.func56, Tryz.ntmps56
      go_wp2_with fail
      go_ret2
      exact line_bad hs.out (unhide HB)
    · have hs := Lib.hid (show lineS me ta re st mi = slS mi st re.data.toList by unfold lineS; rw [e1, if_pos rfl, e2, if_pos rfl])
      generalize (slS mi st re.data.toList) = X at q2 hs
      obtain ⟨x, hx⟩ : ∃ x, ofL X.1 = x := ⟨_, rfl⟩
      obtain ⟨n, hn⟩ : ∃ n, X.2 = n := ⟨_, rfl⟩
      rw [hx, hn] at q2
      have HX := Lib.hid hx
      have HN := Lib.hid hn
      clear hx hn
      go_enter Tryz.func56, Tryz.ntmps56
      go_wp2_with fail
      refine (unhide q2 _).mono ?_; rintro e w1 ⟨rfl, hb1⟩
      have HB1 := hide ((unhide HB).trans (hb1.mono (unhide HB).size))
      clear hb1
      go_wp2_with fail
      go_ret2
      exact line_at hs.out HX.out HN.out (unhide HB1)
end Go.Proofs.YtbpopmbabckojaaGreatDoor.Sp
end

/- The reference's put. -/
section
namespace Go.Proofs.YtbpopmbabckojaaGreatDoor.Sp
open Go.RowKit Sl

def crlfB : ByteArray := ⟨#[13, 10]⟩
/-- a message's bytes: the first line, the fields, a line more (none: empty), the content -/
def putS (x y more bo : ByteArray) : ByteArray := x ++ crlfB ++ y ++ (if more.toList.isEmpty = true then more else more ++ crlfB) ++ crlfB ++ bo

set_option maxRecDepth 100000 in
set_option maxHeartbeats 4000000 in
theorem rput_any (me ta re bo more body x y : ByteArray) (st mi n1 n2 : Int) (ao bo' : Option Addr) (k1 c1 k2 c2 : Nat) (w : World)
    (hx : ∀ w, Calls Tryz.prog 56 #[.agg (msgV me ta st re mi (.slice ao k1 c1) bo (.slice bo' k2 c2))] w fun e w' => e = .returned (.tuple #[.string x, .int .i64 n1]) ∧ Below w.heap.size w w')
    (hy : ∀ w1, Below w.heap.size w w1 → Calls Tryz.prog 57 #[.slice ao k1 c1] w1 fun e w' => e = .returned (.tuple #[.string y, .int .i64 n2]) ∧ Below w1.heap.size w1 w')
    (zx : x.size ≤ 100000000) (zy : y.size ≤ 100000000) (zm : more.size ≤ 1000000) (zb : body.size ≤ 1000000) :
    Calls Tryz.prog 53 #[.agg (msgV me ta st re mi (.slice ao k1 c1) bo (.slice bo' k2 c2)), .string more, .string body] w fun e w' => e = .returned (.string (putS x y more body)) ∧ Below w.heap.size w w' := by
  have HX := hide hx
  have HY := hide hy
  clear hx hy
  unfold msgV at HX ⊢
  have HB := hide ((Below.refl w.heap.size w).alloc (Nat.le_refl _) (.cells #[.string me, .string ta, .int .i64 st, .string re, .int .i64 mi, .slice ao k1 c1, .string bo, .slice bo' k2 c2] 24))
  have H := hide (Reg.Has.at w w.heap.size [.string me, .string ta, .int .i64 st, .string re, .int .i64 mi, .slice ao k1 c1, .string bo, .slice bo' k2 c2] 24 rfl)
  cases em : more.toList.isEmpty
  all_goals
    have hp := Lib.hid (show putS x y more body = putS x y more body from rfl)
    go_enter Tryz.func53, Tryz.ntmps53
    go_wp2_with fail
    refine (unhide HX _).mono ?_; rintro e w1 ⟨rfl, hb1⟩
    have H1 := (unhide H).call hb1
    have p5 := H1.cell 5 _ rfl
    have HB1 := hide ((unhide HB).trans (hb1.mono (unhide HB).size))
    clear hb1 H1
    go_wp2_with fail
    refine (unhide HY _ (unhide HB1)).mono ?_; rintro e w2 ⟨rfl, hb2⟩
    have HB2 := hide ((unhide HB1).trans (hb2.mono (unhide HB1).size))
    clear hb2 p5
    have hcr : crlfB.size = 2 := rfl
    go_wp2_with fail
    go_ret
    refine ⟨?_, unhide HB2⟩
    unfold putS
    rw [em]
    rfl
end Go.Proofs.YtbpopmbabckojaaGreatDoor.Sp
end
