/- The reference's RequestLine, StatusLine. -/
import Derived.Test.YtfkobhagdjaleaaGreatDoorS11
namespace Go.Proofs.YtfkobhagdjaleaaGreatDoor.Sp
open Go.RowKit Sl

theorem itoa_one {n : Int} (h0 : 0 ≤ n) (h1 : n ≤ 1) : Lib.itoa n = [UInt8.ofNat (48 + n.toNat)] := by
  have : n = 0 ∨ n = 1 := by omega
  rcases this with rfl | rfl <;> decide +kernel
theorem itoa_dig : ((List.range 600).all fun k => decide (k < 100) || (Lib.itoa (k : Int) == [UInt8.ofNat (48 + k / 100), UInt8.ofNat (48 + k / 10 % 10), UInt8.ofNat (48 + k % 10)])) = true := by decide +kernel
theorem itoa_of {k : Nat} (h0 : 100 ≤ k) (h1 : k ≤ 599) : Lib.itoa (k : Int) = [UInt8.ofNat (48 + k / 100), UInt8.ofNat (48 + k / 10 % 10), UInt8.ofNat (48 + k % 10)] := by
  have h := itoa_dig
  rw [List.all_eq_true] at h
  have h2 := h k (List.mem_range.2 (by omega))
  rw [decide_eq_false (by omega), Bool.false_or, beq_iff_eq] at h2
  exact h2
theorem nat_of {d : Nat} (h : d < 10) : ((UInt8.ofNat (48 + d)).toNat : Int) = 48 + (d : Int) := by
  simp [Nat.mod_eq_of_lt (show 48 + d < 256 by omega)]
theorem w8 (n : Int) (h : 0 ≤ n ∧ n < 256) : IntKind.u8.wrap n = n := by rw [IntKind.wrap_u8]; omega

set_option maxRecDepth 100000 in
set_option maxHeartbeats 2000000 in
theorem rreqLine_any (m t : ByteArray) (n : Int) (hm : m.size ≤ 1000000) (ht : t.size ≤ 1000000) (w : World) :
    Calls Tryz.prog 18 #[.string m, .string t, .int .i64 n] w fun e w' => e = .returned (.tuple #[.string (ofL (rlS m.data.toList t.data.toList n).1), .int .i64 (rlS m.data.toList t.data.toList n).2]) ∧ Below w.heap.size w w' := by
  have c1 := hide (fun w => rtoken_any m (by omega) w)
  have c2 := hide (fun w => rseen_any t (by omega) w)
  by_cases h1 : tokenS m.data.toList = true
  rotate_left
  · have hr := hide (show rlS m.data.toList t.data.toList n = ([], 4) by unfold rlS; rw [if_neg]; exact fun h => h1 h.1)
    rw [Bool.not_eq_true] at h1
    rw [h1] at c1
    clear h1 c2
    go_enter Tryz.func18, Tryz.ntmps18
    go_wp2_with fail
    refine (unhide c1 _).mono ?_; rintro e w1 ⟨rfl, rfl⟩
    go_wp2_with fail
    go_ret2
    exact ⟨by rw [unhide hr] <;> rfl, Below.refl _ _⟩
  rw [h1] at c1
  by_cases h2 : seenS t.data.toList = true
  rotate_left
  · have hr := hide (show rlS m.data.toList t.data.toList n = ([], 4) by unfold rlS; rw [if_neg]; exact fun h => h2 h.2.1)
    rw [Bool.not_eq_true] at h2
    rw [h2] at c2
    clear h1 h2
    go_enter Tryz.func18, Tryz.ntmps18
    go_wp2_with fail
    refine (unhide c1 _).mono ?_; rintro e w1 ⟨rfl, rfl⟩
    go_wp2_with fail
    refine (unhide c2 _).mono ?_; rintro e w2 ⟨rfl, rfl⟩
    go_wp2_with fail
    go_ret2
    exact ⟨by rw [unhide hr] <;> rfl, Below.refl _ _⟩
  rw [h2] at c2
  by_cases h3 : 0 ≤ n ∧ n ≤ 1
  rotate_left
  · have hr := hide (show rlS m.data.toList t.data.toList n = ([], 4) by unfold rlS; rw [if_neg]; exact fun h => h3 h.2.2)
    have hb : decide (n < 0) = true ∨ (decide (n < 0) = false ∧ decide (1 < n) = true) := by
      by_cases h : n < 0
      · exact .inl (decide_eq_true h)
      · exact .inr ⟨decide_eq_false h, decide_eq_true (by omega)⟩
    clear h1 h2 h3
    rcases hb with h | ⟨h, h'⟩
    all_goals
      go_enter Tryz.func18, Tryz.ntmps18
      go_wp2_with fail
      refine (unhide c1 _).mono ?_; rintro e w1 ⟨rfl, rfl⟩
      go_wp2_with fail
      refine (unhide c2 _).mono ?_; rintro e w2 ⟨rfl, rfl⟩
      go_wp2_with fail
      go_ret2
      exact ⟨by rw [unhide hr] <;> rfl, Below.refl _ _⟩
  obtain ⟨h3, h4⟩ := h3
  obtain ⟨k, rfl⟩ : ∃ k : Nat, n = (k : Int) := ⟨n.toNat, by omega⟩
  have hk : k ≤ 1 := by omega
  have hi := itoa_one h3 h4
  rw [show (k : Int).toNat = k by omega] at hi
  have hc : ((UInt8.ofNat (48 + k)).toNat : Int) = 48 + (k : Int) := nat_of (by omega)
  obtain ⟨c, hcc⟩ : ∃ c, UInt8.ofNat (48 + k) = c := ⟨_, rfl⟩
  rw [hcc] at hi hc
  have hr := hide (show rlS m.data.toList t.data.toList k = (rlT m.data.toList t.data.toList k, 0) by unfold rlS; rw [if_pos ⟨h1, h2, h3, h4⟩])
  have k1 : decide ((k : Int) < 0) = false := decide_eq_false (by omega)
  have k2 : decide (1 < (k : Int)) = false := decide_eq_false (by omega)
  have hw := w8 (48 + (k : Int)) (by omega)
  have hres : (((((m ++ ⟨#[32]⟩) ++ t) ++ ⟨#[32, 72, 84, 84, 80, 47, 49, 46]⟩) ++ ⟨#[c]⟩ : ByteArray)) = ofL (rlT m.data.toList t.data.toList k) := by
    refine ba_eq ?_
    rw [app_data, app_data, app_data, app_data]
    unfold rlT httpV
    rw [hi]
    simp
  have HRES := Lib.hid hres
  have hbv : ([.int .u8 (48 + (k : Int))] : List Value) = Mem.bytesV [c] := by
    show _ = [Value.int .u8 (c.toNat : Int)]
    rw [hc]
  have HV := Lib.hid hbv
  have hn1 : Reg.Has (w.alloc (.cells #[.int .u8 (48 + (k : Int))] 5)) w.heap.size (Mem.bytesV [c]) := by
    have h := Reg.Has.new w [.int .u8 (48 + (k : Int))] 5
    rw [← HV.out]
    exact h
  have HN2 := hide hn1
  have z1 : (⟨#[32]⟩ : ByteArray).size = 1 := rfl
  have z2 : (⟨#[32, 72, 84, 84, 80, 47, 49, 46]⟩ : ByteArray).size = 8 := rfl
  have z3 : (⟨#[c]⟩ : ByteArray).size = 1 := rfl
  clear h1 h2 h3 h4 hi hc hcc hres hn1 hbv
  go_enter Tryz.func18, Tryz.ntmps18
  go_wp2_with fail
  refine (unhide c1 _).mono ?_; rintro e w1 ⟨rfl, rfl⟩
  go_wp2_with fail
  refine (unhide c2 _).mono ?_; rintro e w2 ⟨rfl, rfl⟩
  go_wp2_with (refine Mem.wpList_text rfl 54 9 5 _ rfl w.heap.size 1 1 [c] rfl Tryz.underlying54 Tryz.underlying9 Tryz.underlying5 rfl (unhide HN2) ?_)
  go_ret2
  exact ⟨by rw [unhide hr, ← HRES.out] <;> rfl, (Below.refl _ _).alloc (Nat.le_refl _) _⟩

set_option maxRecDepth 100000 in
set_option maxHeartbeats 2000000 in
theorem rstatLine_any (n st : Int) (r : ByteArray) (hr0 : r.size ≤ 1000000) (w : World) :
    Calls Tryz.prog 19 #[.int .i64 n, .int .i64 st, .string r] w fun e w' => e = .returned (.tuple #[.string (ofL (slS n st r.data.toList).1), .int .i64 (slS n st r.data.toList).2]) ∧ Below w.heap.size w w' := by
  have c1 := hide (fun w => chars_any r (by omega) w)
  by_cases h3 : 0 ≤ n ∧ n ≤ 1 ∧ 100 ≤ st ∧ st ≤ 599
  rotate_left
  · have hr := hide (show slS n st r.data.toList = ([], 4) by unfold slS; rw [if_neg]; exact fun h => h3 ⟨h.1, h.2.1, h.2.2.1, h.2.2.2.1⟩)
    have hb : decide (n < 0) = true ∨ (decide (n < 0) = false ∧ decide (1 < n) = true) ∨ (decide (n < 0) = false ∧ decide (1 < n) = false ∧ decide (st < 100) = true) ∨ (decide (n < 0) = false ∧ decide (1 < n) = false ∧ decide (st < 100) = false ∧ decide (599 < st) = true) := by
      by_cases k1 : n < 0
      · exact .inl (decide_eq_true k1)
      · by_cases k2 : 1 < n
        · exact .inr (.inl ⟨decide_eq_false k1, decide_eq_true k2⟩)
        · by_cases k3 : st < 100
          · exact .inr (.inr (.inl ⟨decide_eq_false k1, decide_eq_false k2, decide_eq_true k3⟩))
          · exact .inr (.inr (.inr ⟨decide_eq_false k1, decide_eq_false k2, decide_eq_false k3, decide_eq_true (by omega)⟩))
    clear h3
    rcases hb with g1 | ⟨g1, g2⟩ | ⟨g1, g2, g3⟩ | ⟨g1, g2, g3, g4⟩
    all_goals
      go_enter Tryz.func19, Tryz.ntmps19
      go_wp2_with fail
      go_ret2
      exact ⟨by rw [unhide hr] <;> rfl, Below.refl _ _⟩
  obtain ⟨h3, h4, h5, h6⟩ := h3
  have k1 : decide (n < 0) = false := decide_eq_false (by omega)
  have k2 : decide (1 < n) = false := decide_eq_false (by omega)
  have k3 : decide (st < 100) = false := decide_eq_false (by omega)
  have k4 : decide (599 < st) = false := decide_eq_false (by omega)
  by_cases h1 : allS chr r.data.toList = true
  rotate_left
  · have hr := hide (show slS n st r.data.toList = ([], 4) by unfold slS; rw [if_neg]; exact fun h => h1 h.2.2.2.2)
    rw [Bool.not_eq_true] at h1
    rw [h1] at c1
    clear h1 h3 h4 h5 h6
    go_enter Tryz.func19, Tryz.ntmps19
    go_wp2_with fail
    refine (unhide c1 _).mono ?_; rintro e w1 ⟨rfl, rfl⟩
    go_wp2_with fail
    go_ret2
    exact ⟨by rw [unhide hr] <;> rfl, Below.refl _ _⟩
  rw [h1] at c1
  obtain ⟨k, rfl⟩ : ∃ k : Nat, n = (k : Int) := ⟨n.toNat, by omega⟩
  obtain ⟨u, rfl⟩ : ∃ u : Nat, st = (u : Int) := ⟨st.toNat, by omega⟩
  have hk : k ≤ 1 := by omega
  have hu0 : 100 ≤ u := by omega
  have hu1 : u ≤ 599 := by omega
  have hi := itoa_one h3 h4
  rw [show (k : Int).toNat = k by omega] at hi
  have hj := itoa_of hu0 hu1
  have hc : ((UInt8.ofNat (48 + k)).toNat : Int) = 48 + (k : Int) := nat_of (by omega)
  obtain ⟨a, ha⟩ : ∃ a, u / 100 = a := ⟨_, rfl⟩
  obtain ⟨b, hb⟩ : ∃ b, u / 10 = b := ⟨_, rfl⟩
  obtain ⟨d, hd⟩ : ∃ d, u / 10 % 10 = d := ⟨_, rfl⟩
  obtain ⟨f, hf⟩ : ∃ f, u % 10 = f := ⟨_, rfl⟩
  have t1 : Int.tdiv (u : Int) 100 = (a : Int) := by rw [Int.tdiv_eq_ediv_of_nonneg (by omega)]; omega
  have t2 : Int.tdiv (u : Int) 10 = (b : Int) := by rw [Int.tdiv_eq_ediv_of_nonneg (by omega)]; omega
  have t3 : Int.tmod (b : Int) 10 = (d : Int) := by rw [Int.tmod_eq_emod_of_nonneg (by omega)]; omega
  have t4 : Int.tmod (u : Int) 10 = (f : Int) := by rw [Int.tmod_eq_emod_of_nonneg (by omega)]; omega
  have ba : a < 10 := by omega
  have bd : d < 10 := by omega
  have bf : f < 10 := by omega
  have bb : b < 100 := by omega
  rw [ha, hd, hf] at hj
  have hna : ((UInt8.ofNat (48 + a)).toNat : Int) = 48 + (a : Int) := nat_of ba
  have hnd : ((UInt8.ofNat (48 + d)).toNat : Int) = 48 + (d : Int) := nat_of bd
  have hnf : ((UInt8.ofNat (48 + f)).toNat : Int) = 48 + (f : Int) := nat_of bf
  have wa := w8 (48 + (a : Int)) (by omega)
  have wd := w8 (48 + (d : Int)) (by omega)
  have wf := w8 (48 + (f : Int)) (by omega)
  have wk := w8 (48 + (k : Int)) (by omega)
  obtain ⟨c, hcc⟩ : ∃ c, UInt8.ofNat (48 + k) = c := ⟨_, rfl⟩
  obtain ⟨ca, hca⟩ : ∃ c, UInt8.ofNat (48 + a) = c := ⟨_, rfl⟩
  obtain ⟨cd, hcd⟩ : ∃ c, UInt8.ofNat (48 + d) = c := ⟨_, rfl⟩
  obtain ⟨cf, hcf⟩ : ∃ c, UInt8.ofNat (48 + f) = c := ⟨_, rfl⟩
  rw [hcc] at hi hc
  rw [hca, hcd, hcf] at hj
  rw [hca] at hna
  rw [hcd] at hnd
  rw [hcf] at hnf
  have hr := hide (show slS k u r.data.toList = (slT k u r.data.toList, 0) by unfold slS; rw [if_pos ⟨h3, h4, h5, h6, h1⟩])
  have hres : (((((⟨#[72, 84, 84, 80, 47, 49, 46]⟩ : ByteArray) ++ ⟨#[c]⟩) ++ ⟨#[32]⟩) ++ ⟨#[ca, cd, cf]⟩) ++ ⟨#[32]⟩) ++ r = ofL (slT k u r.data.toList) := by
    refine ba_eq ?_
    rw [app_data, app_data, app_data, app_data, app_data]
    unfold slT httpV
    rw [hi, hj]
    rfl
  have HRES := Lib.hid hres
  have hbv : ([.int .u8 (48 + (k : Int))] : List Value) = Mem.bytesV [c] := by
    show _ = [Value.int .u8 (c.toNat : Int)]
    rw [hc]
  have hbw : ([.int .u8 (48 + (a : Int)), .int .u8 (48 + (d : Int)), .int .u8 (48 + (f : Int))] : List Value) = Mem.bytesV [ca, cd, cf] := by
    show _ = [Value.int .u8 (ca.toNat : Int), Value.int .u8 (cd.toNat : Int), Value.int .u8 (cf.toNat : Int)]
    rw [hna, hnd, hnf]
  have HV := Lib.hid hbv
  have HW := Lib.hid hbw
  have z1 : (⟨#[32]⟩ : ByteArray).size = 1 := rfl
  have z2 : (⟨#[72, 84, 84, 80, 47, 49, 46]⟩ : ByteArray).size = 7 := rfl
  have z3 : (⟨#[c]⟩ : ByteArray).size = 1 := rfl
  have z4 : (⟨#[ca, cd, cf]⟩ : ByteArray).size = 3 := rfl
  have hn1 : ∀ w : World, Reg.Has (w.alloc (.cells #[.int .u8 (48 + (k : Int))] 5)) w.heap.size (Mem.bytesV [c]) := fun w => by
    have h := Reg.Has.new w [.int .u8 (48 + (k : Int))] 5
    rw [← HV.out]
    exact h
  have hn3 : ∀ w : World, Reg.Has (w.alloc (.cells #[.int .u8 (48 + (a : Int)), .int .u8 (48 + (d : Int)), .int .u8 (48 + (f : Int))] 5)) w.heap.size (Mem.bytesV [ca, cd, cf]) := fun w => by
    have h := Reg.Has.new w [.int .u8 (48 + (a : Int)), .int .u8 (48 + (d : Int)), .int .u8 (48 + (f : Int))] 5
    rw [← HW.out]
    exact h
  have H1 := hide hn1
  have H3 := hide hn3
  have H3' : Reg.Has ((w.alloc (.cells #[.int .u8 (48 + (k : Int))] 5)).alloc (.cells #[.int .u8 (48 + (a : Int)), .int .u8 (48 + (d : Int)), .int .u8 (48 + (f : Int))] 5)) (w.heap.size + 1) (Mem.bytesV [ca, cd, cf]) := by
    have h := hn3 (w.alloc (.cells #[.int .u8 (48 + (k : Int))] 5))
    rw [World.size_alloc] at h
    exact h
  have hr3 : (convert 54 9 (.slice (some ⟨w.heap.size + 1, 0, none⟩) 3 3)).run Tryz.prog ((w.alloc (.cells #[.int .u8 (48 + (k : Int))] 5)).alloc (.cells #[.int .u8 (48 + (a : Int)), .int .u8 (48 + (d : Int)), .int .u8 (48 + (f : Int))] 5)) = .ok (.string ⟨#[ca, cd, cf]⟩) _ :=
    Mem.run_text 54 5 9 Tryz.underlying54 Tryz.underlying5 Tryz.underlying9 (w.heap.size + 1) 0 3 [ca, cd, cf] (fun i v hv => by rw [Nat.zero_add]; exact H3'.cell i v hv)
  clear h1 h3 h4 h5 h6 hi hj hc hcc hca hcd hcf hna hnd hnf ha hb hd hf hres hbv hbw hn1 hn3 H3'
  go_enter Tryz.func19, Tryz.ntmps19
  go_wp2_with fail
  refine (unhide c1 _).mono ?_; rintro e w1 ⟨rfl, rfl⟩
  go_wp2_with (refine Mem.wpList_text rfl 54 9 5 _ rfl w.heap.size 1 1 [c] rfl Tryz.underlying54 Tryz.underlying9 Tryz.underlying5 rfl (unhide H1 w) ?_)
  go_ret2
  exact ⟨by rw [unhide hr, ← HRES.out] <;> rfl, ((Below.refl _ _).alloc (Nat.le_refl _) _).alloc (by simp) _⟩
end Go.Proofs.YtfkobhagdjaleaaGreatDoor.Sp
