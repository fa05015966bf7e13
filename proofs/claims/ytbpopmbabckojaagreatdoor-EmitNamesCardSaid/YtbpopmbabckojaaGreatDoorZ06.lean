/- Lemmas for the statement's proof, several texts in one: S12, M1, Reg3, C2, C3. -/
import Derived.Test.YtbpopmbabckojaaGreatDoorZ05
import Derived.Test.YtbpopmbabckojaaGreatDoorZ01
import Derived.Test.YtbpopmbabckojaaGreatDoorZ04
import Derived.OrdersHeld
import Derived.Test.YtbpopmbabckojaaGreatDoorZ02
import Derived.WalkSmall
import Derived.Deep.Onto
/- The reference's RequestLine, StatusLine. -/
namespace Go.Proofs.YtbpopmbabckojaaGreatDoor.Sp
open Go.RowKit Sl

theorem itoa_one {n : Int} (h0 : 0 ≤ n) (h1 : n ≤ 1) : Lib.itoa n = [UInt8.ofNat (48 + n.toNat)] := by
  have : n = 0 ∨ n = 1 := by omega
  rcases this with rfl | rfl <;> decide +kernel
theorem itoa_dig : ((List.range 600).all fun k => decide (k < 100) || (Lib.itoa (k : Int) == [UInt8.ofNat (48 + k / 100), UInt8.ofNat (48 + k / 10 % 10), UInt8.ofNat (48 + k % 10)])) = true := by decide +kernel
theorem itoa_of {k : Nat} (h0 : 100 ≤ k) (h1 : k ≤ 599) : Lib.itoa (k : Int) = [UInt8.ofNat (48 + k / 100), UInt8.ofNat (48 + k / 10 % 10), UInt8.ofNat (48 + k % 10)] := by
  have h := itoa_dig
  rw [List.all_eq_true] at h
  have h2 := h k (List.mem_range.2 (by omega))
  rw [decide_eq_false (by omega), Bool.false_or, beq_iff_eq] at h2
  exact h2
theorem nat_of {d : Nat} (h : d < 10) : ((UInt8.ofNat (48 + d)).toNat : Int) = 48 + (d : Int) := by
  simp [Nat.mod_eq_of_lt (show 48 + d < 256 by omega)]
theorem w8 (n : Int) (h : 0 ≤ n ∧ n < 256) : IntKind.u8.wrap n = n := by rw [IntKind.wrap_u8]; omega

set_option maxRecDepth 100000 in
set_option maxHeartbeats 2000000 in
theorem rreqLine_any (m t : ByteArray) (n : Int) (hm : m.size ≤ 1000000) (ht : t.size ≤ 1000000) (w : World) :
    Calls Tryz.prog 76 #[.string m, .string t, .int .i64 n] w fun e w' => e = .returned (.tuple #[.string (ofL (rlS m.data.toList t.data.toList n).1), .int .i64 (rlS m.data.toList t.data.toList n).2]) ∧ Below w.heap.size w w' := by
  have c1 := hide (fun w => rtoken_any m (by omega) w)
  have c2 := hide (fun w => rseen_any t (by omega) w)
  by_cases h1 : tokenS m.data.toList = true
  rotate_left
  · have hr := hide (show rlS m.data.toList t.data.toList n = ([], 4) by unfold rlS; rw [if_neg]; exact fun h => h1 h.1)
    rw [Bool.not_eq_true] at h1
    rw [h1] at c1
    clear h1 c2
    go_enter Tryz.func76, Tryz.ntmps76
    go_wp2_with fail
    refine (unhide c1 _).mono ?_; rintro e w1 ⟨rfl, rfl⟩
    go_wp2_with fail
    go_ret2
    exact ⟨by rw [unhide hr] <;> rfl, Below.refl _ _⟩
  rw [h1] at c1
  by_cases h2 : seenS t.data.toList = true
  rotate_left
  · have hr := hide (show rlS m.data.toList t.data.toList n = ([], 4) by unfold rlS; rw [if_neg]; exact fun h => h2 h.2.1)
    rw [Bool.not_eq_true] at h2
    rw [h2] at c2
    clear h1 h2
    go_enter Tryz.func76, Tryz.ntmps76
    go_wp2_with fail
    refine (unhide c1 _).mono ?_; rintro e w1 ⟨rfl, rfl⟩
    go_wp2_with fail
    refine (unhide c2 _).mono ?_; rintro e w2 ⟨rfl, rfl⟩
    go_wp2_with fail
    go_ret2
    exact ⟨by rw [unhide hr] <;> rfl, Below.refl _ _⟩
  rw [h2] at c2
  by_cases h3 : 0 ≤ n ∧ n ≤ 1
  rotate_left
  · have hr := hide (show rlS m.data.toList t.data.toList n = ([], 4) by unfold rlS; rw [if_neg]; exact fun h => h3 h.2.2)
    have hb : decide (n < 0) = true ∨ (decide (n < 0) = false ∧ decide (1 < n) = true) := by
      by_cases h : n < 0
      · exact .inl (decide_eq_true h)
      · exact .inr ⟨decide_eq_false h, decide_eq_true (by omega)⟩
    clear h1 h2 h3
    rcases hb with h | ⟨h, h'⟩
    all_goals
      go_enter Tryz.func76, Tryz.ntmps76
      go_wp2_with fail
      refine (unhide c1 _).mono ?_; rintro e w1 ⟨rfl, rfl⟩
      go_wp2_with fail
      refine (unhide c2 _).mono ?_; rintro e w2 ⟨rfl, rfl⟩
      go_wp2_with fail
      go_ret2
      exact ⟨by rw [unhide hr] <;> rfl, Below.refl _ _⟩
  obtain ⟨h3, h4⟩ := h3
  obtain ⟨k, rfl⟩ : ∃ k : Nat, n = (k : Int) := ⟨n.toNat, by omega⟩
  have hk : k ≤ 1 := by omega
  have hi := itoa_one h3 h4
  rw [show (k : Int).toNat = k by omega] at hi
  have hc : ((UInt8.ofNat (48 + k)).toNat : Int) = 48 + (k : Int) := nat_of (by omega)
  obtain ⟨c, hcc⟩ : ∃ c, UInt8.ofNat (48 + k) = c := ⟨_, rfl⟩
  rw [hcc] at hi hc
  have hr := hide (show rlS m.data.toList t.data.toList k = (rlT m.data.toList t.data.toList k, 0) by unfold rlS; rw [if_pos ⟨h1, h2, h3, h4⟩])
  have k1 : decide ((k : Int) < 0) = false := decide_eq_false (by omega)
  have k2 : decide (1 < (k : Int)) = false := decide_eq_false (by omega)
  have hw := w8 (48 + (k : Int)) (by omega)
  have hres : (((((m ++ ⟨#[32]⟩) ++ t) ++ ⟨#[32, 72, 84, 84, 80, 47, 49, 46]⟩) ++ ⟨#[c]⟩ : ByteArray)) = ofL (rlT m.data.toList t.data.toList k) := by
    refine ba_eq ?_
    rw [app_data, app_data, app_data, app_data]
    unfold rlT httpV
    rw [hi]
    simp
  have HRES := Lib.hid hres
  have hbv : ([.int .u8 (48 + (k : Int))] : List Value) = Mem.bytesV [c] := by
    show _ = [Value.int .u8 (c.toNat : Int)]
    rw [hc]
  have HV := Lib.hid hbv
  have hn1 : Reg.Has (w.alloc (.cells #[.int .u8 (48 + (k : Int))] 5)) w.heap.size (Mem.bytesV [c]) := by
    have h := Reg.Has.new w [.int .u8 (48 + (k : Int))] 5
    rw [← HV.out]
    exact h
  have HN2 := hide hn1
  have z1 : (⟨#[32]⟩ : ByteArray).size = 1 := rfl
  have z2 : (⟨#[32, 72, 84, 84, 80, 47, 49, 46]⟩ : ByteArray).size = 8 := rfl
  have z3 : (⟨#[c]⟩ : ByteArray).size = 1 := rfl
  clear h1 h2 h3 h4 hi hc hcc hres hn1 hbv
  go_enter Tryz.func76, Tryz.ntmps76
  go_wp2_with fail
  refine (unhide c1 _).mono ?_; rintro e w1 ⟨rfl, rfl⟩
  go_wp2_with fail
  refine (unhide c2 _).mono ?_; rintro e w2 ⟨rfl, rfl⟩
  go_wp2_with (refine Mem.wpList_text rfl 66 9 5 _ rfl w.heap.size 1 1 [c] rfl Tryz.underlying66 Tryz.underlying9 Tryz.underlying5 rfl (unhide HN2) ?_)
  go_ret2
  exact ⟨by rw [unhide hr, ← HRES.out] <;> rfl, (Below.refl _ _).alloc (Nat.le_refl _) _⟩

set_option maxRecDepth 100000 in
set_option maxHeartbeats 2000000 in
theorem rstatLine_any (n st : Int) (r : ByteArray) (hr0 : r.size ≤ 1000000) (w : World) :
    Calls Tryz.prog 77 #[.int .i64 n, .int .i64 st, .string r] w fun e w' => e = .returned (.tuple #[.string (ofL (slS n st r.data.toList).1), .int .i64 (slS n st r.data.toList).2]) ∧ Below w.heap.size w w' := by
  have c1 := hide (fun w => chars_any r (by omega) w)
  by_cases h3 : 0 ≤ n ∧ n ≤ 1 ∧ 100 ≤ st ∧ st ≤ 599
  rotate_left
  · have hr := hide (show slS n st r.data.toList = ([], 4) by unfold slS; rw [if_neg]; exact fun h => h3 ⟨h.1, h.2.1, h.2.2.1, h.2.2.2.1⟩)
    have hb : decide (n < 0) = true ∨ (decide (n < 0) = false ∧ decide (1 < n) = true) ∨ (decide (n < 0) = false ∧ decide (1 < n) = false ∧ decide (st < 100) = true) ∨ (decide (n < 0) = false ∧ decide (1 < n) = false ∧ decide (st < 100) = false ∧ decide (599 < st) = true) := by
      by_cases k1 : n < 0
      · exact .inl (decide_eq_true k1)
      · by_cases k2 : 1 < n
        · exact .inr (.inl ⟨decide_eq_false k1, decide_eq_true k2⟩)
        · by_cases k3 : st < 100
          · exact .inr (.inr (.inl ⟨decide_eq_false k1, decide_eq_false k2, decide_eq_true k3⟩))
          · exact .inr (.inr (.inr ⟨decide_eq_false k1, decide_eq_false k2, decide_eq_false k3, decide_eq_true (by omega)⟩))
    clear h3
    rcases hb with g1 | ⟨g1, g2⟩ | ⟨g1, g2, g3⟩ | ⟨g1, g2, g3, g4⟩
    all_goals
      go_enter Tryz.func77, Tryz.ntmps77
      go_wp2_with fail
      go_ret2
      exact ⟨by rw [unhide hr] <;> rfl, Below.refl _ _⟩
  obtain ⟨h3, h4, h5, h6⟩ := h3
  have k1 : decide (n < 0) = false := decide_eq_false (by omega)
  have k2 : decide (1 < n) = false := decide_eq_false (by omega)
  have k3 : decide (st < 100) = false := decide_eq_false (by omega)
  have k4 : decide (599 < st) = false := decide_eq_false (by omega)
  by_cases h1 : allS chr r.data.toList = true
  rotate_left
  · have hr := hide (show slS n st r.data.toList = ([], 4) by unfold slS; rw [if_neg]; exact fun h => h1 h.2.2.2.2)
    rw [Bool.not_eq_true] at h1
    rw [h1] at c1
    clear h1 h3 h4 h5 h6
    go_enter Tryz.func77, Tryz.ntmps77
    go_wp2_with fail
    refine (unhide c1 _).mono ?_; rintro e w1 ⟨rfl, rfl⟩
    go_wp2_with fail
    go_ret2
    exact ⟨by rw [unhide hr] <;> rfl, Below.refl _ _⟩
  rw [h1] at c1
  obtain ⟨k, rfl⟩ : ∃ k : Nat, n = (k : Int) := ⟨n.toNat, by omega⟩
  obtain ⟨u, rfl⟩ : ∃ u : Nat, st = (u : Int) := ⟨st.toNat, by omega⟩
  have hk : k ≤ 1 := by omega
  have hu0 : 100 ≤ u := by omega
  have hu1 : u ≤ 599 := by omega
  have hi := itoa_one h3 h4
  rw [show (k : Int).toNat = k by omega] at hi
  have hj := itoa_of hu0 hu1
  have hc : ((UInt8.ofNat (48 + k)).toNat : Int) = 48 + (k : Int) := nat_of (by omega)
  obtain ⟨a, ha⟩ : ∃ a, u / 100 = a := ⟨_, rfl⟩
  obtain ⟨b, hb⟩ : ∃ b, u / 10 = b := ⟨_, rfl⟩
  obtain ⟨d, hd⟩ : ∃ d, u / 10 % 10 = d := ⟨_, rfl⟩
  obtain ⟨f, hf⟩ : ∃ f, u % 10 = f := ⟨_, rfl⟩
  have t1 : Int.tdiv (u : Int) 100 = (a : Int) := by rw [Int.tdiv_eq_ediv_of_nonneg (by omega)]; omega
  have t2 : Int.tdiv (u : Int) 10 = (b : Int) := by rw [Int.tdiv_eq_ediv_of_nonneg (by omega)]; omega
  have t3 : Int.tmod (b : Int) 10 = (d : Int) := by rw [Int.tmod_eq_emod_of_nonneg (by omega)]; omega
  have t4 : Int.tmod (u : Int) 10 = (f : Int) := by rw [Int.tmod_eq_emod_of_nonneg (by omega)]; omega
  have ba : a < 10 := by omega
  have bd : d < 10 := by omega
  have bf : f < 10 := by omega
  have bb : b < 100 := by omega
  rw [ha, hd, hf] at hj
  have hna : ((UInt8.ofNat (48 + a)).toNat : Int) = 48 + (a : Int) := nat_of ba
  have hnd : ((UInt8.ofNat (48 + d)).toNat : Int) = 48 + (d : Int) := nat_of bd
  have hnf : ((UInt8.ofNat (48 + f)).toNat : Int) = 48 + (f : Int) := nat_of bf
  have wa := w8 (48 + (a : Int)) (by omega)
  have wd := w8 (48 + (d : Int)) (by omega)
  have wf := w8 (48 + (f : Int)) (by omega)
  have wk := w8 (48 + (k : Int)) (by omega)
  obtain ⟨c, hcc⟩ : ∃ c, UInt8.ofNat (48 + k) = c := ⟨_, rfl⟩
  obtain ⟨ca, hca⟩ : ∃ c, UInt8.ofNat (48 + a) = c := ⟨_, rfl⟩
  obtain ⟨cd, hcd⟩ : ∃ c, UInt8.ofNat (48 + d) = c := ⟨_, rfl⟩
  obtain ⟨cf, hcf⟩ : ∃ c, UInt8.ofNat (48 + f) = c := ⟨_, rfl⟩
  rw [hcc] at hi hc
  rw [hca, hcd, hcf] at hj
  rw [hca] at hna
  rw [hcd] at hnd
  rw [hcf] at hnf
  have hr := hide (show slS k u r.data.toList = (slT k u r.data.toList, 0) by unfold slS; rw [if_pos ⟨h3, h4, h5, h6, h1⟩])
  have hres : (((((⟨#[72, 84, 84, 80, 47, 49, 46]⟩ : ByteArray) ++ ⟨#[c]⟩) ++ ⟨#[32]⟩) ++ ⟨#[ca, cd, cf]⟩) ++ ⟨#[32]⟩) ++ r = ofL (slT k u r.data.toList) := by
    refine ba_eq ?_
    rw [app_data, app_data, app_data, app_data, app_data]
    unfold slT httpV
    rw [hi, hj]
    rfl
  have HRES := Lib.hid hres
  have hbv : ([.int .u8 (48 + (k : Int))] : List Value) = Mem.bytesV [c] := by
    show _ = [Value.int .u8 (c.toNat : Int)]
    rw [hc]
  have hbw : ([.int .u8 (48 + (a : Int)), .int .u8 (48 + (d : Int)), .int .u8 (48 + (f : Int))] : List Value) = Mem.bytesV [ca, cd, cf] := by
    show _ = [Value.int .u8 (ca.toNat : Int), Value.int .u8 (cd.toNat : Int), Value.int .u8 (cf.toNat : Int)]
    rw [hna, hnd, hnf]
  have HV := Lib.hid hbv
  have HW := Lib.hid hbw
  have z1 : (⟨#[32]⟩ : ByteArray).size = 1 := rfl
  have z2 : (⟨#[72, 84, 84, 80, 47, 49, 46]⟩ : ByteArray).size = 7 := rfl
  have z3 : (⟨#[c]⟩ : ByteArray).size = 1 := rfl
  have z4 : (⟨#[ca, cd, cf]⟩ : ByteArray).size = 3 := rfl
  have hn1 : ∀ w : World, Reg.Has (w.alloc (.cells #[.int .u8 (48 + (k : Int))] 5)) w.heap.size (Mem.bytesV [c]) := fun w => by
    have h := Reg.Has.new w [.int .u8 (48 + (k : Int))] 5
    rw [← HV.out]
    exact h
  have hn3 : ∀ w : World, Reg.Has (w.alloc (.cells #[.int .u8 (48 + (a : Int)), .int .u8 (48 + (d : Int)), .int .u8 (48 + (f : Int))] 5)) w.heap.size (Mem.bytesV [ca, cd, cf]) := fun w => by
    have h := Reg.Has.new w [.int .u8 (48 + (a : Int)), .int .u8 (48 + (d : Int)), .int .u8 (48 + (f : Int))] 5
    rw [← HW.out]
    exact h
  have H1 := hide hn1
  have H3 := hide hn3
  have H3' : Reg.Has ((w.alloc (.cells #[.int .u8 (48 + (k : Int))] 5)).alloc (.cells #[.int .u8 (48 + (a : Int)), .int .u8 (48 + (d : Int)), .int .u8 (48 + (f : Int))] 5)) (w.heap.size + 1) (Mem.bytesV [ca, cd, cf]) := by
    have h := hn3 (w.alloc (.cells #[.int .u8 (48 + (k : Int))] 5))
    rw [World.size_alloc] at h
    exact h
  have hr3 : (convert 66 9 (.slice (some ⟨w.heap.size + 1, 0, none⟩) 3 3)).run Tryz.prog ((w.alloc (.cells #[.int .u8 (48 + (k : Int))] 5)).alloc (.cells #[.int .u8 (48 + (a : Int)), .int .u8 (48 + (d : Int)), .int .u8 (48 + (f : Int))] 5)) = .ok (.string ⟨#[ca, cd, cf]⟩) _ :=
    Mem.run_text 66 5 9 Tryz.underlying66 Tryz.underlying5 Tryz.underlying9 (w.heap.size + 1) 0 3 [ca, cd, cf] (fun i v hv => by rw [Nat.zero_add]; exact H3'.cell i v hv)
  clear h1 h3 h4 h5 h6 hi hj hc hcc hca hcd hcf hna hnd hnf ha hb hd hf hres hbv hbw hn1 hn3 H3'
  go_enter Tryz.func77, Tryz.ntmps77
  go_wp2_with fail
  refine (unhide c1 _).mono ?_; rintro e w1 ⟨rfl, rfl⟩
  go_wp2_with (refine Mem.wpList_text rfl 66 9 5 _ rfl w.heap.size 1 1 [c] rfl Tryz.underlying66 Tryz.underlying9 Tryz.underlying5 rfl (unhide H1 w) ?_)
  go_ret2
  exact ⟨by rw [unhide hr, ← HRES.out] <;> rfl, ((Below.refl _ _).alloc (Nat.le_refl _) _).alloc (by simp) _⟩
end Go.Proofs.YtbpopmbabckojaaGreatDoor.Sp

/- A message's first line, both sides. -/
namespace Go.Proofs.YtbpopmbabckojaaGreatDoor.Sp
open Go.RowKit Sl

def lineS (me ta re : ByteArray) (st mi : Int) : List UInt8 × Int :=
  if me.toList.isEmpty = true then (if ta.toList.isEmpty = true then slS mi st re.data.toList else ([], 4)) else (if st = 0 ∧ re.toList.isEmpty = true then rlS me.data.toList ta.data.toList mi else ([], 4))
def LineOut (w : World) (me ta re : ByteArray) (st mi : Int) (e : Ending) (w' : World) : Prop :=
  e = .returned (.tuple #[.string (ofL (lineS me ta re st mi).1), .int .i64 (lineS me ta re st mi).2]) ∧ Below w.heap.size w w'
theorem line_bad {w w' : World} {me ta re : ByteArray} {st mi : Int} (h : lineS me ta re st mi = ([], 4)) (hb : Below w.heap.size w w') : LineOut w me ta re st mi (.returned (.tuple #[.string ⟨#[]⟩, .int .i64 4])) w' := by
  unfold LineOut; rw [h]; exact ⟨rfl, hb⟩
theorem line_at {w w' : World} {me ta re : ByteArray} {st mi : Int} {X : List UInt8 × Int} {x : ByteArray} {n : Int} (h : lineS me ta re st mi = X) (hx : ofL X.1 = x) (hn : X.2 = n) (hb : Below w.heap.size w w') : LineOut w me ta re st mi (.returned (.tuple #[.string x, .int .i64 n])) w' := by
  unfold LineOut; rw [h, hx, hn]; exact ⟨rfl, hb⟩

set_option maxRecDepth 100000 in
set_option maxHeartbeats 4000000 in
theorem eline_any (me ta re bo : ByteArray) (st mi : Int) (ao bo' : Option Addr) (n1 c1 n2 c2 : Nat) (h1 : me.size ≤ 1000000) (h2 : ta.size ≤ 1000000) (h3 : re.size ≤ 1000000) (w : World) (hT : Pow10 w) :
    Calls Tryz.prog 46 #[.agg (msgV me ta st re mi (.slice ao n1 c1) bo (.slice bo' n2 c2))] w (LineOut w me ta re st mi) := by
  have q1 := hide (fun w hT => reqLine_any me ta mi h1 h2 w hT)
  have q2 := hide (fun w hT => statLine_any mi st re h3 w hT)
  have HT := hide hT
  clear hT
  unfold msgV
  have HB := hide ((Below.refl w.heap.size w).alloc (Nat.le_refl _) (.cells #[.string me, .string ta, .int .i64 st, .string re, .int .i64 mi, .slice ao n1 c1, .string bo, .slice bo' n2 c2] 24))
  cases e1 : me.toList.isEmpty
  · by_cases e2 : st = 0 ∧ re.toList.isEmpty = true
    · obtain ⟨rfl, e3⟩ := e2
      have hs := Lib.hid (show lineS me ta re 0 mi = rlS me.data.toList ta.data.toList mi by unfold lineS; rw [e1, if_neg (by decide), if_pos ⟨rfl, e3⟩])
      generalize (rlS me.data.toList ta.data.toList mi) = X at q1 hs
      obtain ⟨x, hx⟩ : ∃ x, ofL X.1 = x := ⟨_, rfl⟩
      obtain ⟨n, hn⟩ : ∃ n, X.2 = n := ⟨_, rfl⟩
      rw [hx, hn] at q1
      have HX := Lib.hid hx
      have HN := Lib.hid hn
      clear hx hn
      go_enter Tryz.func46, Tryz.ntmps46
      go_wp2_with fail
      refine (unhide q1 _ ((unhide HT).below (unhide HB))).mono ?_; rintro e w1 ⟨rfl, hb1⟩
      have HB1 := hide ((unhide HB).trans (hb1.mono (unhide HB).size))
      clear hb1
      go_wp2_with fail
      go_ret2
      exact line_at hs.out HX.out HN.out (unhide HB1)
    · have hs := Lib.hid (show lineS me ta re st mi = ([], 4) by unfold lineS; rw [e1, if_neg (by decide), if_neg e2])
      by_cases e3 : st = 0
      · subst e3
        have e4 : re.toList.isEmpty = false := by
          cases hx : re.toList.isEmpty
          · rfl
          · exact absurd ⟨rfl, hx⟩ e2
        clear e2
        go_enter Tryz.func46, Tryz.ntmps46
        go_wp2_with fail
        go_ret2
        exact line_bad hs.out (unhide HB)
      · have e4 : (st != 0) = true := by rw [bne_iff_ne]; exact e3
        clear e2 e3
        go_enter Tryz.func46, Tryz.ntmps46
        go_wp2_with fail
        go_ret2
        exact line_bad hs.out (unhide HB)
  · cases e2 : ta.toList.isEmpty
    · have hs := Lib.hid (show lineS me ta re st mi = ([], 4) by unfold lineS; rw [e1, if_pos rfl, e2, if_neg (by decide)])
      go_enter Tryz.func46, Tryz.ntmps46
      go_wp2_with fail
      go_ret2
      exact line_bad hs.out (unhide HB)
    · have hs := Lib.hid (show lineS me ta re st mi = slS mi st re.data.toList by unfold lineS; rw [e1, if_pos rfl, e2, if_pos rfl])
      generalize (slS mi st re.data.toList) = X at q2 hs
      obtain ⟨x, hx⟩ : ∃ x, ofL X.1 = x := ⟨_, rfl⟩
      obtain ⟨n, hn⟩ : ∃ n, X.2 = n := ⟨_, rfl⟩
      rw [hx, hn] at q2
      have HX := Lib.hid hx
      have HN := Lib.hid hn
      clear hx hn
      go_enter Tryz.func46, Tryz.ntmps46
      go_wp2_with fail
      refine (unhide q2 _ ((unhide HT).below (unhide HB))).mono ?_; rintro e w1 ⟨rfl, hb1⟩
      have HB1 := hide ((unhide HB).trans (hb1.mono (unhide HB).size))
      clear hb1
      go_wp2_with fail
      go_ret2
      exact line_at hs.out HX.out HN.out (unhide HB1)
set_option maxRecDepth 100000 in
set_option maxHeartbeats 4000000 in
theorem r8line_any (me ta re bo : ByteArray) (st mi : Int) (ao bo' : Option Addr) (n1 c1 n2 c2 : Nat) (h1 : me.size ≤ 1000000) (h2 : ta.size ≤ 1000000) (h3 : re.size ≤ 1000000) (w : World) :
    Calls Tryz.prog 56 #[.agg (msgV me ta st re mi (.slice ao n1 c1) bo (.slice bo' n2 c2))] w (LineOut w me ta re st mi) := by
  have q1 := hide (fun w => rreqLine_any me ta mi h1 h2 w)
  have q2 := hide (fun w => rstatLine_any mi st re h3 w)
  unfold msgV
  have HB := hide ((Below.refl w.heap.size w).alloc (Nat.le_refl _) (.cells #[.string me, .string ta, .int .i64 st, .string re, .int .i64 mi, .slice ao n1 c1, .string bo, .slice bo' n2 c2] 24))
  cases e1 : me.toList.isEmpty
  · by_cases e2 : st = 0 ∧ re.toList.isEmpty = true
    · obtain ⟨rfl, e3⟩ := e2
      have hs := Lib.hid (show lineS me ta re 0 mi = rlS me.data.toList ta.data.toList mi by unfold lineS; rw [e1, if_neg (by decide), if_pos ⟨rfl, e3⟩])
      generalize (rlS me.data.toList ta.data.toList mi) = X at q1 hs
      obtain ⟨x, hx⟩ : ∃ x, ofL X.1 = x := ⟨_, rfl⟩
      obtain ⟨n, hn⟩ : ∃ n, X.2 = n := ⟨_, rfl⟩
      rw [hx, hn] at q1
      have HX := Lib.hid hx
      have HN := Lib.hid hn
      clear hx hn
      go_enter Tryz.func56, Tryz.ntmps56
      go_wp2_with fail
      refine (unhide q1 _).mono ?_; rintro e w1 ⟨rfl, hb1⟩
      have HB1 := hide ((unhide HB).trans (hb1.mono (unhide HB).size))
      clear hb1
      go_wp2_with fail
      go_ret2
      exact line_at hs.out HX.out HN.out (unhide HB1)
    · have hs := Lib.hid (show lineS me ta re st mi = ([], 4) by unfold lineS; rw [e1, if_neg (by decide), if_neg e2])
      by_cases e3 : st = 0
      · subst e3
        have e4 : re.toList.isEmpty = false := by
          cases hx : re.toList.isEmpty
          · rfl
          · exact absurd ⟨rfl, hx⟩ e2
        clear e2
        go_enter Tryz.func56, Tryz.ntmps56
        go_wp2_with fail
        go_ret2
        exact line_bad hs.out (unhide HB)
      · have e4 : (st != 0) = true := by rw [bne_iff_ne]; exact e3
        clear e2 e3
        go_enter Tryz.func56, Tryz.ntmps56
        go_wp2_with fail
        go_ret2
        exact line_bad hs.out (unhide HB)
  · cases e2 : ta.toList.isEmpty
    · have hs := Lib.hid (show lineS me ta re st mi = ([], 4) by unfold lineS; rw [e1, if_pos rfl, e2, if_neg (by decide)])
      go_enter Tryz.func56, Tryz.ntmps56
      go_wp2_with fail
      go_ret2
      exact line_bad hs.out (unhide HB)
    · have hs := Lib.hid (show lineS me ta re st mi = slS mi st re.data.toList by unfold lineS; rw [e1, if_pos rfl, e2, if_pos rfl])
      generalize (slS mi st re.data.toList) = X at q2 hs
      obtain ⟨x, hx⟩ : ∃ x, ofL X.1 = x := ⟨_, rfl⟩
      obtain ⟨n, hn⟩ : ∃ n, X.2 = n := ⟨_, rfl⟩
      rw [hx, hn] at q2
      have HX := Lib.hid hx
      have HN := Lib.hid hn
      clear hx hn
      go_enter Tryz.func56, Tryz.ntmps56
      go_wp2_with fail
      refine (unhide q2 _).mono ?_; rintro e w1 ⟨rfl, hb1⟩
      have HB1 := hide ((unhide HB).trans (hb1.mono (unhide HB).size))
      clear hb1
      go_wp2_with fail
      go_ret2
      exact line_at hs.out HX.out HN.out (unhide HB1)
end Go.Proofs.YtbpopmbabckojaaGreatDoor.Sp

/- Regions that draw their order and hold calls that make memory: reads are taken as early as may be, everything else one by one, each in the world at hand. -/
namespace Go.Proofs.YtbpopmbabckojaaGreatDoor.Reg
open Go.RowKit Go

section
variable {P : Program} {ops : Array Oper} {md : Region.Mode} {S : World → Prop} {Q : Exit → Act → World → Prop}

/-- What hands back a value, whatever it is, and enters no function. -/
def readKind : Op → Bool
  | .move _ | .assign _ | .pick _ _ _ | .load _ _ | .binOp _ _ _ _ _ | .unOp _ _ _ | .fieldAddr _ _ _ | .field _ _ _ | .indexAddr _ _ _ | .index _ _ _ | .extract _ _ | .slice _ _ _ _ _ => true
  | .call c => match c.callee with
    | .builtin .len => true
    | _ => false
  | _ => false

theorem v_only {s : Sem Value} {w w1 : World} {n : Next} (h : (do pure (Next.value (← s)) : Sem Next).run P w = .ok n w1) : ∃ u, n = .value u := by
  rw [Sem.run_bind] at h
  cases hs : s.run P w with
  | ok u w2 =>
    rw [hs] at h
    simp [Result.andThen, Sem.run_pure] at h
    exact ⟨u, h.1.symm⟩
  | halt x w2 =>
    rw [hs] at h
    simp [Result.andThen] at h

theorem read_only {o : Oper} (hp : readKind o.op = true) {ρ : Operand → Value} {n : Next} {w w1 : World} (h : (execOp ρ o).run P w = .ok n w1) : ∃ u, n = .value u := by
  obtain ⟨dst, op, type, pos, after, guard⟩ := o
  cases op <;> simp only [readKind, Bool.false_eq_true] at hp
  case move x => exact v_only (P := P) (s := pure (ρ x)) h
  case assign x => exact v_only (P := P) (s := pure (ρ x)) h
  case pick c a b => exact v_only (P := P) (s := do pure (if ← asBool (ρ c) then ρ a else ρ b)) (by simpa [execOp] using h)
  case load t a => exact v_only h
  case binOp op t x y z => exact v_only h
  case unOp op t x => exact v_only h
  case fieldAddr a b c => exact v_only h
  case field a b c => exact v_only h
  case indexAddr a b c => exact v_only h
  case index a b c => exact v_only h
  case extract a b => exact v_only h
  case slice a b c d e => exact v_only h
  case call c =>
    obtain ⟨callee, args, at_⟩ := c
    cases callee <;> simp only [Bool.false_eq_true] at hp
    rename_i b
    cases b <;> simp only [Bool.false_eq_true] at hp
    simp only [execOp, resolve, pure_bind, invoke, builtin] at h
    exact v_only h

/-- What is quiet and a read yields. -/
theorem read_yields {o : Oper} {v : Value} {a : Act} (hp : readKind o.op = true) (h : YieldsIn P ops S o v a) : YieldsIf P ops S o v a := by
  rcases h with ⟨hw, hq⟩ | h
  · refine .inl ⟨hw, fun w hS => ?_⟩
    have h1 := hq w hS
    unfold Oper.quietAt at h1
    generalize hr : (execOp a.eval o).run P w = r at h1
    cases r with
    | ok n w1 =>
      obtain ⟨u, rfl⟩ := read_only hp hr
      simp only [Oper.quietUpon] at h1
      obtain ⟨rfl, rfl⟩ := h1
      rfl
    | halt x w1 => simp only [Oper.quietUpon] at h1
  · exact .inr h

/-- What is asked behind one operation, no way out but the plain one. -/
def Then (S : World → Prop) (K : Act → World → Prop) (e : Exit) (a : Act) (w : World) : Prop := e = .normal ∧ S w ∧ K a w

/-- The walk in the order of the list. -/
def wpMix (P : Program) (ops : Array Oper) (S : World → Prop) (Q : Exit → Act → World → Prop) : List Oper → Act → World → Prop
  | [], a, w => Q .normal a w
  | o :: l, a, w => if readKind o.op = true then ∃ v, YieldsIf P ops S o v a ∧ wpMix P ops S Q l (a.put o.dst v) w else wpList P ops (Then S (wpMix P ops S Q l)) [o] a w

theorem wpOp_of_then {i : Nat} {o : Oper} {K : Act → World → Prop} {a : Act} {w : World} (hi : ops[i]? = some o) (h : wpList P ops (Then S K) [o] a w) : wpOp P ops Q i (fun a' w' => S w' ∧ K a' w') a w := by
  unfold wpOp
  simp only [hi]
  simp only [wpList] at h
  split
  · rename_i hw
    simp only [hw, if_true] at h
    rcases h with h | ⟨_, h⟩
    · refine .inl ?_
      unfold Oper.wp at *
      generalize (execOp a.eval o).run P w = r at *
      cases r with
      | ok n w' =>
        cases n <;> simp only [Oper.upon] at h ⊢
        case value u => exact h.2
        case skip => exact h.2
        case defer d => exact h.2
        case enter f args =>
          refine Calls.mono h fun e w'' he => ?_
          cases e with
          | returned u => exact he.2
          | panicked c => obtain ⟨he, _⟩ := he; cases he
          | outgrown => obtain ⟨_, _, he, _⟩ := he; cases he
        case row row args => exact Rows.mono h fun u w'' he => he.2
      | halt x w' =>
        cases x <;> simp only [Oper.upon] at h ⊢
        case panic u => obtain ⟨he, _⟩ := h; cases he
    · obtain ⟨_, _, he, _⟩ := h
      cases he
  · rename_i hw
    simp only [hw] at h
    exact h.2

/-- The order π may be walked: a read may come up and is apart from all others; whatever else comes up alone. -/
def mixB (md : Region.Mode) (ops : Array Oper) : List Nat → Array Bool → Bool
  | [], listed => (Region.ready md ops listed).isEmpty
  | i :: π, listed => (match ops[i]? with
    | some o => if readKind o.op then (Region.ready md ops listed).contains i && Region.free md ops listed i else decide (Region.ready md ops listed = [i])
    | none => false) && mixB md ops π (listed.setIfInBounds i true)
def pickL (l : List Oper) : List Nat → List Oper
  | [] => []
  | i :: π => match l[i]? with
    | some o => o :: pickL l π
    | none => pickL l π

theorem wpAnyH_mix {l : List Oper} (hsel : Region.noSelect l.toArray = true) (hQ : ∀ c a d v w, Q (.panic c) (Act.put a d v) w → Q (.panic c) a w) :
    ∀ (π : List Nat) (f : Nat) (listed : Array Bool) (a : Act) (w : World), mixB md l.toArray π listed = true → S w → π.length ≤ f → wpMix P l.toArray S Q (pickL l π) a w → wpAnyH P md l.toArray Q S f listed a w
  | [], f, listed, a, w, hB, _, _, h => wpAnyH_done (by simpa [mixB] using hB) h f
  | i :: π, 0, _, _, _, _, _, hl, _ => absurd hl (by simp)
  | i :: π, f + 1, listed, a, w, hB, hS, hl, h => by
    simp only [mixB, Bool.and_eq_true] at hB
    obtain ⟨hB, hB'⟩ := hB
    cases hi : l.toArray[i]? with
    | none => simp [hi] at hB
    | some o =>
      simp only [hi] at hB
      have hi' : l[i]? = some o := by simpa using hi
      simp only [pickL, hi', wpMix] at h
      by_cases hr : readKind o.op = true
      · simp only [hr, if_true, Bool.and_eq_true] at hB h
        obtain ⟨v, hy, h⟩ := h
        exact wpAnyH_take hi hsel hB.2 hB.1 (fun c a w => hQ c a _ _ w) hy hS (wpAnyH_mix hsel hQ π f _ _ w hB' hS (by simpa using hl) h)
      · simp only [hr, Bool.false_eq_true, if_false, decide_eq_true_eq] at hB h
        refine wpAnyH_all hB (by simp) fun j hj => ?_
        rw [List.mem_singleton] at hj
        subst hj
        exact wpOp_mono (fun a' w' h' => ⟨h'.1, wpAnyH_mix hsel hQ π f _ _ w' hB' h'.1 (by simpa using hl) h'.2⟩) (wpOp_of_then hi h)

theorem region_mix {id : Nat} {a : Act} {w : World} {l : List Oper} (π : List Nat) (hm : P.follows .mixedOrders = true) (hsel : Region.noSelect l.toArray = true) (hB : mixB .any l.toArray π (Array.replicate l.toArray.size false) = true) (hn : π.length ≤ l.toArray.size)
    (hQ : ∀ c a d v w, Q (.panic c) (Act.put a d v) w → Q (.panic c) a w) (h : wpMix P l.toArray (fun w' => ∃ x : More w, w' = x.w) Q (pickL l π) a w.drew) : (Code.region id l.toArray true).wp P Q a w :=
  wp_region_held hm (wpAnyH_mix hsel hQ π _ _ a _ hB ⟨⟨w.drew, (Below.refl _ _).drew⟩, rfl⟩ hn h)

/-- .. a part of the order at a time. -/
def mixP (md : Region.Mode) (ops : Array Oper) : List Nat → Array Bool → Bool
  | [], _ => true
  | i :: π, listed => (match ops[i]? with
    | some o => if readKind o.op then (Region.ready md ops listed).contains i && Region.free md ops listed i else decide (Region.ready md ops listed = [i])
    | none => false) && mixP md ops π (listed.setIfInBounds i true)
def lay (listed : Array Bool) (π : List Nat) : Array Bool := π.foldl (fun l i => l.setIfInBounds i true) listed
theorem mixB_app {π2 : List Nat} : ∀ {π1 : List Nat} {listed : Array Bool}, mixP md ops π1 listed = true → mixB md ops π2 (lay listed π1) = true → mixB md ops (π1 ++ π2) listed = true
  | [], _, _, h => h
  | i :: π1, listed, h1, h2 => by
    simp only [mixP, Bool.and_eq_true] at h1
    show mixB md ops (i :: (π1 ++ π2)) listed = true
    simp only [mixB, Bool.and_eq_true]
    exact ⟨h1.1, mixB_app h1.2 h2⟩
/-- the regions of a text that draw their order -/
def regs : Code → List (List Oper)
  | .region _ ops d => if d then [ops.toList] else []
  | .seq a b => regs a ++ regs b
  | .cond _ a b => regs a ++ regs b
  | .block _ b => regs b
  | .loop b => regs b
  | .scope b => regs b
  | .rangeFunc _ _ a b => regs a ++ regs b
  | _ => []
def regOf (f : Func) (k : Nat) : List Oper := ((f.body.map regs).getD []).getD k []
theorem region_mix2 {id : Nat} {a : Act} {w : World} {l : List Oper} (l0 : List Oper) (π : List Nat) (hm : P.follows .mixedOrders = true) (hl : l = l0) (hsel : Region.noSelect l0.toArray = true) (hB : mixB .any l0.toArray π (Array.replicate l0.toArray.size false) = true) (hn : π.length ≤ l0.toArray.size)
    (hQ : ∀ c a d v w, Q (.panic c) (Act.put a d v) w → Q (.panic c) a w) (h : wpMix P l.toArray (fun w' => ∃ x : More w, w' = x.w) Q (pickL l π) a w.drew) : (Code.region id l.toArray true).wp P Q a w := by
  subst hl
  exact region_mix π hm hsel hB hn hQ h

/-- Some reads in a row. -/
theorem mix_reads {L : Act → Prop} : ∀ {l1 l2 : List Oper} {a : Act} {w : World}, (l1.all fun o => readKind o.op) = true → wpQuiet P ops S L l1 a → (∀ a', L a' → wpMix P ops S Q l2 a' w) → wpMix P ops S Q (l1 ++ l2) a w
  | [], _, a, _, _, h, k => k a h
  | o :: l1, l2, a, w, hr, h, k => by
    simp only [List.all_cons, Bool.and_eq_true] at hr
    have hq : ∃ v, YieldsIn P ops S o v a ∧ wpQuiet P ops S L l1 (a.put o.dst v) := by
      simp only [wpQuiet] at h
      by_cases hw : Region.wanted o (yielded ops a.tmps) = true
      · simp only [hw, if_true] at h
        obtain ⟨v, h1, h2⟩ := h
        exact ⟨v, .inl ⟨hw, h1⟩, h2⟩
      · simp only [hw] at h
        exact ⟨undef, .inr ⟨by simpa using hw, rfl⟩, h⟩
    obtain ⟨v, hy, h⟩ := hq
    show wpMix P ops S Q (o :: (l1 ++ l2)) a w
    simp only [wpMix, hr.1, if_true]
    exact ⟨v, read_yields hr.1 hy, mix_reads hr.2 h k⟩
theorem mix_one {o : Oper} {l : List Oper} {a : Act} {w : World} (hr : readKind o.op = false) (h : wpList P ops (Then S (wpMix P ops S Q l)) [o] a w) : wpMix P ops S Q (o :: l) a w := by
  simp only [wpMix, hr, Bool.false_eq_true, if_false]
  exact h
theorem mix_take {l : List Oper} {a : Act} {w : World} (n : Nat) (hr : ((l.take n).all fun o => readKind o.op) = true) (h : wpQuiet P ops S (fun a' => wpMix P ops S Q (l.drop n) a' w) (l.take n) a) : wpMix P ops S Q l a w := by
  have := mix_reads (Q := Q) (w := w) hr h (fun _ k => k)
  rwa [List.take_append_drop] at this
theorem mix_nil {a : Act} {w : World} (h : Q .normal a w) : wpMix P ops S Q [] a w := h
end
end Go.Proofs.YtbpopmbabckojaaGreatDoor.Reg

/- The parts between commas, by the program. -/
namespace Go.Proofs.YtbpopmbabckojaaGreatDoor.Sp
open Go.RowKit Sl


/-- the three boxes of Split and what the row of parts holds -/
structure PutSt (w0 w : World) (s : ByteArray) (fr : Nat) (ps : List (List UInt8)) : Prop where
  bel : Below w0.heap.size w0 w
  h1 : w.heap[w0.heap.size]? = some (.cells #[.string s] 9 (0, 0))
  h2 : ∃ v, w.heap[w0.heap.size + 1]? = some (.cells #[v] 51 (0, 0)) ∧ w.ownsRow (w0.heap.size + 2 + 1) 9 1 v ps.length (strV (ps.map ofL))
  h3 : w.heap[w0.heap.size + 2]? = some (.cells #[.int .i64 fr] 3 (0, 0))

theorem PutSt.lt {w0 w : World} {s : ByteArray} {fr : Nat} {ps : List (List UInt8)} (h : PutSt w0 w s fr ps) : w0.heap.size + 2 < w.heap.size := lt_of_block h.h3
theorem PutSt.kept {w0 w w' : World} {s : ByteArray} {fr : Nat} {ps : List (List UInt8)} (h : PutSt w0 w s fr ps) (hb : Below w.heap.size w w') : PutSt w0 w' s fr ps := by
  have hl := h.lt
  refine ⟨h.bel.trans (hb.mono (by omega)), (hb.block _ (by omega)).trans h.h1, ?_, (hb.block _ (by omega)).trans h.h3⟩
  obtain ⟨v, e, ho⟩ := h.h2
  exact ⟨v, (hb.block _ (by omega)).trans e, ((⟨ho, Below.refl _ _, by omega⟩ : Own w w _ _ _ _ _ _).call hb).own⟩

theorem keep_snoc (ps : List (List UInt8)) (p : List UInt8) (h : (trimW p).isEmpty = false) : strV (ps.map ofL) ++ [.string (ofL (trimW p))] = strV ((ps ++ keep [p]).map ofL) := by
  rw [keep_one, if_neg (by rw [h]; decide), List.map_append, strV_app]; rfl


def byteI (s : ByteArray) (i : Nat) : UInt8 := s.data.toList.getD i 0
theorem at_get (s : ByteArray) (i : Nat) (h : i < s.size) : s.data.toList[i]'(by simpa using h) = s[i] := rfl


/-- where a reader of parts stands; behind the end if the last byte was a backslash in quotes -/
def St (l : List UInt8) (k fr : Nat) (q : Bool) (done : List (List UInt8)) : Prop :=
  At l fr k q done ∨ (k = l.length + 1 ∧ fr ≤ l.length ∧ pieces false [] l = done ++ [l.drop fr])
theorem St.at {l : List UInt8} {k fr : Nat} {q : Bool} {done : List (List UInt8)} (h : St l k fr q done) (hk : k < l.length) : At l fr k q done := by
  rcases h with h | ⟨h, _⟩
  · exact h
  · omega
theorem St.end {l : List UInt8} {k fr : Nat} {q : Bool} {done : List (List UInt8)} (h : St l k fr q done) (hk : l.length ≤ k) : fr ≤ l.length ∧ pieces false [] l = done ++ [l.drop fr] := by
  rcases h with h | ⟨_, h1, h2⟩
  · have e : k = l.length := by have := h.lt; omega
    subst e
    exact ⟨h.le, h.stop⟩
  · exact ⟨h1, h2⟩
theorem St.few {l : List UInt8} {k fr : Nat} {q : Bool} {done : List (List UInt8)} (h : St l k fr q done) : (keep done).length ≤ l.length + 1 := by
  have h1 : (keep done).length ≤ done.length := by
    unfold keep
    refine Nat.le_trans (List.length_filter_le _ _) ?_
    rw [List.length_map]; exact Nat.le_refl _
  have h2 := pieces_len l l.length false [] l (Nat.le_refl _)
  rcases h with h | ⟨_, _, h⟩
  · rw [h.eq, List.length_append] at h2; omega
  · rw [h, List.length_append] at h2; omega
theorem St.esc {l : List UInt8} {k fr : Nat} {done : List (List UInt8)} (h : St l k fr true done) (hk : k < l.length) (hc : l[k] = 92) : St l (k + 1 + 1) fr true done := by
  have ha := h.at hk
  rcases Nat.lt_or_ge (k + 1) l.length with h1 | h1
  · exact .inl (ha.esc h1 (by simp [hc]))
  · exact .inr ⟨by omega, by have := ha.le; omega, ha.esc_end hk (by omega) (by simp [hc])⟩
theorem St.quote {l : List UInt8} {k fr : Nat} {q : Bool} {done : List (List UInt8)} (h : St l k fr q done) (hk : k < l.length) (hc : l[k] = 34) : St l (k + 1) fr (!q) done :=
  .inl ((h.at hk).quote hk (by rw [hc]; cases q <;> decide) (by rw [hc]; decide))
theorem St.comma {l : List UInt8} {k fr : Nat} {done : List (List UInt8)} (h : St l k fr false done) (hk : k < l.length) (hc : l[k] = 44) : St l (k + 1) (k + 1) false (done ++ [(l.drop fr).take (k - fr)]) :=
  .inl ((h.at hk).comma hk (by simp) (by rw [hc]; decide) (by rw [hc]; decide))
theorem St.other {l : List UInt8} {k fr : Nat} {q : Bool} {done : List (List UInt8)} (h : St l k fr q done) (hk : k < l.length) (h1 : q = true → l[k] ≠ 92) (h2 : l[k] ≠ 34) (h3 : q = false → l[k] ≠ 44) : St l (k + 1) fr q done := by
  refine .inl ((h.at hk).other hk ?_ ?_ ?_)
  · cases q
    · simp
    · simpa using h1 rfl
  · simpa using h2
  · cases q
    · simpa using h3 rfl
    · simp


theorem put_start (w : World) (s : ByteArray) : PutSt w (((w.alloc (.cells #[.string s] 9)).alloc (.cells #[.slice none 0 0] 51)).alloc (.cells #[.int .i64 0] 3)) s 0 (keep []) := by
  have s1 : (w.alloc (.cells #[.string s] 9)).heap.size = w.heap.size + 1 := by simp
  have s2 : ((w.alloc (.cells #[.string s] 9)).alloc (.cells #[.slice none 0 0] 51)).heap.size = w.heap.size + 2 := by simp
  refine ⟨?_, ?_, ⟨.slice none 0 0, ?_, World.ownsRow_nil _ _ _ _⟩, ?_⟩
  · exact (((Below.refl _ _).alloc (Nat.le_refl _) _).alloc (by omega) _).alloc (by omega) _
  · rw [Below.heap_alloc _ _ _ (by omega), Below.heap_alloc _ _ _ (by omega)]; exact alloc_at _ _
  · rw [Below.heap_alloc _ _ _ (by omega), ← s1]; exact alloc_at _ _
  · rw [← s2]; exact alloc_at _ _


end Go.Proofs.YtbpopmbabckojaaGreatDoor.Sp

/- The parts between commas, by the reference. -/
namespace Go.Proofs.YtbpopmbabckojaaGreatDoor.Sp
open Go.RowKit Sl

/-- where the reference's reader stands -/
def St2 (l : List UInt8) (k fr : Nat) (q : Bool) (done : List (List UInt8)) : Prop :=
  At l fr k q done ∨ (k = l.length + 1 ∧ fr < l.length ∧ pieces false [] l = done ++ [l.drop fr]) ∨ (k = l.length + 1 ∧ l.length ≤ fr ∧ pieces false [] l = done)
theorem St2.at {l : List UInt8} {k fr : Nat} {q : Bool} {done : List (List UInt8)} (h : St2 l k fr q done) (hk : k ≤ l.length) : At l fr k q done := by
  rcases h with h | ⟨h, _⟩ | ⟨h, _⟩
  · exact h
  · omega
  · omega
theorem St2.end {l : List UInt8} {k fr : Nat} {q : Bool} {done : List (List UInt8)} (h : St2 l k fr q done) (hk : l.length < k) : (fr < l.length ∧ pieces false [] l = done ++ [l.drop fr]) ∨ (l.length ≤ fr ∧ pieces false [] l = done) := by
  rcases h with h | ⟨_, h⟩ | ⟨_, h⟩
  · have := h.lt; omega
  · exact .inl h
  · exact .inr h
theorem St2.few {l : List UInt8} {k fr : Nat} {q : Bool} {done : List (List UInt8)} (h : St2 l k fr q done) : (keep done).length ≤ l.length + 1 := by
  have h1 : (keep done).length ≤ done.length := by
    unfold keep
    refine Nat.le_trans (List.length_filter_le _ _) ?_
    rw [List.length_map]; exact Nat.le_refl _
  have h2 := pieces_len l l.length false [] l (Nat.le_refl _)
  rcases h with h | ⟨_, _, h⟩ | ⟨_, _, h⟩
  · rw [h.eq, List.length_append] at h2; omega
  · rw [h, List.length_append] at h2; omega
  · rw [h] at h2; omega
theorem At.esc2 {l : List UInt8} {k fr : Nat} {done : List (List UInt8)} (h : At l fr k true done) (hk : k < l.length) (hc : l[k] = 92) : St2 l (k + 1 + 1) fr true done := by
  rcases Nat.lt_or_ge (k + 1) l.length with h1 | h1
  · exact .inl (h.esc h1 (by simp [hc]))
  · exact .inr (.inl ⟨by omega, by have := h.le; omega, h.esc_end hk (by omega) (by simp [hc])⟩)
theorem At.last2 {l : List UInt8} {k fr : Nat} {q : Bool} {done : List (List UInt8)} (h : At l fr k q done) (hk : k = l.length) : St2 l (k + 1) (k + 1) q (done ++ [(l.drop fr).take (k - fr)]) := by
  subst hk
  refine .inr (.inr ⟨rfl, by omega, ?_⟩)
  rw [h.stop, List.take_of_length_le (by rw [List.length_drop]; exact Nat.le_refl _)]

/-- what the row of parts holds -/
def RowSt (w wr : World) (v : Value) (done : List (List UInt8)) : Prop := Own w wr w.heap.size 9 1 v (keep done).length (strV ((keep done).map ofL))
theorem RowSt.form {w wr : World} {v : Value} {done : List (List UInt8)} (h : RowSt w wr v done) : ∃ ao cap, v = .slice ao (keep done).length cap := (Rd.own h.own).form
theorem RowSt.same {w wr : World} {v : Value} {done : List (List UInt8)} {p : List UInt8} (h : RowSt w wr v done) (hp : (trimW p).isEmpty = true) : RowSt w wr v (done ++ [p]) := by
  unfold RowSt
  rw [keep_app, keep_one, if_pos hp, List.append_nil]; exact h
theorem RowSt.more {w wr : World} {v : Value} {done : List (List UInt8)} {p : List UInt8} (hp : (trimW p).isEmpty = false) (h : Own w wr w.heap.size 9 1 v ((keep done).length + 1) (strV ((keep done).map ofL) ++ [.string (ofL (trimW p))])) : RowSt w wr v (done ++ [p]) := by
  unfold RowSt
  rw [keep_app, ← keep_snoc _ _ hp]
  have : (keep done ++ keep [p]).length = (keep done).length + 1 := by rw [keep_one, if_neg (by rw [hp]; decide)]; simp
  rw [this]; exact h

theorem part_empty {x p : ByteArray} {l : List UInt8} (hx : x.data.toList = l) (hp : ofL (trimW x.data.toList) = p) : p.toList.isEmpty = (trimW l).isEmpty := by
  rw [← hp, Lib.toList_data, ofL_data, hx]

theorem ofS (s : ByteArray) : strV (splitB s) = strV ((splitS s.data.toList).map ofL) := rfl
theorem row_done {w wr : World} {v : Value} {done : List (List UInt8)} {s : ByteArray} (h : RowSt w wr v done) (hd : pieces false [] s.data.toList = done) : wr.ownsRow w.heap.size 9 1 v (splitB s).length (strV (splitB s)) := by
  unfold splitB splitS
  rw [hd, List.length_map]
  exact h.own

set_option maxHeartbeats 4000000 in
theorem rsplit_any (s : ByteArray) (hs : s.size ≤ 100000) (w : World) :
    Calls Tryz.prog 154 #[.string s] w fun e w' => ∃ v, e = .returned v ∧ w'.ownsRow w.heap.size 9 1 v (splitB s).length (strV (splitB s)) ∧ Below w.heap.size w w' := by
  have hl : s.data.toList.length = s.size := by simp
  have HL := Lib.hid hl
  clear hl
  go_enter Tryz.func154, Tryz.ntmps154
  go_wp2_with fail
  go_loopw [3, 4, 5, 6] (fun v f q i wr => ∃ (k fr : Nat) (b : Bool) (done : List (List UInt8)), i = .int .i64 k ∧ f = .int .i64 fr ∧ q = .bool b ∧ k ≤ s.size + 1 ∧ fr ≤ k ∧ St2 s.data.toList k fr b done ∧ RowSt w wr v done) (fun _ _ _ i _ => s.size + 1 - (intOf i).toNat)
  case atStart => exact ⟨0, 0, false, [], rfl, rfl, rfl, by omega, Nat.le_refl _, .inl (At.start _), Own.start _ _ (Nat.le_refl _) _ _⟩
  case round =>
    obtain ⟨k, fr, b, done, rfl, rfl, rfl, hk, hfk, hst, hrow⟩ := hrel
    obtain ⟨ao, cp, rfl⟩ := hrow.form
    have HS := Lib.hid hst
    have HO := hide hrow
    have hfew := hst.few
    rw [HL.out] at hfew
    clear hst hrow
    rcases Nat.lt_or_ge s.size k with hgt | hle
    · have hend := HS.out.end (by rw [HL.out]; exact hgt)
      rcases hend with ⟨hf, hd⟩ | ⟨hf, hd⟩
      · rw [HL.out] at hf
        have HD := Lib.hid hd
        clear hd HS
        obtain ⟨p, hp⟩ : ∃ p : ByteArray, ofL (trimW (s.extract fr s.size).data.toList) = p := ⟨_, rfl⟩
        have HP := Lib.hid hp
        clear hp
        have hx : (s.extract fr s.size).data.toList = (s.data.toList.drop fr).take (s.size - fr) := Lib.extract_data s fr s.size
        have hxs : (s.extract fr s.size).size ≤ 9223372036854775807 := by
          rw [size_list hx, List.length_take, List.length_drop]; simp; omega
        have hpe := part_empty hx HP.out
        have HX := Lib.hid hx
        have HE := Lib.hid hpe
        clear hx hpe
        have hfin : (s.data.toList.drop fr).take (s.size - fr) = s.data.toList.drop fr := List.take_of_length_le (by rw [List.length_drop, HL.out]; exact Nat.le_refl _)
        have HM : Hid (s.size = s.size) := Lib.hid rfl
        have HFI := Lib.hid hfin
        clear hfin
        rcases ne_case p with ⟨e1, e2⟩ | ⟨e1, e2⟩
        · have hr := hide ((unhide HO).same (p := (s.data.toList.drop fr).take (s.size - fr)) (by rw [← HE.out, e1]; rfl))
          go_wp2_with (go_at_call 98; (try rw [HM.out]); refine (rtrim_any _ hxs _).mono ?_; rintro e w1 ⟨he, rfl⟩; rw [HP.out] at he; subst he)
          go_ret
          refine ⟨_, rfl, row_done (unhide hr) (by rw [HFI.out]; exact HD.out), (unhide hr).bel⟩
        · have hne : (trimW ((s.data.toList.drop fr).take (s.size - fr))).isEmpty = false := by rw [← HE.out]; exact e1
          have hpp : p = ofL (trimW ((s.data.toList.drop fr).take (s.size - fr))) := by rw [← HX.out]; exact HP.out.symm
          have HN := Lib.hid hne
          have HPP := Lib.hid hpp
          clear hne hpp
          go_wp2_with (first | (at_builtin; refine wpList_pushS (w0 := w) rfl _ _ rfl w.heap.size _ _ _ rfl (unhide HO) p rfl _ rfl (by omega) ?_; intro v' w2 h2; obtain ⟨ao', cp', rfl⟩ := (Rd.own h2.own).form; have H2 := hide h2; clear h2) | (go_at_call 98; (try rw [HM.out]); refine (rtrim_any _ hxs _).mono ?_; rintro e w1 ⟨he, rfl⟩; rw [HP.out] at he; subst he))
          have hr := RowSt.more HN.out (by rw [← HPP.out]; exact unhide H2)
          go_ret
          refine ⟨_, rfl, row_done hr (by rw [HFI.out]; exact HD.out), hr.bel⟩
      · rw [HL.out] at hf
        have HD := Lib.hid hd
        clear hd HS
        go_wp2_with fail
        go_ret
        refine ⟨_, rfl, row_done (unhide HO) HD.out, (unhide HO).bel⟩
    · have ha := HS.out.at (by rw [HL.out]; exact hle)
      have HA := Lib.hid ha
      clear ha HS
      obtain ⟨p, hp⟩ : ∃ p : ByteArray, ofL (trimW (s.extract fr k).data.toList) = p := ⟨_, rfl⟩
      have HP := Lib.hid hp
      clear hp
      have hx : (s.extract fr k).data.toList = (s.data.toList.drop fr).take (k - fr) := Lib.extract_data s fr k
      have hxs : (s.extract fr k).size ≤ 9223372036854775807 := by
        rw [size_list hx, List.length_take, List.length_drop]; simp; omega
      have hpe := part_empty hx HP.out
      have HX := Lib.hid hx
      have HE := Lib.hid hpe
      clear hx hpe
      have hm : (min (k : Int) (s.size : Int)).toNat = k := by omega
      have HM := Lib.hid hm
      clear hm
      rcases Nat.lt_or_ge k s.size with hlt | hge
      · have hlt' : k < s.data.toList.length := by rw [HL.out]; exact hlt
        by_cases h34 : (s[k].toNat : Int) = 34
        · have hc : s.data.toList[k]'hlt' = 34 := u8_eq h34
          have HQ := hide (HA.out.quote hlt' (by rw [hc]; cases b <;> decide) (by rw [hc]; decide))
          clear hc
          cases b
          all_goals
            go_wp2_with fail
            go_roundw
            case rel => exact ⟨k + 1, fr, _, done, by go_num, rfl, rfl, by omega, by omega, .inl (unhide HQ), unhide HO⟩
            case measure => simp [intOf]; omega
        · have n34 : s.data.toList[k]'hlt' ≠ 34 := u8_ne (by decide) h34
          cases b
          · by_cases h44 : (s[k].toNat : Int) = 44
            · have hc : s.data.toList[k]'hlt' = 44 := u8_eq h44
              have HQ : Hid (St2 s.data.toList (k + 1) (k + 1) false (done ++ [(s.data.toList.drop fr).take (k - fr)])) := hide (.inl (HA.out.comma hlt' (by simp) (by rw [hc]; decide) (by rw [hc]; decide)))
              clear hc n34
              rcases ne_case p with ⟨e1, e2⟩ | ⟨e1, e2⟩
              · have hr := hide ((unhide HO).same (p := (s.data.toList.drop fr).take (k - fr)) (by rw [← HE.out, e1]; rfl))
                go_wp2_with (go_at_call 98; (try rw [HM.out]); refine (rtrim_any _ hxs _).mono ?_; rintro e w1 ⟨he, rfl⟩; rw [HP.out] at he; subst he)
                go_roundw
                case rel => exact ⟨k + 1, k + 1, _, _, by go_num, by go_num, rfl, by omega, Nat.le_refl _, unhide HQ, unhide hr⟩
                case measure => simp [intOf]; omega
              · have hne : (trimW ((s.data.toList.drop fr).take (k - fr))).isEmpty = false := by rw [← HE.out]; exact e1
                have hpp : p = ofL (trimW ((s.data.toList.drop fr).take (k - fr))) := by rw [← HX.out]; exact HP.out.symm
                have HN := Lib.hid hne
                have HPP := Lib.hid hpp
                clear hne hpp
                go_wp2_with (first | (at_builtin; refine wpList_pushS (w0 := w) rfl _ _ rfl w.heap.size _ _ _ rfl (unhide HO) p rfl _ rfl (by omega) ?_; intro v' w2 h2; obtain ⟨ao', cp', rfl⟩ := (Rd.own h2.own).form; have H2 := hide h2; clear h2) | (go_at_call 98; (try rw [HM.out]); refine (rtrim_any _ hxs _).mono ?_; rintro e w1 ⟨he, rfl⟩; rw [HP.out] at he; subst he))
                have hr := RowSt.more HN.out (by rw [← HPP.out]; exact unhide H2)
                go_roundw
                case rel => exact ⟨k + 1, k + 1, _, _, by go_num, by go_num, rfl, by omega, Nat.le_refl _, unhide HQ, hr⟩
                case measure => simp [intOf]; omega
            · have HQ := hide ((HA.out.other hlt' (by simp) (by simpa using n34) (by simpa using (u8_ne (n := 44) (by decide) h44 : s.data.toList[k]'hlt' ≠ 44))))
              clear n34
              go_wp2_with fail
              go_roundw
              case rel => exact ⟨k + 1, fr, _, done, by go_num, rfl, rfl, by omega, by omega, .inl (unhide HQ), unhide HO⟩
              case measure => simp [intOf]; omega
          · by_cases h92 : (s[k].toNat : Int) = 92
            · have HQ := hide (HA.out.esc2 hlt' (u8_eq h92))
              clear n34
              go_wp2_with fail
              go_roundw
              case rel => exact ⟨k + 1 + 1, fr, _, done, by go_num, rfl, rfl, by omega, by omega, unhide HQ, unhide HO⟩
              case measure => simp [intOf]; omega
            · have HQ := hide ((HA.out.other hlt' (by simpa using (u8_ne (n := 92) (by decide) h92 : s.data.toList[k]'hlt' ≠ 92)) (by simpa using n34) (by simp)))
              clear n34
              go_wp2_with fail
              all_goals
                go_roundw
                case rel => exact ⟨k + 1, fr, _, done, by go_num, rfl, rfl, by omega, by omega, .inl (unhide HQ), unhide HO⟩
                case measure => simp [intOf]; omega
      · have e : k = s.size := by omega
        have HQ := hide (HA.out.last2 (by rw [HL.out]; exact e))
        have HEQ := Lib.hid e
        clear e
        rcases ne_case p with ⟨e1, e2⟩ | ⟨e1, e2⟩
        · have hr := hide ((unhide HO).same (p := (s.data.toList.drop fr).take (k - fr)) (by rw [← HE.out, e1]; rfl))
          go_wp2_with (go_at_call 98; (try rw [HM.out]); refine (rtrim_any _ hxs _).mono ?_; rintro e w1 ⟨he, rfl⟩; rw [HP.out] at he; subst he)
          go_roundw
          case rel => exact ⟨k + 1, k + 1, _, _, by go_num, by go_num, rfl, by omega, Nat.le_refl _, unhide HQ, unhide hr⟩
          case measure => simp [intOf]; omega
        · have hne : (trimW ((s.data.toList.drop fr).take (k - fr))).isEmpty = false := by rw [← HE.out]; exact e1
          have hpp : p = ofL (trimW ((s.data.toList.drop fr).take (k - fr))) := by rw [← HX.out]; exact HP.out.symm
          have HN := Lib.hid hne
          have HPP := Lib.hid hpp
          clear hne hpp
          go_wp2_with (first | (at_builtin; refine wpList_pushS (w0 := w) rfl _ _ rfl w.heap.size _ _ _ rfl (unhide HO) p rfl _ rfl (by omega) ?_; intro v' w2 h2; obtain ⟨ao', cp', rfl⟩ := (Rd.own h2.own).form; have H2 := hide h2; clear h2) | (go_at_call 98; (try rw [HM.out]); refine (rtrim_any _ hxs _).mono ?_; rintro e w1 ⟨he, rfl⟩; rw [HP.out] at he; subst he))
          have hr := RowSt.more HN.out (by rw [← HPP.out]; exact unhide H2)
          go_roundw
          case rel => exact ⟨k + 1, k + 1, _, _, by go_num, by go_num, rfl, by omega, Nat.le_refl _, unhide HQ, hr⟩
          case measure => simp [intOf]; omega
end Go.Proofs.YtbpopmbabckojaaGreatDoor.Sp
