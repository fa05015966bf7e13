/- kit: Same of texts, Pick, Times. -/
import Derived.Test.YtbhpcmbbbomknaaDoorS0
namespace Go.Proofs.YtbhpcmbbbomknaaDoor.Sp
open Go.RowKit Sl

def sameLS (A B : List ByteArray) : Bool := decide (A = B)
theorem take_ne {α : Type} {A B : List α} {k : Nat} (hA : k < A.length) (hB : k < B.length) (h : A[k] ≠ B[k]) : A ≠ B := by
  intro e; subst e; exact h rfl

set_option maxRecDepth 100000 in
set_option maxHeartbeats 2000000 in
theorem ksameS_any (u v : Value) (A B : List ByteArray) (hA : A.length ≤ 100000000) (hB : B.length ≤ 100000000) (w : World) (hu : Rd w u A.length 1 (strV A)) (hv : Rd w v B.length 1 (strV B)) :
    Calls Tryd.prog 15 #[u, v] w fun e w' => e = .returned (.bool (sameLS A B)) ∧ Below w.heap.size w w' := by
  obtain ⟨ao, cap, rfl⟩ := hu.form
  obtain ⟨bo, caq, rfl⟩ := hv.form
  have HU := hide hu
  have HV := hide hv
  clear hu hv
  by_cases hl : A.length = B.length
  · have HL := Lib.hid hl
    clear hl
    have hlen : (((A.length : Nat) : Int) != ((B.length : Nat) : Int)) = false := by rw [HL.out]; simp
    go_enter Tryd.func15, Tryd.ntmps15
    go_wp2_with fail
    go_loopw [5] (fun i wr => ∃ k : Nat, i = .int .i64 k ∧ k ≤ A.length ∧ A.take k = B.take k ∧ Below w.heap.size w wr) (fun i _ => A.length - (intOf i).toNat)
    case atStart => exact ⟨0, rfl, Nat.zero_le _, by simp, Below.refl _ _⟩
    case round =>
      obtain ⟨k, rfl, hk, hall, hbel⟩ := hrel
      have HA := Lib.hid hall
      have HB := hide hbel
      clear hall
      rcases Nat.lt_or_ge k A.length with hlt | hge
      · have hlt2 : k < B.length := by rw [← HL.out]; exact hlt
        obtain ⟨b, off, rfl, hb, c1⟩ := str_cell (unhide HU) k hlt
        obtain ⟨b2, off2, rfl, hb2, c2⟩ := str_cell (unhide HV) k hlt2
        have d1 := (hbel.cell (p := ⟨b, off + k, none⟩) hb).trans c1
        have d2 := (hbel.cell (p := ⟨b2, off2 + k, none⟩) hb2).trans c2
        have hbw : b < wr.heap.size := Nat.lt_of_lt_of_le hb hbel.size
        have hbw2 : b2 < wr.heap.size := Nat.lt_of_lt_of_le hb2 hbel.size
        clear c1 c2 hbel
        obtain ⟨x, hx⟩ : ∃ x, A[k] = x := ⟨_, rfl⟩
        obtain ⟨y, hy⟩ : ∃ y, B[k] = y := ⟨_, rfl⟩
        rw [hx] at d1
        rw [hy] at d2
        have HX := Lib.hid hx
        have HY := Lib.hid hy
        clear hx hy
        go_wp2_with fail
        refine Reg.region_more (by kernel_rfl) (by kernel_rfl) ?_
        repeat (go_big_quiet_step (fail))
        refine wpQuiet_nil ?_
        intro w9 hb9; obtain ⟨hc9, hf9, hz9⟩ := bcell hb9; (try simp at hz9)
        have HB9 := hide ((unhide HB).trans (hb9.mono (unhide HB).size))
        clear hb9 hc9 hf9
        cases hxy : (x.toList == y.toList)
        · have hT : sameLS A B = false := by
            unfold sameLS
            rw [decide_eq_false_iff_not]
            refine take_ne hlt hlt2 ?_
            rw [HX.out, HY.out]
            intro e
            subst e
            simp at hxy
          have HT := Lib.hid hT
          clear hT
          go_wp2_with fail
          go_ret
          exact ⟨by rw [HT.out] <;> rfl, unhide HB9⟩
        · have hT : A.take (k + 1) = B.take (k + 1) := by
            have e : x = y := by
              have := eq_of_beq hxy
              rw [Lib.toList_data, Lib.toList_data] at this
              rw [← ofL_of x, ← ofL_of y, this]
            rw [List.take_succ_eq_append_getElem hlt, List.take_succ_eq_append_getElem hlt2, HA.out, HX.out, HY.out, e]
          have HT := Lib.hid hT
          clear hT
          go_wp2_with fail
          go_roundw
          case rel => exact ⟨k + 1, by go_num, by omega, HT.out, unhide HB9⟩
          case measure => simp [intOf]; omega
      · have hT : sameLS A B = true := by
          unfold sameLS
          have := HA.out
          rw [List.take_of_length_le hge, List.take_of_length_le (by rw [← HL.out]; exact hge)] at this
          simp [this]
        have HT := Lib.hid hT
        clear hT hbel
        go_wp2_with fail
        go_ret
        exact ⟨by rw [HT.out] <;> rfl, unhide HB⟩
  · have hT : sameLS A B = false := by unfold sameLS; rw [decide_eq_false_iff_not]; intro e; exact hl (by rw [e])
    have HT := Lib.hid hT
    clear hT
    have hlen : (((A.length : Nat) : Int) != ((B.length : Nat) : Int)) = true := by rw [bne_iff_ne]; omega
    go_enter Tryd.func15, Tryd.ntmps15
    go_wp2_with fail
    go_ret
    exact ⟨by rw [HT.out] <;> rfl, Below.refl _ _⟩

/-- Pick at 30. -/
def pick (n m : Int) : Int := if m < 1 then 0 else if n.tmod m < 0 then n.tmod m + m else n.tmod m
theorem pick_bd (n m : Int) (hm : 1 ≤ m) : 0 ≤ pick n m ∧ pick n m < m := by
  unfold pick
  rw [if_neg (by omega)]
  have h1 := Int.tmod_lt_of_pos n (show (0 : Int) < m by omega)
  have h2 : -m < n.tmod m := by
    have := Int.tmod_lt_of_pos (-n) (show (0 : Int) < m by omega)
    rw [Int.neg_tmod] at this
    omega
  split <;> omega

theorem pick_any (n m : Int) (w : World) (hm : m ≤ 1048577) :
    Calls Tryd.prog 7 #[.int .i64 n, .int .i64 m] w fun e w' => e = .returned (.int .i64 (pick n m)) ∧ w = w' := by
  by_cases h : m < 1
  · have e : pick n m = 0 := if_pos h
    rw [e]
    go_enter Tryd.func7, Tryd.ntmps7
    go_wp2
    go_ret
    exact ⟨rfl, rfl⟩
  · have h1 := Int.tmod_lt_of_pos n (show (0 : Int) < m by omega)
    have h2 : -m < n.tmod m := by
      have := Int.tmod_lt_of_pos (-n) (show (0 : Int) < m by omega)
      rw [Int.neg_tmod] at this
      omega
    have hm1 : 1 ≤ m := by omega
    by_cases hneg : n.tmod m < 0
    · have e : pick n m = n.tmod m + m := by unfold pick; rw [if_neg h, if_pos hneg]
      rw [e]
      have hn : ¬ 0 ≤ n := fun h0 => by have := Int.tmod_nonneg m h0; omega
      go_enter Tryd.func7, Tryd.ntmps7
      go_wp2
      go_ret
      exact ⟨rfl, rfl⟩
    · have e : pick n m = n.tmod m := by unfold pick; rw [if_neg h, if_neg hneg]
      rw [e]
      by_cases hn : 0 ≤ n
      · rw [Int.tmod_eq_emod_of_nonneg hn] at hneg h1 h2 ⊢
        go_enter Tryd.func7, Tryd.ntmps7
        go_wp2
        go_ret
        exact ⟨rfl, rfl⟩
      · go_enter Tryd.func7, Tryd.ntmps7
        go_wp2
        go_ret
        exact ⟨rfl, rfl⟩

/-- Times at a text of one byte. -/
def strOf : Value → ByteArray
  | .string s => s
  | _ => ⟨#[]⟩
theorem rep_app (c : UInt8) (a b : Nat) {x y : ByteArray} (hx : x.data.toList = List.replicate a c) (hy : y.data.toList = List.replicate b c) : (x ++ y).data.toList = List.replicate (a + b) c := by
  rw [app_data, hx, hy, List.replicate_append_replicate]
set_option maxRecDepth 100000 in
set_option maxHeartbeats 1000000 in
theorem times_any (c : UInt8) (N : Nat) (hN : N ≤ 1000) (w : World) :
    Calls Tryd.prog 6 #[.string ⟨#[c]⟩, .int .i64 N] w fun e w' => e = .returned (.string (ofL (List.replicate N c))) ∧ w = w' := by
  go_enter Tryd.func6, Tryd.ntmps6
  go_wp2_with fail
  go_loop [0, 1, 5] (fun s n out => ∃ (a p m : Nat) (x y : ByteArray), n = .int .i64 m ∧ s = .string x ∧ out = .string y ∧ x.data.toList = List.replicate p c ∧ y.data.toList = List.replicate a c ∧ a + p * m = N ∧ p ≤ 2 * N + 1 ∧ 1 ≤ p) (fun _ n _ => (intOf n).toNat)
  case atStart => exact ⟨0, 1, N, _, _, rfl, rfl, rfl, rfl, rfl, by omega, by omega, by omega⟩
  case round =>
    obtain ⟨a, p, m, x, y, rfl, rfl, rfl, hx, hy, hs, hp, hp1⟩ := hrel
    have HX := Lib.hid hx
    have HY := Lib.hid hy
    have zx : x.size = p := by rw [size_list hx]; simp
    have zy : y.size = a := by rw [size_list hy]; simp
    have hpm : 0 < m → p ≤ N := fun h => by
      have : p * 1 ≤ p * m := Nat.mul_le_mul_left p h
      omega
    have ham : a ≤ N := by omega
    have hmN : m ≤ N := by
      have : 1 * m ≤ p * m := Nat.mul_le_mul_right m hp1
      omega
    have HS := Lib.hid hs
    clear hx hy hs
    rcases Nat.lt_or_ge 0 m with h0 | h0
    rotate_left
    · have hfin : y = ofL (List.replicate N c) := by
        have := HS.out
        rw [show m = 0 by omega, Nat.mul_zero, Nat.add_zero] at this
        rw [← this]
        exact ba_eq HY.out
      have HF := Lib.hid hfin
      have hb : decide ((0 : Int) < (m : Int)) = false := by simp; omega
      clear hfin
      go_wp2_with fail
      go_ret
      exact ⟨by rw [HF.out] <;> rfl, rfl⟩
    · have hpN := hpm h0
      have hb : decide ((0 : Int) < (m : Int)) = true := by simp; omega
      obtain ⟨j, hj | hj⟩ : ∃ j, m = 2 * j ∨ m = 2 * j + 1 := ⟨m / 2, by omega⟩
      · have hmj : (m : Int) = 2 * (j : Int) := by omega
        have hd : Int.tdiv (m : Int) 2 = (j : Int) := by rw [Int.tdiv_eq_ediv_of_nonneg (by omega)]; omega
        have hr : Int.tmod (m : Int) 2 = 0 := by rw [Int.tmod_eq_emod_of_nonneg (by omega)]; omega
        have hjN : j ≤ 1000 := by omega
        have HJ := Lib.hid hj
        have HB := Lib.hid hmj
        clear hj hmj
        go_wp2_with fail
        go_round
        case rel => exact ⟨a, p + p, j, x ++ x, y, by go_num, rfl, rfl, rep_app c p p HX.out HX.out, HY.out, by have := HS.out; rw [HJ.out] at this; rw [Nat.add_mul]; rw [show p * (2 * j) = p * j + p * j by rw [Nat.mul_left_comm, Nat.two_mul]] at this; omega, by omega, by omega⟩
        case measure => have := HJ.out; simp [intOf]; omega
      · have hmj : (m : Int) = 2 * (j : Int) + 1 := by omega
        have hd : Int.tdiv (m : Int) 2 = (j : Int) := by rw [Int.tdiv_eq_ediv_of_nonneg (by omega)]; omega
        have hr : Int.tmod (m : Int) 2 = 1 := by rw [Int.tmod_eq_emod_of_nonneg (by omega)]; omega
        have hjN : j ≤ 1000 := by omega
        have HJ := Lib.hid hj
        have HB := Lib.hid hmj
        clear hj hmj
        go_wp2_with fail
        go_round
        case rel => exact ⟨a + p, p + p, j, x ++ x, y ++ x, by go_num, rfl, rfl, rep_app c p p HX.out HX.out, rep_app c a p HY.out HX.out, by have := HS.out; rw [HJ.out] at this; rw [Nat.add_mul]; rw [Nat.mul_add, show p * (2 * j) = p * j + p * j by rw [Nat.mul_left_comm, Nat.two_mul]] at this; omega, by omega, by omega⟩
        case measure => have := HJ.out; simp [intOf]; omega

end Go.Proofs.YtbhpcmbbbomknaaDoor.Sp
