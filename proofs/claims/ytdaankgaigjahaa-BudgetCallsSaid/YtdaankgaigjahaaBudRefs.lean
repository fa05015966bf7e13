/- The walks of the reference of the budget. -/
import Derived.Test.YtdaankgaigjahaaBudCalls
import Derived.Test.YtdaankgaigjahaaReg
namespace Go.Proofs.Ytdaankgaigjahaa.Bud
open Go.RowKit

theorem time_any (n : Int) (w : World) :
    Calls Try.prog 27 #[.int .i64 n] w fun e w' => e = .returned (.bool (decide (0 ≤ n ∧ n ≤ 253402300799))) ∧ w = w' := by
  go_enter Try.func27, Try.ntmps27
  go_wp2
  all_goals go_ret
  all_goals exact ⟨by simp; omega, rfl⟩

theorem rcheck_any (r s m : Int) (w : World) :
    Calls Try.prog 18 #[.agg #[.int .i64 r, .int .i64 s, .int .i64 m]] w fun e w' => e = .returned (.int .i64 (chk r s m)) ∧ Below w.heap.size w w' := by
  go_enter Try.func18, Try.ntmps18
  go_wp2
  all_goals go_ret
  all_goals refine ⟨ret_int ?_, (by repeat (first | (with_reducible exact Below.refl _ _) | (with_reducible assumption) | (with_reducible refine Below.drew ?_) | (with_reducible refine below_drewN ?_ _) | ((with_reducible refine bAlloc ?_ ?_ _); focus (first | omega | (simp; done) | (simp; omega))) | ((with_reducible refine bSet ?_ ?_ _); focus (first | omega | (simp; done) | (simp; omega))) | (refine Below.trans ?_ (Below.mono (by with_reducible assumption) (by first | omega | (simp; done) | (simp; omega))))))⟩
  all_goals first | (rw [chk_yes]; unfold okC; simp_all; done) | (rw [chk_no]; unfold okC; simp_all; done) | (rw [chk_no]; unfold okC; simp_all; omega)

theorem errs_ok {r s m v a n : Int} (w : World) (kc : okC r s m) (kb : okB m v a n) :
    Calls Try.prog 26 #[.agg #[.int .i64 r, .int .i64 s, .int .i64 m], .agg #[.int .i64 v, .int .i64 a], .int .i64 n] w fun e w' => e = .returned (.int .i64 0) ∧ Below w.heap.size w w' := by
  have hck := chk_yes kc
  obtain ⟨b1, b2, b3, b4, b5, b6⟩ := kb
  go_enter Try.func26, Try.ntmps26
  go_wp2_with (first | (go_at_call 18; refine (rcheck_any _ _ _ _).mono ?_; rintro e w' ⟨rfl, hb⟩; obtain ⟨hc, hf, hz⟩ := bcell hb; (try simp at hz); (try (have hz0 : w.heap.size < w'.heap.size := by omega)); (try (have hz1 : w.heap.size + 1 < w'.heap.size := by omega)); (try (have hz2 : w.heap.size + 1 + 1 < w'.heap.size := by omega)); (try (have hz3 : w.heap.size + 1 + 1 + 1 < w'.heap.size := by omega))) | (go_at_call 27; refine (time_any _ _).mono ?_; rintro e w' ⟨rfl, rfl⟩))
  go_ret
  exact ⟨rfl, (by repeat (first | (with_reducible exact Below.refl _ _) | (with_reducible assumption) | (with_reducible refine Below.drew ?_) | (with_reducible refine below_drewN ?_ _) | ((with_reducible refine bAlloc ?_ ?_ _); focus (first | omega | (simp; done) | (simp; omega))) | ((with_reducible refine bSet ?_ ?_ _); focus (first | omega | (simp; done) | (simp; omega))) | (refine Below.trans ?_ (Below.mono (by with_reducible assumption) (by first | omega | (simp; done) | (simp; omega))))))⟩

theorem errs_bad {r s m v a n : Int} (w : World) (kc : ¬ okC r s m) :
    Calls Try.prog 26 #[.agg #[.int .i64 r, .int .i64 s, .int .i64 m], .agg #[.int .i64 v, .int .i64 a], .int .i64 n] w fun e w' => e = .returned (.int .i64 260) ∧ Below w.heap.size w w' := by
  have hck := chk_no kc
  go_enter Try.func26, Try.ntmps26
  go_wp2_with (first | (go_at_call 18; refine (rcheck_any _ _ _ _).mono ?_; rintro e w' ⟨rfl, hb⟩; obtain ⟨hc, hf, hz⟩ := bcell hb; (try simp at hz); (try (have hz0 : w.heap.size < w'.heap.size := by omega)); (try (have hz1 : w.heap.size + 1 < w'.heap.size := by omega)); (try (have hz2 : w.heap.size + 1 + 1 < w'.heap.size := by omega)); (try (have hz3 : w.heap.size + 1 + 1 + 1 < w'.heap.size := by omega))) | (go_at_call 27; refine (time_any _ _).mono ?_; rintro e w' ⟨rfl, rfl⟩))
  go_ret
  exact ⟨rfl, (by repeat (first | (with_reducible exact Below.refl _ _) | (with_reducible assumption) | (with_reducible refine Below.drew ?_) | (with_reducible refine below_drewN ?_ _) | ((with_reducible refine bAlloc ?_ ?_ _); focus (first | omega | (simp; done) | (simp; omega))) | ((with_reducible refine bSet ?_ ?_ _); focus (first | omega | (simp; done) | (simp; omega))) | (refine Below.trans ?_ (Below.mono (by with_reducible assumption) (by first | omega | (simp; done) | (simp; omega))))))⟩

theorem errs_arg {r s m v a n : Int} (w : World) (kc : okC r s m) (kb : ¬ okB m v a n) :
    Calls Try.prog 26 #[.agg #[.int .i64 r, .int .i64 s, .int .i64 m], .agg #[.int .i64 v, .int .i64 a], .int .i64 n] w fun e w' => e = .returned (.int .i64 2) ∧ Below w.heap.size w w' := by
  have hck := chk_yes kc
  by_cases k1 : 0 ≤ n ∧ n ≤ 253402300799
  · obtain ⟨b1, b2⟩ := k1
    by_cases k2 : v < 0
    · go_enter Try.func26, Try.ntmps26
      go_wp2_with (first | (go_at_call 18; refine (rcheck_any _ _ _ _).mono ?_; rintro e w' ⟨rfl, hb⟩; obtain ⟨hc, hf, hz⟩ := bcell hb; (try simp at hz); (try (have hz0 : w.heap.size < w'.heap.size := by omega)); (try (have hz1 : w.heap.size + 1 < w'.heap.size := by omega)); (try (have hz2 : w.heap.size + 1 + 1 < w'.heap.size := by omega)); (try (have hz3 : w.heap.size + 1 + 1 + 1 < w'.heap.size := by omega))) | (go_at_call 27; refine (time_any _ _).mono ?_; rintro e w' ⟨rfl, rfl⟩))
      go_ret
      exact ⟨rfl, (by repeat (first | (with_reducible exact Below.refl _ _) | (with_reducible assumption) | (with_reducible refine Below.drew ?_) | (with_reducible refine below_drewN ?_ _) | ((with_reducible refine bAlloc ?_ ?_ _); focus (first | omega | (simp; done) | (simp; omega))) | ((with_reducible refine bSet ?_ ?_ _); focus (first | omega | (simp; done) | (simp; omega))) | (refine Below.trans ?_ (Below.mono (by with_reducible assumption) (by first | omega | (simp; done) | (simp; omega))))))⟩
    by_cases k3 : m < v
    · go_enter Try.func26, Try.ntmps26
      go_wp2_with (first | (go_at_call 18; refine (rcheck_any _ _ _ _).mono ?_; rintro e w' ⟨rfl, hb⟩; obtain ⟨hc, hf, hz⟩ := bcell hb; (try simp at hz); (try (have hz0 : w.heap.size < w'.heap.size := by omega)); (try (have hz1 : w.heap.size + 1 < w'.heap.size := by omega)); (try (have hz2 : w.heap.size + 1 + 1 < w'.heap.size := by omega)); (try (have hz3 : w.heap.size + 1 + 1 + 1 < w'.heap.size := by omega))) | (go_at_call 27; refine (time_any _ _).mono ?_; rintro e w' ⟨rfl, rfl⟩))
      go_ret
      exact ⟨rfl, (by repeat (first | (with_reducible exact Below.refl _ _) | (with_reducible assumption) | (with_reducible refine Below.drew ?_) | (with_reducible refine below_drewN ?_ _) | ((with_reducible refine bAlloc ?_ ?_ _); focus (first | omega | (simp; done) | (simp; omega))) | ((with_reducible refine bSet ?_ ?_ _); focus (first | omega | (simp; done) | (simp; omega))) | (refine Below.trans ?_ (Below.mono (by with_reducible assumption) (by first | omega | (simp; done) | (simp; omega))))))⟩
    have k2' : 0 ≤ v := by omega
    have k3' : v ≤ m := by omega
    clear k2 k3
    have k4 : decide (0 ≤ a ∧ a ≤ 253402300799) = false := by
      rw [decide_eq_false_iff_not]; intro k; exact kb ⟨b1, b2, by omega, by omega, k.1, k.2⟩
    go_enter Try.func26, Try.ntmps26
    go_wp2_with (first | (go_at_call 18; refine (rcheck_any _ _ _ _).mono ?_; rintro e w' ⟨rfl, hb⟩; obtain ⟨hc, hf, hz⟩ := bcell hb; (try simp at hz); (try (have hz0 : w.heap.size < w'.heap.size := by omega)); (try (have hz1 : w.heap.size + 1 < w'.heap.size := by omega)); (try (have hz2 : w.heap.size + 1 + 1 < w'.heap.size := by omega)); (try (have hz3 : w.heap.size + 1 + 1 + 1 < w'.heap.size := by omega))) | (go_at_call 27; refine (time_any _ _).mono ?_; rintro e w' ⟨rfl, rfl⟩; (try rw [k4])))
    all_goals first | (exfalso; omega) | (go_ret; exact ⟨rfl, (by repeat (first | (with_reducible exact Below.refl _ _) | (with_reducible assumption) | (with_reducible refine Below.drew ?_) | (with_reducible refine below_drewN ?_ _) | ((with_reducible refine bAlloc ?_ ?_ _); focus (first | omega | (simp; done) | (simp; omega))) | ((with_reducible refine bSet ?_ ?_ _); focus (first | omega | (simp; done) | (simp; omega))) | (refine Below.trans ?_ (Below.mono (by with_reducible assumption) (by first | omega | (simp; done) | (simp; omega))))))⟩)
  · have k4 : decide (0 ≤ n ∧ n ≤ 253402300799) = false := by simpa using k1
    go_enter Try.func26, Try.ntmps26
    go_wp2_with (first | (go_at_call 18; refine (rcheck_any _ _ _ _).mono ?_; rintro e w' ⟨rfl, hb⟩; obtain ⟨hc, hf, hz⟩ := bcell hb; (try simp at hz); (try (have hz0 : w.heap.size < w'.heap.size := by omega)); (try (have hz1 : w.heap.size + 1 < w'.heap.size := by omega)); (try (have hz2 : w.heap.size + 1 + 1 < w'.heap.size := by omega)); (try (have hz3 : w.heap.size + 1 + 1 + 1 < w'.heap.size := by omega))) | (go_at_call 27; refine (time_any _ _).mono ?_; rintro e w' ⟨rfl, rfl⟩; (try rw [k4])))
    go_ret
    exact ⟨rfl, (by repeat (first | (with_reducible exact Below.refl _ _) | (with_reducible assumption) | (with_reducible refine Below.drew ?_) | (with_reducible refine below_drewN ?_ _) | ((with_reducible refine bAlloc ?_ ?_ _); focus (first | omega | (simp; done) | (simp; omega))) | ((with_reducible refine bSet ?_ ?_ _); focus (first | omega | (simp; done) | (simp; omega))) | (refine Below.trans ?_ (Below.mono (by with_reducible assumption) (by first | omega | (simp; done) | (simp; omega))))))⟩

theorem errs_any (r s m v a n : Int) (w : World) :
    Calls Try.prog 26 #[.agg #[.int .i64 r, .int .i64 s, .int .i64 m], .agg #[.int .i64 v, .int .i64 a], .int .i64 n] w fun e w' => e = .returned (.int .i64 (mayE r s m v a n)) ∧ Below w.heap.size w w' := by
  by_cases kc : okC r s m
  · by_cases kb : okB m v a n
    · rw [may_ok kc kb]; exact errs_ok w kc kb
    · rw [may_arg kc kb]; exact errs_arg w kc kb
  · rw [may_bad kc]; exact errs_bad w kc

/-- The reference's way to bring a budget up to a time gives the same. -/
theorem ref_as {r s m v a n : Int} (kc : okC r s m) (kb : okB m v a n) (hn : a ≤ n) (k : Int) (hk : k = n - a ∧ n - a ≤ 1048576 ∨ k = 1048576 ∧ 1048576 ≤ n - a) :
    0 ≤ k * s ∧ k * s ≤ 1099511627776 ∧ (if m < v + k * s then m else v + k * s) = asH s m v a n ∧ asA a n = n := by
  obtain ⟨c1, c2, c3, c4, c5, c6⟩ := kc
  obtain ⟨b1, b2, b3, b4, b5, b6⟩ := kb
  have hk0 : 0 ≤ k := by omega
  have hk1 : k ≤ 1048576 := by omega
  have p0 : 0 ≤ k * s := Int.mul_nonneg hk0 c3
  have p1 : k * s ≤ 1048576 * 1048576 := Int.mul_le_mul hk1 c4 c3 (by omega)
  refine ⟨p0, by omega, ?_, by unfold asA; split <;> omega⟩
  unfold asH
  by_cases h1 : n ≤ a
  · have : k = 0 := by omega
    subst this
    rw [if_pos h1, if_neg (by omega)]; omega
  rw [if_neg h1]
  by_cases h2 : s = 0
  · subst h2; rw [if_pos rfl, if_neg (by omega)]; omega
  rw [if_neg h2]
  by_cases h3 : n - a ≤ (m - v) / s
  · rw [if_pos h3]
    have hd : (m - v) / s ≤ m - v := Int.ediv_le_self _ (by omega)
    have hp1 : (n - a) * s ≤ m - v := Int.le_trans (Int.mul_le_mul_of_nonneg_right h3 c3) (Int.ediv_mul_le _ h2)
    have : k = n - a := by omega
    subst this
    rw [if_neg (by omega)]
  · rw [if_neg h3]
    rcases hk with ⟨rfl, _⟩ | ⟨rfl, _⟩
    · have h4 : (m - v) / s + 1 ≤ n - a := by omega
      have h5 : ((m - v) / s + 1) * s ≤ (n - a) * s := Int.mul_le_mul_of_nonneg_right h4 c3
      have h6 : m - v < ((m - v) / s + 1) * s := Int.lt_ediv_add_one_mul_self _ (by omega)
      rw [if_pos (by omega)]
    · have h7 : 1048576 * 1 ≤ 1048576 * s := Int.mul_le_mul_of_nonneg_left (by omega) (by omega)
      split <;> omega

theorem rat_any (r s m v a n : Int) (w : World) :
    Calls Try.prog 20 #[.agg #[.int .i64 r, .int .i64 s, .int .i64 m], .agg #[.int .i64 v, .int .i64 a], .int .i64 n] w fun e w' => e = .returned (.agg #[.int .i64 (atH r s m v a n), .int .i64 (atA r s m v a n)]) ∧ Below w.heap.size w w' := by
  unfold atH atA
  by_cases hk : okC r s m ∧ okB m v a n
  · have hM := may_ok hk.1 hk.2
    rw [if_pos hk, if_pos hk]
    by_cases hn : a ≤ n
    · by_cases hd : n - a ≤ 1048576
      · obtain ⟨p0, p1, e1, e2⟩ := ref_as hk.1 hk.2 hn (n - a) (.inl ⟨rfl, hd⟩)
        rw [← e1, e2]
        clear e1 e2
        have hk1 := hk.1
        have hk2 := hk.2
        obtain ⟨c1, c2, c3, c4, c5, c6⟩ := hk1
        obtain ⟨b1, b2, b3, b4, b5, b6⟩ := hk2
        by_cases hs : m < v + (n - a) * s
        · rw [if_pos hs]
          go_enter Try.func20, Try.ntmps20
          go_wp2_with (first | (go_at_call 26; refine (errs_any _ _ _ _ _ _ _).mono ?_; rintro e w' ⟨rfl, hb⟩; obtain ⟨hc, hf, hz⟩ := bcell hb; (try simp at hz); (try (have hz0 : w.heap.size < w'.heap.size := by omega)); (try (have hz1 : w.heap.size + 1 < w'.heap.size := by omega)); (try (have hz2 : w.heap.size + 1 + 1 < w'.heap.size := by omega)); (try (have hz3 : w.heap.size + 1 + 1 + 1 < w'.heap.size := by omega))))
          all_goals first | (exfalso; omega) | skip
          refine bodyPost_ret (v := .agg #[.int .i64 m, .int .i64 n]) (by simp [results, Try.results20, go_sem, *]) rfl ?_
          exact ⟨rfl, (by repeat (first | (with_reducible exact Below.refl _ _) | (with_reducible assumption) | (with_reducible refine Below.drew ?_) | (with_reducible refine below_drewN ?_ _) | ((with_reducible refine bAlloc ?_ ?_ _); focus (first | omega | (simp; done) | (simp; omega))) | ((with_reducible refine bSet ?_ ?_ _); focus (first | omega | (simp; done) | (simp; omega))) | (refine Below.trans ?_ (Below.mono (by with_reducible assumption) (by first | omega | (simp; done) | (simp; omega))))))⟩
        · rw [if_neg hs]
          go_enter Try.func20, Try.ntmps20
          go_wp2_with (first | (go_at_call 26; refine (errs_any _ _ _ _ _ _ _).mono ?_; rintro e w' ⟨rfl, hb⟩; obtain ⟨hc, hf, hz⟩ := bcell hb; (try simp at hz); (try (have hz0 : w.heap.size < w'.heap.size := by omega)); (try (have hz1 : w.heap.size + 1 < w'.heap.size := by omega)); (try (have hz2 : w.heap.size + 1 + 1 < w'.heap.size := by omega)); (try (have hz3 : w.heap.size + 1 + 1 + 1 < w'.heap.size := by omega))))
          all_goals first | (exfalso; omega) | skip
          refine bodyPost_ret (v := .agg #[.int .i64 (v + (n - a) * s), .int .i64 n]) (by simp [results, Try.results20, go_sem, *]) rfl ?_
          exact ⟨rfl, (by repeat (first | (with_reducible exact Below.refl _ _) | (with_reducible assumption) | (with_reducible refine Below.drew ?_) | (with_reducible refine below_drewN ?_ _) | ((with_reducible refine bAlloc ?_ ?_ _); focus (first | omega | (simp; done) | (simp; omega))) | ((with_reducible refine bSet ?_ ?_ _); focus (first | omega | (simp; done) | (simp; omega))) | (refine Below.trans ?_ (Below.mono (by with_reducible assumption) (by first | omega | (simp; done) | (simp; omega))))))⟩
      · obtain ⟨p0, p1, e1, e2⟩ := ref_as hk.1 hk.2 hn 1048576 (.inr ⟨rfl, by omega⟩)
        rw [← e1, e2]
        clear e1 e2
        have hk1 := hk.1
        have hk2 := hk.2
        obtain ⟨c1, c2, c3, c4, c5, c6⟩ := hk1
        obtain ⟨b1, b2, b3, b4, b5, b6⟩ := hk2
        by_cases hs : m < v + 1048576 * s
        · rw [if_pos hs]
          go_enter Try.func20, Try.ntmps20
          go_wp2_with (first | (go_at_call 26; refine (errs_any _ _ _ _ _ _ _).mono ?_; rintro e w' ⟨rfl, hb⟩; obtain ⟨hc, hf, hz⟩ := bcell hb; (try simp at hz); (try (have hz0 : w.heap.size < w'.heap.size := by omega)); (try (have hz1 : w.heap.size + 1 < w'.heap.size := by omega)); (try (have hz2 : w.heap.size + 1 + 1 < w'.heap.size := by omega)); (try (have hz3 : w.heap.size + 1 + 1 + 1 < w'.heap.size := by omega))))
          all_goals first | (exfalso; omega) | skip
          refine bodyPost_ret (v := .agg #[.int .i64 m, .int .i64 n]) (by simp [results, Try.results20, go_sem, *]) rfl ?_
          exact ⟨rfl, (by repeat (first | (with_reducible exact Below.refl _ _) | (with_reducible assumption) | (with_reducible refine Below.drew ?_) | (with_reducible refine below_drewN ?_ _) | ((with_reducible refine bAlloc ?_ ?_ _); focus (first | omega | (simp; done) | (simp; omega))) | ((with_reducible refine bSet ?_ ?_ _); focus (first | omega | (simp; done) | (simp; omega))) | (refine Below.trans ?_ (Below.mono (by with_reducible assumption) (by first | omega | (simp; done) | (simp; omega))))))⟩
        · rw [if_neg hs]
          go_enter Try.func20, Try.ntmps20
          go_wp2_with (first | (go_at_call 26; refine (errs_any _ _ _ _ _ _ _).mono ?_; rintro e w' ⟨rfl, hb⟩; obtain ⟨hc, hf, hz⟩ := bcell hb; (try simp at hz); (try (have hz0 : w.heap.size < w'.heap.size := by omega)); (try (have hz1 : w.heap.size + 1 < w'.heap.size := by omega)); (try (have hz2 : w.heap.size + 1 + 1 < w'.heap.size := by omega)); (try (have hz3 : w.heap.size + 1 + 1 + 1 < w'.heap.size := by omega))))
          all_goals first | (exfalso; omega) | skip
          refine bodyPost_ret (v := .agg #[.int .i64 (v + 1048576 * s), .int .i64 n]) (by simp [results, Try.results20, go_sem, *]) rfl ?_
          exact ⟨rfl, (by repeat (first | (with_reducible exact Below.refl _ _) | (with_reducible assumption) | (with_reducible refine Below.drew ?_) | (with_reducible refine below_drewN ?_ _) | ((with_reducible refine bAlloc ?_ ?_ _); focus (first | omega | (simp; done) | (simp; omega))) | ((with_reducible refine bSet ?_ ?_ _); focus (first | omega | (simp; done) | (simp; omega))) | (refine Below.trans ?_ (Below.mono (by with_reducible assumption) (by first | omega | (simp; done) | (simp; omega))))))⟩
    · have e1 : asH s m v a n = v := by unfold asH; rw [if_pos (by omega)]
      have e2 : asA a n = a := by unfold asA; rw [if_pos (by omega)]
      rw [e1, e2]
      have hn' : n < a := by omega
      clear e1 e2
      go_enter Try.func20, Try.ntmps20
      go_wp2_with (first | (go_at_call 26; refine (errs_any _ _ _ _ _ _ _).mono ?_; rintro e w' ⟨rfl, hb⟩; obtain ⟨hc, hf, hz⟩ := bcell hb; (try simp at hz); (try (have hz0 : w.heap.size < w'.heap.size := by omega)); (try (have hz1 : w.heap.size + 1 < w'.heap.size := by omega)); (try (have hz2 : w.heap.size + 1 + 1 < w'.heap.size := by omega)); (try (have hz3 : w.heap.size + 1 + 1 + 1 < w'.heap.size := by omega))))
      refine bodyPost_ret (v := .agg #[.int .i64 v, .int .i64 a]) (by simp [results, Try.results20, go_sem, *]) rfl ?_
      exact ⟨rfl, (by repeat (first | (with_reducible exact Below.refl _ _) | (with_reducible assumption) | (with_reducible refine Below.drew ?_) | (with_reducible refine below_drewN ?_ _) | ((with_reducible refine bAlloc ?_ ?_ _); focus (first | omega | (simp; done) | (simp; omega))) | ((with_reducible refine bSet ?_ ?_ _); focus (first | omega | (simp; done) | (simp; omega))) | (refine Below.trans ?_ (Below.mono (by with_reducible assumption) (by first | omega | (simp; done) | (simp; omega))))))⟩
  · have hM := may_ne hk
    rw [if_neg hk, if_neg hk]
    go_enter Try.func20, Try.ntmps20
    go_wp2_with (first | (go_at_call 26; refine (errs_any _ _ _ _ _ _ _).mono ?_; rintro e w' ⟨rfl, hb⟩; obtain ⟨hc, hf, hz⟩ := bcell hb; (try simp at hz); (try (have hz0 : w.heap.size < w'.heap.size := by omega)); (try (have hz1 : w.heap.size + 1 < w'.heap.size := by omega)); (try (have hz2 : w.heap.size + 1 + 1 < w'.heap.size := by omega)); (try (have hz3 : w.heap.size + 1 + 1 + 1 < w'.heap.size := by omega))))
    refine bodyPost_ret (v := .agg #[.int .i64 v, .int .i64 a]) (by simp [results, Try.results20, go_sem, *]) rfl ?_
    exact ⟨rfl, (by repeat (first | (with_reducible exact Below.refl _ _) | (with_reducible assumption) | (with_reducible refine Below.drew ?_) | (with_reducible refine below_drewN ?_ _) | ((with_reducible refine bAlloc ?_ ?_ _); focus (first | omega | (simp; done) | (simp; omega))) | ((with_reducible refine bSet ?_ ?_ _); focus (first | omega | (simp; done) | (simp; omega))) | (refine Below.trans ?_ (Below.mono (by with_reducible assumption) (by first | omega | (simp; done) | (simp; omega))))))⟩
end Go.Proofs.Ytdaankgaigjahaa.Bud
