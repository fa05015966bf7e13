/- The walks of package budget, 2: Request, Retry, New, May. -/
import Derived.Test.YtdaankgaigjahaaBudWalks
namespace Go.Proofs.Ytdaankgaigjahaa.Bud
open Go.RowKit

theorem may_ne {r s m v a n : Int} (hk : ¬ (okC r s m ∧ okB m v a n)) : (mayE r s m v a n != 0) = true := by
  rw [bne_iff_ne]
  by_cases hc : okC r s m
  · rw [may_arg hc (fun k => hk ⟨hc, k⟩)]; decide
  · rw [may_bad hc]; decide

theorem request_yes {r s m v a n : Int} (w : World) (kc : okC r s m) (kb : okB m v a n) :
    Calls Try.prog 12 #[.agg #[.int .i64 r, .int .i64 s, .int .i64 m], .agg #[.int .i64 v, .int .i64 a], .int .i64 n] w fun e w' =>
      e = .returned (.tuple #[.agg #[.int .i64 (min m (asH s m v a n + r)), .int .i64 (asA a n)], .int .i64 0]) ∧ Below w.heap.size w w' := by
  have hM := may_ok kc kb
  obtain ⟨hB1, hB2⟩ := asH_bd kc kb
  have hc' := kc
  obtain ⟨c1, c2, c3, c4, c5, c6⟩ := hc'
  have hb' := kb
  obtain ⟨b1, b2, b3, b4, b5, b6⟩ := hb'
  go_enter Try.func12, Try.ntmps12
  go_wp2_with (first | (go_at_call 24; refine (may_any _ _ _ _ _ _ _).mono ?_; rintro e w' ⟨rfl, hb⟩; obtain ⟨hc, hf, hz⟩ := bcell hb; (try simp at hz); (try (have hz0 : w.heap.size < w'.heap.size := by omega)); (try (have hz1 : w.heap.size + 1 < w'.heap.size := by omega)); (try (have hz2 : w.heap.size + 1 + 1 < w'.heap.size := by omega)); (try (have hz3 : w.heap.size + 1 + 1 + 1 < w'.heap.size := by omega))) | (go_at_call 25; refine (as_any _ kc kb).mono ?_; rintro e w' ⟨rfl, hb⟩; obtain ⟨hc, hf, hz⟩ := bcell hb; (try simp at hz); (try (have hz0 : w.heap.size < w'.heap.size := by omega)); (try (have hz1 : w.heap.size + 1 < w'.heap.size := by omega)); (try (have hz2 : w.heap.size + 1 + 1 < w'.heap.size := by omega)); (try (have hz3 : w.heap.size + 1 + 1 + 1 < w'.heap.size := by omega))))
  · have e : min m (asH s m v a n + r) = asH s m v a n + r := by omega
    rw [e]
    refine bodyPost_ret (v := .tuple #[.agg #[.int .i64 (asH s m v a n + r), .int .i64 (asA a n)], .int .i64 0]) (by simp [results, Try.results12, go_sem, *]) rfl ?_
    exact ⟨rfl, (by repeat (first | (with_reducible exact Below.refl _ _) | (with_reducible assumption) | (with_reducible refine Below.drew ?_) | (with_reducible refine below_drewN ?_ _) | ((with_reducible refine bAlloc ?_ ?_ _); focus (first | omega | (simp; done) | (simp; omega))) | ((with_reducible refine bSet ?_ ?_ _); focus (first | omega | (simp; done) | (simp; omega))) | (refine Below.trans ?_ (Below.mono (by with_reducible assumption) (by first | omega | (simp; done) | (simp; omega))))))⟩
  · have e : min m (asH s m v a n + r) = m := by omega
    rw [e]
    refine bodyPost_ret (v := .tuple #[.agg #[.int .i64 m, .int .i64 (asA a n)], .int .i64 0]) (by simp [results, Try.results12, go_sem, *]) rfl ?_
    exact ⟨rfl, (by repeat (first | (with_reducible exact Below.refl _ _) | (with_reducible assumption) | (with_reducible refine Below.drew ?_) | (with_reducible refine below_drewN ?_ _) | ((with_reducible refine bAlloc ?_ ?_ _); focus (first | omega | (simp; done) | (simp; omega))) | ((with_reducible refine bSet ?_ ?_ _); focus (first | omega | (simp; done) | (simp; omega))) | (refine Below.trans ?_ (Below.mono (by with_reducible assumption) (by first | omega | (simp; done) | (simp; omega))))))⟩

theorem request_no {r s m v a n : Int} (w : World) (hk : ¬ (okC r s m ∧ okB m v a n)) :
    Calls Try.prog 12 #[.agg #[.int .i64 r, .int .i64 s, .int .i64 m], .agg #[.int .i64 v, .int .i64 a], .int .i64 n] w fun e w' =>
      e = .returned (.tuple #[.agg #[.int .i64 v, .int .i64 a], .int .i64 (mayE r s m v a n)]) ∧ Below w.heap.size w w' := by
  have hM := may_ne hk
  go_enter Try.func12, Try.ntmps12
  go_wp2_with (first | (go_at_call 24; refine (may_any _ _ _ _ _ _ _).mono ?_; rintro e w' ⟨rfl, hb⟩; obtain ⟨hc, hf, hz⟩ := bcell hb; (try simp at hz); (try (have hz0 : w.heap.size < w'.heap.size := by omega)); (try (have hz1 : w.heap.size + 1 < w'.heap.size := by omega)); (try (have hz2 : w.heap.size + 1 + 1 < w'.heap.size := by omega)); (try (have hz3 : w.heap.size + 1 + 1 + 1 < w'.heap.size := by omega))))
  refine bodyPost_ret (v := .tuple #[.agg #[.int .i64 v, .int .i64 a], .int .i64 (mayE r s m v a n)]) (by simp [results, Try.results12, go_sem, *]) rfl ?_
  exact ⟨rfl, (by repeat (first | (with_reducible exact Below.refl _ _) | (with_reducible assumption) | (with_reducible refine Below.drew ?_) | (with_reducible refine below_drewN ?_ _) | ((with_reducible refine bAlloc ?_ ?_ _); focus (first | omega | (simp; done) | (simp; omega))) | ((with_reducible refine bSet ?_ ?_ _); focus (first | omega | (simp; done) | (simp; omega))) | (refine Below.trans ?_ (Below.mono (by with_reducible assumption) (by first | omega | (simp; done) | (simp; omega))))))⟩

theorem retry_yes {r s m v a n : Int} (w : World) (kk : rtOK r s m v a n) :
    Calls Try.prog 11 #[.agg #[.int .i64 r, .int .i64 s, .int .i64 m], .agg #[.int .i64 v, .int .i64 a], .int .i64 n] w fun e w' =>
      e = .returned (.tuple #[.agg #[.int .i64 (asH s m v a n - 1000), .int .i64 (asA a n)], .int .i64 0]) ∧ Below w.heap.size w w' := by
  obtain ⟨kc, kb, hr⟩ := kk
  have hM := may_ok kc kb
  obtain ⟨hB1, hB2⟩ := asH_bd kc kb
  have hc' := kc
  obtain ⟨c1, c2, c3, c4, c5, c6⟩ := hc'
  have hb' := kb
  obtain ⟨b1, b2, b3, b4, b5, b6⟩ := hb'
  go_enter Try.func11, Try.ntmps11
  go_wp2_with (first | (go_at_call 24; refine (may_any _ _ _ _ _ _ _).mono ?_; rintro e w' ⟨rfl, hb⟩; obtain ⟨hc, hf, hz⟩ := bcell hb; (try simp at hz); (try (have hz0 : w.heap.size < w'.heap.size := by omega)); (try (have hz1 : w.heap.size + 1 < w'.heap.size := by omega)); (try (have hz2 : w.heap.size + 1 + 1 < w'.heap.size := by omega)); (try (have hz3 : w.heap.size + 1 + 1 + 1 < w'.heap.size := by omega))) | (go_at_call 25; refine (as_any _ kc kb).mono ?_; rintro e w' ⟨rfl, hb⟩; obtain ⟨hc, hf, hz⟩ := bcell hb; (try simp at hz); (try (have hz0 : w.heap.size < w'.heap.size := by omega)); (try (have hz1 : w.heap.size + 1 < w'.heap.size := by omega)); (try (have hz2 : w.heap.size + 1 + 1 < w'.heap.size := by omega)); (try (have hz3 : w.heap.size + 1 + 1 + 1 < w'.heap.size := by omega))))
  refine bodyPost_ret (v := .tuple #[.agg #[.int .i64 (asH s m v a n - 1000), .int .i64 (asA a n)], .int .i64 0]) (by simp [results, Try.results11, go_sem, *]) rfl ?_
  exact ⟨rfl, (by repeat (first | (with_reducible exact Below.refl _ _) | (with_reducible assumption) | (with_reducible refine Below.drew ?_) | (with_reducible refine below_drewN ?_ _) | ((with_reducible refine bAlloc ?_ ?_ _); focus (first | omega | (simp; done) | (simp; omega))) | ((with_reducible refine bSet ?_ ?_ _); focus (first | omega | (simp; done) | (simp; omega))) | (refine Below.trans ?_ (Below.mono (by with_reducible assumption) (by first | omega | (simp; done) | (simp; omega))))))⟩

theorem retry_full {r s m v a n : Int} (w : World) (kc : okC r s m) (kb : okB m v a n) (hr : asH s m v a n < 1000) :
    Calls Try.prog 11 #[.agg #[.int .i64 r, .int .i64 s, .int .i64 m], .agg #[.int .i64 v, .int .i64 a], .int .i64 n] w fun e w' =>
      e = .returned (.tuple #[.agg #[.int .i64 v, .int .i64 a], .int .i64 9]) ∧ Below w.heap.size w w' := by
  have hM := may_ok kc kb
  go_enter Try.func11, Try.ntmps11
  go_wp2_with (first | (go_at_call 24; refine (may_any _ _ _ _ _ _ _).mono ?_; rintro e w' ⟨rfl, hb⟩; obtain ⟨hc, hf, hz⟩ := bcell hb; (try simp at hz); (try (have hz0 : w.heap.size < w'.heap.size := by omega)); (try (have hz1 : w.heap.size + 1 < w'.heap.size := by omega)); (try (have hz2 : w.heap.size + 1 + 1 < w'.heap.size := by omega)); (try (have hz3 : w.heap.size + 1 + 1 + 1 < w'.heap.size := by omega))) | (go_at_call 25; refine (as_any _ kc kb).mono ?_; rintro e w' ⟨rfl, hb⟩; obtain ⟨hc, hf, hz⟩ := bcell hb; (try simp at hz); (try (have hz0 : w.heap.size < w'.heap.size := by omega)); (try (have hz1 : w.heap.size + 1 < w'.heap.size := by omega)); (try (have hz2 : w.heap.size + 1 + 1 < w'.heap.size := by omega)); (try (have hz3 : w.heap.size + 1 + 1 + 1 < w'.heap.size := by omega))))
  refine bodyPost_ret (v := .tuple #[.agg #[.int .i64 v, .int .i64 a], .int .i64 9]) (by simp [results, Try.results11, go_sem, *]) rfl ?_
  exact ⟨rfl, (by repeat (first | (with_reducible exact Below.refl _ _) | (with_reducible assumption) | (with_reducible refine Below.drew ?_) | (with_reducible refine below_drewN ?_ _) | ((with_reducible refine bAlloc ?_ ?_ _); focus (first | omega | (simp; done) | (simp; omega))) | ((with_reducible refine bSet ?_ ?_ _); focus (first | omega | (simp; done) | (simp; omega))) | (refine Below.trans ?_ (Below.mono (by with_reducible assumption) (by first | omega | (simp; done) | (simp; omega))))))⟩

theorem retry_no {r s m v a n : Int} (w : World) (hk : ¬ (okC r s m ∧ okB m v a n)) :
    Calls Try.prog 11 #[.agg #[.int .i64 r, .int .i64 s, .int .i64 m], .agg #[.int .i64 v, .int .i64 a], .int .i64 n] w fun e w' =>
      e = .returned (.tuple #[.agg #[.int .i64 v, .int .i64 a], .int .i64 (mayE r s m v a n)]) ∧ Below w.heap.size w w' := by
  have hM := may_ne hk
  go_enter Try.func11, Try.ntmps11
  go_wp2_with (first | (go_at_call 24; refine (may_any _ _ _ _ _ _ _).mono ?_; rintro e w' ⟨rfl, hb⟩; obtain ⟨hc, hf, hz⟩ := bcell hb; (try simp at hz); (try (have hz0 : w.heap.size < w'.heap.size := by omega)); (try (have hz1 : w.heap.size + 1 < w'.heap.size := by omega)); (try (have hz2 : w.heap.size + 1 + 1 < w'.heap.size := by omega)); (try (have hz3 : w.heap.size + 1 + 1 + 1 < w'.heap.size := by omega))))
  refine bodyPost_ret (v := .tuple #[.agg #[.int .i64 v, .int .i64 a], .int .i64 (mayE r s m v a n)]) (by simp [results, Try.results11, go_sem, *]) rfl ?_
  exact ⟨rfl, (by repeat (first | (with_reducible exact Below.refl _ _) | (with_reducible assumption) | (with_reducible refine Below.drew ?_) | (with_reducible refine below_drewN ?_ _) | ((with_reducible refine bAlloc ?_ ?_ _); focus (first | omega | (simp; done) | (simp; omega))) | ((with_reducible refine bSet ?_ ?_ _); focus (first | omega | (simp; done) | (simp; omega))) | (refine Below.trans ?_ (Below.mono (by with_reducible assumption) (by first | omega | (simp; done) | (simp; omega))))))⟩

theorem retry_any (r s m v a n : Int) (w : World) :
    Calls Try.prog 11 #[.agg #[.int .i64 r, .int .i64 s, .int .i64 m], .agg #[.int .i64 v, .int .i64 a], .int .i64 n] w fun e w' =>
      e = .returned (.tuple #[.agg #[.int .i64 (rtH r s m v a n), .int .i64 (rtA r s m v a n)], .int .i64 (rtE r s m v a n)]) ∧ Below w.heap.size w w' := by
  unfold rtH rtA rtE
  by_cases kk : rtOK r s m v a n
  · rw [if_pos kk, if_pos kk, if_pos kk]; exact retry_yes w kk
  rw [if_neg kk, if_neg kk, if_neg kk]
  by_cases hk : okC r s m ∧ okB m v a n
  · rw [if_pos hk]; exact retry_full w hk.1 hk.2 (Int.not_le.mp fun x => kk ⟨hk.1, hk.2, x⟩)
  · rw [if_neg hk]; exact retry_no w hk

theorem request_any (r s m v a n : Int) (w : World) :
    Calls Try.prog 12 #[.agg #[.int .i64 r, .int .i64 s, .int .i64 m], .agg #[.int .i64 v, .int .i64 a], .int .i64 n] w fun e w' =>
      e = .returned (.tuple #[.agg #[.int .i64 (rqH r s m v a n), .int .i64 (atA r s m v a n)], .int .i64 (mayE r s m v a n)]) ∧ Below w.heap.size w w' := by
  unfold rqH atA
  by_cases hk : okC r s m ∧ okB m v a n
  · rw [if_pos hk, if_pos hk, may_ok hk.1 hk.2]; exact request_yes w hk.1 hk.2
  · rw [if_neg hk, if_neg hk]; exact request_no w hk

theorem new_any (r s m : Int) (w : World) :
    Calls Try.prog 14 #[.agg #[.int .i64 r, .int .i64 s, .int .i64 m]] w fun e w' =>
      e = .returned (.agg #[.int .i64 (newH r s m), .int .i64 0]) ∧ Below w.heap.size w w' := by
  unfold newH
  by_cases hk : okC r s m
  · have hM := chk_yes hk
    rw [if_pos hk]
    go_enter Try.func14, Try.ntmps14
    go_wp2_with (first | (go_at_call 9; refine (check_any _ _ _ _).mono ?_; rintro e w' ⟨rfl, hb⟩; obtain ⟨hc, hf, hz⟩ := bcell hb; (try simp at hz); (try (have hz0 : w.heap.size < w'.heap.size := by omega)); (try (have hz1 : w.heap.size + 1 < w'.heap.size := by omega)); (try (have hz2 : w.heap.size + 1 + 1 < w'.heap.size := by omega)); (try (have hz3 : w.heap.size + 1 + 1 + 1 < w'.heap.size := by omega))))
    refine bodyPost_ret (v := .agg #[.int .i64 m, .int .i64 0]) (by simp [results, Try.results14, go_sem, *]) rfl ?_
    exact ⟨rfl, (by repeat (first | (with_reducible exact Below.refl _ _) | (with_reducible assumption) | (with_reducible refine Below.drew ?_) | (with_reducible refine below_drewN ?_ _) | ((with_reducible refine bAlloc ?_ ?_ _); focus (first | omega | (simp; done) | (simp; omega))) | ((with_reducible refine bSet ?_ ?_ _); focus (first | omega | (simp; done) | (simp; omega))) | (refine Below.trans ?_ (Below.mono (by with_reducible assumption) (by first | omega | (simp; done) | (simp; omega))))))⟩
  · have hM := chk_no hk
    rw [if_neg hk]
    go_enter Try.func14, Try.ntmps14
    go_wp2_with (first | (go_at_call 9; refine (check_any _ _ _ _).mono ?_; rintro e w' ⟨rfl, hb⟩; obtain ⟨hc, hf, hz⟩ := bcell hb; (try simp at hz); (try (have hz0 : w.heap.size < w'.heap.size := by omega)); (try (have hz1 : w.heap.size + 1 < w'.heap.size := by omega)); (try (have hz2 : w.heap.size + 1 + 1 < w'.heap.size := by omega)); (try (have hz3 : w.heap.size + 1 + 1 + 1 < w'.heap.size := by omega))))
    refine bodyPost_ret (v := .agg #[.int .i64 0, .int .i64 0]) (by simp [results, Try.results14, go_sem, *]) rfl ?_
    exact ⟨rfl, (by repeat (first | (with_reducible exact Below.refl _ _) | (with_reducible assumption) | (with_reducible refine Below.drew ?_) | (with_reducible refine below_drewN ?_ _) | ((with_reducible refine bAlloc ?_ ?_ _); focus (first | omega | (simp; done) | (simp; omega))) | ((with_reducible refine bSet ?_ ?_ _); focus (first | omega | (simp; done) | (simp; omega))) | (refine Below.trans ?_ (Below.mono (by with_reducible assumption) (by first | omega | (simp; done) | (simp; omega))))))⟩

theorem may'_any (r s m v a n : Int) (w : World) :
    Calls Try.prog 15 #[.agg #[.int .i64 r, .int .i64 s, .int .i64 m], .agg #[.int .i64 v, .int .i64 a], .int .i64 n] w fun e w' =>
      e = .returned (.bool (rtE r s m v a n == 0)) ∧ Below w.heap.size w w' := by
  go_enter Try.func15, Try.ntmps15
  go_wp2_with (first | (go_at_call 11; refine (retry_any _ _ _ _ _ _ _).mono ?_; rintro e w' ⟨rfl, hb⟩; obtain ⟨hc, hf, hz⟩ := bcell hb; (try simp at hz); (try (have hz0 : w.heap.size < w'.heap.size := by omega)); (try (have hz1 : w.heap.size + 1 < w'.heap.size := by omega)); (try (have hz2 : w.heap.size + 1 + 1 < w'.heap.size := by omega)); (try (have hz3 : w.heap.size + 1 + 1 + 1 < w'.heap.size := by omega))))
  go_ret
  exact ⟨rfl, (by repeat (first | (with_reducible exact Below.refl _ _) | (with_reducible assumption) | (with_reducible refine Below.drew ?_) | (with_reducible refine below_drewN ?_ _) | ((with_reducible refine bAlloc ?_ ?_ _); focus (first | omega | (simp; done) | (simp; omega))) | ((with_reducible refine bSet ?_ ?_ _); focus (first | omega | (simp; done) | (simp; omega))) | (refine Below.trans ?_ (Below.mono (by with_reducible assumption) (by first | omega | (simp; done) | (simp; omega))))))⟩

end Go.Proofs.Ytdaankgaigjahaa.Bud
