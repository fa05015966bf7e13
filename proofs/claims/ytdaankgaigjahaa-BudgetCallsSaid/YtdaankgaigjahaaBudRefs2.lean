/- The walks of the reference of the budget, 2; the law's own small functions. -/
import Derived.Test.YtdaankgaigjahaaBudRefs
namespace Go.Proofs.Ytdaankgaigjahaa.Bud
open Go.RowKit

theorem rrequest_yes {r s m v a n : Int} (w : World) (kc : okC r s m) (kb : okB m v a n) :
    Calls Try.prog 16 #[.agg #[.int .i64 r, .int .i64 s, .int .i64 m], .agg #[.int .i64 v, .int .i64 a], .int .i64 n] w fun e w' =>
      e = .returned (.tuple #[.agg #[.int .i64 (min m (asH s m v a n + r)), .int .i64 (asA a n)], .int .i64 0]) ∧ Below w.heap.size w w' := by
  have hM := may_ok kc kb
  obtain ⟨hB1, hB2⟩ := asH_bd kc kb
  have e1 : atH r s m v a n = asH s m v a n := if_pos ⟨kc, kb⟩
  have e2 : atA r s m v a n = asA a n := if_pos ⟨kc, kb⟩
  obtain ⟨c1, c2, c3, c4, c5, c6⟩ := kc
  obtain ⟨b1, b2, b3, b4, b5, b6⟩ := kb
  go_enter Try.func16, Try.ntmps16
  go_wp2_with fail
  have HA := ((Reg.Has.at w w.heap.size [.int .i64 r, .int .i64 s, .int .i64 m] 23 rfl).alloc (.cells #[.int .i64 v, .int .i64 a] 30)).alloc (.cells #[.int .i64 0, .int .i64 0] 30)
  have HB := (Reg.Has.at (w.alloc (.cells #[.int .i64 r, .int .i64 s, .int .i64 m] 23)) (w.heap.size + 1) [.int .i64 v, .int .i64 a] 30 (by simp)).alloc (.cells #[.int .i64 0, .int .i64 0] 30)
  have HC := Reg.Has.at ((w.alloc (.cells #[.int .i64 r, .int .i64 s, .int .i64 m] 23)).alloc (.cells #[.int .i64 v, .int .i64 a] 30)) (w.heap.size + 1 + 1) [.int .i64 0, .int .i64 0] 30 (by simp)
  refine (errs_any _ _ _ _ _ _ _).mono ?_; rintro e w1 ⟨rfl, hb1⟩
  have hbel1 : Below w.heap.size w w1 := (by repeat (first | (with_reducible exact Below.refl _ _) | (with_reducible assumption) | (with_reducible refine Below.drew ?_) | (with_reducible refine below_drewN ?_ _) | ((with_reducible refine bAlloc ?_ ?_ _); focus (first | omega | (simp; done) | (simp; omega))) | ((with_reducible refine bSet ?_ ?_ _); focus (first | omega | (simp; done) | (simp; omega))) | (refine Below.trans ?_ (Below.mono (by with_reducible assumption) (by first | omega | (simp; done) | (simp; omega))))))
  have HA1 := HA.call hb1
  have HB1 := HB.call hb1
  have HC1 := HC.call hb1
  clear HA HB HC hb1
  rw [hM]
  clear hM
  have p1a := HA1.cell 0 _ rfl; have q1a := HA1.cell 1 _ rfl; have r1a := HA1.cell 2 _ rfl; have u1a := HA1.free 0 (by simp); have v1a := HA1.free 1 (by simp); have x1a := HA1.free 2 (by simp); have z1a := HA1.lt
  have p1b := HB1.cell 0 _ rfl; have q1b := HB1.cell 1 _ rfl; have u1b := HB1.free 0 (by simp); have v1b := HB1.free 1 (by simp); have z1b := HB1.lt
  go_wp2_with fail
  refine (rat_any _ _ _ _ _ _ _).mono ?_; rintro e w2 ⟨rfl, hb2⟩
  rw [e1, e2]
  clear e1 e2
  have hbel2 : Below w.heap.size w w2 := hbel1.trans (hb2.mono hbel1.size)
  have HA2 := HA1.call hb2
  have HB2 := HB1.call hb2
  have HC2 := HC1.call hb2
  clear p1a q1a r1a u1a v1a x1a z1a p1b q1b u1b v1b z1b HA1 HB1 HC1 hb2 hbel1
  have p2a := HA2.cell 0 _ rfl; have q2a := HA2.cell 1 _ rfl; have r2a := HA2.cell 2 _ rfl; have u2a := HA2.free 0 (by simp); have v2a := HA2.free 1 (by simp); have x2a := HA2.free 2 (by simp); have z2a := HA2.lt
  have p2b := HB2.cell 0 _ rfl; have q2b := HB2.cell 1 _ rfl; have u2b := HB2.free 0 (by simp); have v2b := HB2.free 1 (by simp); have z2b := HB2.lt
  have p2c := HC2.cell 0 _ rfl; have q2c := HC2.cell 1 _ rfl; have u2c := HC2.free 0 (by simp); have v2c := HC2.free 1 (by simp); have z2c := HC2.lt
  go_wp2
  · have e : min m (asH s m v a n + r) = asH s m v a n + r := by omega
    rw [e]
    refine bodyPost_ret (v := .tuple #[.agg #[.int .i64 (asH s m v a n + r), .int .i64 (asA a n)], .int .i64 0]) (by simp [results, Try.results16, go_sem, *]) rfl ?_
    exact ⟨rfl, (by repeat (first | (with_reducible exact Below.refl _ _) | (with_reducible assumption) | (with_reducible refine Below.drew ?_) | (with_reducible refine below_drewN ?_ _) | ((with_reducible refine bAlloc ?_ ?_ _); focus (first | omega | (simp; done) | (simp; omega))) | ((with_reducible refine bSet ?_ ?_ _); focus (first | omega | (simp; done) | (simp; omega))) | (refine Below.trans ?_ (Below.mono (by with_reducible assumption) (by first | omega | (simp; done) | (simp; omega))))))⟩
  · have e : min m (asH s m v a n + r) = m := by omega
    rw [e]
    refine bodyPost_ret (v := .tuple #[.agg #[.int .i64 m, .int .i64 (asA a n)], .int .i64 0]) (by simp [results, Try.results16, go_sem, *]) rfl ?_
    exact ⟨rfl, (by repeat (first | (with_reducible exact Below.refl _ _) | (with_reducible assumption) | (with_reducible refine Below.drew ?_) | (with_reducible refine below_drewN ?_ _) | ((with_reducible refine bAlloc ?_ ?_ _); focus (first | omega | (simp; done) | (simp; omega))) | ((with_reducible refine bSet ?_ ?_ _); focus (first | omega | (simp; done) | (simp; omega))) | (refine Below.trans ?_ (Below.mono (by with_reducible assumption) (by first | omega | (simp; done) | (simp; omega))))))⟩

theorem rrequest_no {r s m v a n : Int} (w : World) (hk : ¬ (okC r s m ∧ okB m v a n)) :
    Calls Try.prog 16 #[.agg #[.int .i64 r, .int .i64 s, .int .i64 m], .agg #[.int .i64 v, .int .i64 a], .int .i64 n] w fun e w' =>
      e = .returned (.tuple #[.agg #[.int .i64 v, .int .i64 a], .int .i64 (mayE r s m v a n)]) ∧ Below w.heap.size w w' := by
  have hM := may_ne hk
  go_enter Try.func16, Try.ntmps16
  go_wp2_with (first | (go_at_call 26; refine (errs_any _ _ _ _ _ _ _).mono ?_; rintro e w' ⟨rfl, hb⟩; obtain ⟨hc, hf, hz⟩ := bcell hb; (try simp at hz); (try (have hz0 : w.heap.size < w'.heap.size := by omega)); (try (have hz1 : w.heap.size + 1 < w'.heap.size := by omega)); (try (have hz2 : w.heap.size + 1 + 1 < w'.heap.size := by omega)); (try (have hz3 : w.heap.size + 1 + 1 + 1 < w'.heap.size := by omega))))
  refine bodyPost_ret (v := .tuple #[.agg #[.int .i64 v, .int .i64 a], .int .i64 (mayE r s m v a n)]) (by simp [results, Try.results16, go_sem, *]) rfl ?_
  exact ⟨rfl, (by repeat (first | (with_reducible exact Below.refl _ _) | (with_reducible assumption) | (with_reducible refine Below.drew ?_) | (with_reducible refine below_drewN ?_ _) | ((with_reducible refine bAlloc ?_ ?_ _); focus (first | omega | (simp; done) | (simp; omega))) | ((with_reducible refine bSet ?_ ?_ _); focus (first | omega | (simp; done) | (simp; omega))) | (refine Below.trans ?_ (Below.mono (by with_reducible assumption) (by first | omega | (simp; done) | (simp; omega))))))⟩

theorem rretry_yes {r s m v a n : Int} (w : World) (kk : rtOK r s m v a n) :
    Calls Try.prog 17 #[.agg #[.int .i64 r, .int .i64 s, .int .i64 m], .agg #[.int .i64 v, .int .i64 a], .int .i64 n] w fun e w' =>
      e = .returned (.tuple #[.agg #[.int .i64 (asH s m v a n - 1000), .int .i64 (asA a n)], .int .i64 0]) ∧ Below w.heap.size w w' := by
  obtain ⟨kc, kb, hr⟩ := kk
  have hM := may_ok kc kb
  obtain ⟨hB1, hB2⟩ := asH_bd kc kb
  have e1 : atH r s m v a n = asH s m v a n := if_pos ⟨kc, kb⟩
  have e2 : atA r s m v a n = asA a n := if_pos ⟨kc, kb⟩
  obtain ⟨c1, c2, c3, c4, c5, c6⟩ := kc
  obtain ⟨b1, b2, b3, b4, b5, b6⟩ := kb
  go_enter Try.func17, Try.ntmps17
  go_wp2_with (first | (go_at_call 26; refine (errs_any _ _ _ _ _ _ _).mono ?_; rintro e w' ⟨rfl, hb⟩; obtain ⟨hc, hf, hz⟩ := bcell hb; (try simp at hz); (try (have hz0 : w.heap.size < w'.heap.size := by omega)); (try (have hz1 : w.heap.size + 1 < w'.heap.size := by omega)); (try (have hz2 : w.heap.size + 1 + 1 < w'.heap.size := by omega)); (try (have hz3 : w.heap.size + 1 + 1 + 1 < w'.heap.size := by omega))) | (go_at_call 20; refine (rat_any _ _ _ _ _ _ _).mono ?_; rintro e w' ⟨rfl, hb⟩; rw [e1, e2]; obtain ⟨hc, hf, hz⟩ := bcell hb; (try simp at hz); (try (have hz0 : w.heap.size < w'.heap.size := by omega)); (try (have hz1 : w.heap.size + 1 < w'.heap.size := by omega)); (try (have hz2 : w.heap.size + 1 + 1 < w'.heap.size := by omega)); (try (have hz3 : w.heap.size + 1 + 1 + 1 < w'.heap.size := by omega))))
  refine bodyPost_ret (v := .tuple #[.agg #[.int .i64 (asH s m v a n - 1000), .int .i64 (asA a n)], .int .i64 0]) (by simp [results, Try.results17, go_sem, *]) rfl ?_
  exact ⟨rfl, (by repeat (first | (with_reducible exact Below.refl _ _) | (with_reducible assumption) | (with_reducible refine Below.drew ?_) | (with_reducible refine below_drewN ?_ _) | ((with_reducible refine bAlloc ?_ ?_ _); focus (first | omega | (simp; done) | (simp; omega))) | ((with_reducible refine bSet ?_ ?_ _); focus (first | omega | (simp; done) | (simp; omega))) | (refine Below.trans ?_ (Below.mono (by with_reducible assumption) (by first | omega | (simp; done) | (simp; omega))))))⟩

theorem rretry_full {r s m v a n : Int} (w : World) (kc : okC r s m) (kb : okB m v a n) (hr : asH s m v a n < 1000) :
    Calls Try.prog 17 #[.agg #[.int .i64 r, .int .i64 s, .int .i64 m], .agg #[.int .i64 v, .int .i64 a], .int .i64 n] w fun e w' =>
      e = .returned (.tuple #[.agg #[.int .i64 v, .int .i64 a], .int .i64 9]) ∧ Below w.heap.size w w' := by
  have hM := may_ok kc kb
  have e1 : atH r s m v a n = asH s m v a n := if_pos ⟨kc, kb⟩
  have e2 : atA r s m v a n = asA a n := if_pos ⟨kc, kb⟩
  go_enter Try.func17, Try.ntmps17
  go_wp2_with (first | (go_at_call 26; refine (errs_any _ _ _ _ _ _ _).mono ?_; rintro e w' ⟨rfl, hb⟩; obtain ⟨hc, hf, hz⟩ := bcell hb; (try simp at hz); (try (have hz0 : w.heap.size < w'.heap.size := by omega)); (try (have hz1 : w.heap.size + 1 < w'.heap.size := by omega)); (try (have hz2 : w.heap.size + 1 + 1 < w'.heap.size := by omega)); (try (have hz3 : w.heap.size + 1 + 1 + 1 < w'.heap.size := by omega))) | (go_at_call 20; refine (rat_any _ _ _ _ _ _ _).mono ?_; rintro e w' ⟨rfl, hb⟩; rw [e1, e2]; obtain ⟨hc, hf, hz⟩ := bcell hb; (try simp at hz); (try (have hz0 : w.heap.size < w'.heap.size := by omega)); (try (have hz1 : w.heap.size + 1 < w'.heap.size := by omega)); (try (have hz2 : w.heap.size + 1 + 1 < w'.heap.size := by omega)); (try (have hz3 : w.heap.size + 1 + 1 + 1 < w'.heap.size := by omega))))
  refine bodyPost_ret (v := .tuple #[.agg #[.int .i64 v, .int .i64 a], .int .i64 9]) (by simp [results, Try.results17, go_sem, *]) rfl ?_
  exact ⟨rfl, (by repeat (first | (with_reducible exact Below.refl _ _) | (with_reducible assumption) | (with_reducible refine Below.drew ?_) | (with_reducible refine below_drewN ?_ _) | ((with_reducible refine bAlloc ?_ ?_ _); focus (first | omega | (simp; done) | (simp; omega))) | ((with_reducible refine bSet ?_ ?_ _); focus (first | omega | (simp; done) | (simp; omega))) | (refine Below.trans ?_ (Below.mono (by with_reducible assumption) (by first | omega | (simp; done) | (simp; omega))))))⟩

theorem rretry_no {r s m v a n : Int} (w : World) (hk : ¬ (okC r s m ∧ okB m v a n)) :
    Calls Try.prog 17 #[.agg #[.int .i64 r, .int .i64 s, .int .i64 m], .agg #[.int .i64 v, .int .i64 a], .int .i64 n] w fun e w' =>
      e = .returned (.tuple #[.agg #[.int .i64 v, .int .i64 a], .int .i64 (mayE r s m v a n)]) ∧ Below w.heap.size w w' := by
  have hM := may_ne hk
  go_enter Try.func17, Try.ntmps17
  go_wp2_with (first | (go_at_call 26; refine (errs_any _ _ _ _ _ _ _).mono ?_; rintro e w' ⟨rfl, hb⟩; obtain ⟨hc, hf, hz⟩ := bcell hb; (try simp at hz); (try (have hz0 : w.heap.size < w'.heap.size := by omega)); (try (have hz1 : w.heap.size + 1 < w'.heap.size := by omega)); (try (have hz2 : w.heap.size + 1 + 1 < w'.heap.size := by omega)); (try (have hz3 : w.heap.size + 1 + 1 + 1 < w'.heap.size := by omega))))
  refine bodyPost_ret (v := .tuple #[.agg #[.int .i64 v, .int .i64 a], .int .i64 (mayE r s m v a n)]) (by simp [results, Try.results17, go_sem, *]) rfl ?_
  exact ⟨rfl, (by repeat (first | (with_reducible exact Below.refl _ _) | (with_reducible assumption) | (with_reducible refine Below.drew ?_) | (with_reducible refine below_drewN ?_ _) | ((with_reducible refine bAlloc ?_ ?_ _); focus (first | omega | (simp; done) | (simp; omega))) | ((with_reducible refine bSet ?_ ?_ _); focus (first | omega | (simp; done) | (simp; omega))) | (refine Below.trans ?_ (Below.mono (by with_reducible assumption) (by first | omega | (simp; done) | (simp; omega))))))⟩

theorem rretry_any (r s m v a n : Int) (w : World) :
    Calls Try.prog 17 #[.agg #[.int .i64 r, .int .i64 s, .int .i64 m], .agg #[.int .i64 v, .int .i64 a], .int .i64 n] w fun e w' =>
      e = .returned (.tuple #[.agg #[.int .i64 (rtH r s m v a n), .int .i64 (rtA r s m v a n)], .int .i64 (rtE r s m v a n)]) ∧ Below w.heap.size w w' := by
  unfold rtH rtA rtE
  by_cases kk : rtOK r s m v a n
  · rw [if_pos kk, if_pos kk, if_pos kk]; exact rretry_yes w kk
  rw [if_neg kk, if_neg kk, if_neg kk]
  by_cases hk : okC r s m ∧ okB m v a n
  · rw [if_pos hk]; exact rretry_full w hk.1 hk.2 (Int.not_le.mp fun x => kk ⟨hk.1, hk.2, x⟩)
  · rw [if_neg hk]; exact rretry_no w hk

theorem rrequest_any (r s m v a n : Int) (w : World) :
    Calls Try.prog 16 #[.agg #[.int .i64 r, .int .i64 s, .int .i64 m], .agg #[.int .i64 v, .int .i64 a], .int .i64 n] w fun e w' =>
      e = .returned (.tuple #[.agg #[.int .i64 (rqH r s m v a n), .int .i64 (atA r s m v a n)], .int .i64 (mayE r s m v a n)]) ∧ Below w.heap.size w w' := by
  unfold rqH atA
  by_cases hk : okC r s m ∧ okB m v a n
  · rw [if_pos hk, if_pos hk, may_ok hk.1 hk.2]; exact rrequest_yes w hk.1 hk.2
  · rw [if_neg hk, if_neg hk]; exact rrequest_no w hk

theorem rnew_any (r s m : Int) (w : World) :
    Calls Try.prog 19 #[.agg #[.int .i64 r, .int .i64 s, .int .i64 m]] w fun e w' =>
      e = .returned (.agg #[.int .i64 (newH r s m), .int .i64 0]) ∧ Below w.heap.size w w' := by
  unfold newH
  by_cases hk : okC r s m
  · have hM := chk_yes hk
    rw [if_pos hk]
    go_enter Try.func19, Try.ntmps19
    go_wp2_with (first | (go_at_call 18; refine (rcheck_any _ _ _ _).mono ?_; rintro e w' ⟨rfl, hb⟩; obtain ⟨hc, hf, hz⟩ := bcell hb; (try simp at hz); (try (have hz0 : w.heap.size < w'.heap.size := by omega)); (try (have hz1 : w.heap.size + 1 < w'.heap.size := by omega)); (try (have hz2 : w.heap.size + 1 + 1 < w'.heap.size := by omega)); (try (have hz3 : w.heap.size + 1 + 1 + 1 < w'.heap.size := by omega))))
    refine bodyPost_ret (v := .agg #[.int .i64 m, .int .i64 0]) (by simp [results, Try.results19, go_sem, *]) rfl ?_
    exact ⟨rfl, (by repeat (first | (with_reducible exact Below.refl _ _) | (with_reducible assumption) | (with_reducible refine Below.drew ?_) | (with_reducible refine below_drewN ?_ _) | ((with_reducible refine bAlloc ?_ ?_ _); focus (first | omega | (simp; done) | (simp; omega))) | ((with_reducible refine bSet ?_ ?_ _); focus (first | omega | (simp; done) | (simp; omega))) | (refine Below.trans ?_ (Below.mono (by with_reducible assumption) (by first | omega | (simp; done) | (simp; omega))))))⟩
  · have hM := chk_no hk
    rw [if_neg hk]
    go_enter Try.func19, Try.ntmps19
    go_wp2_with (first | (go_at_call 18; refine (rcheck_any _ _ _ _).mono ?_; rintro e w' ⟨rfl, hb⟩; obtain ⟨hc, hf, hz⟩ := bcell hb; (try simp at hz); (try (have hz0 : w.heap.size < w'.heap.size := by omega)); (try (have hz1 : w.heap.size + 1 < w'.heap.size := by omega)); (try (have hz2 : w.heap.size + 1 + 1 < w'.heap.size := by omega)); (try (have hz3 : w.heap.size + 1 + 1 + 1 < w'.heap.size := by omega))))
    refine bodyPost_ret (v := .agg #[.int .i64 0, .int .i64 0]) (by simp [results, Try.results19, go_sem, *]) rfl ?_
    exact ⟨rfl, (by repeat (first | (with_reducible exact Below.refl _ _) | (with_reducible assumption) | (with_reducible refine Below.drew ?_) | (with_reducible refine below_drewN ?_ _) | ((with_reducible refine bAlloc ?_ ?_ _); focus (first | omega | (simp; done) | (simp; omega))) | ((with_reducible refine bSet ?_ ?_ _); focus (first | omega | (simp; done) | (simp; omega))) | (refine Below.trans ?_ (Below.mono (by with_reducible assumption) (by first | omega | (simp; done) | (simp; omega))))))⟩

theorem rmay'_any (r s m v a n : Int) (w : World) :
    Calls Try.prog 21 #[.agg #[.int .i64 r, .int .i64 s, .int .i64 m], .agg #[.int .i64 v, .int .i64 a], .int .i64 n] w fun e w' =>
      e = .returned (.bool (rtE r s m v a n == 0)) ∧ Below w.heap.size w w' := by
  go_enter Try.func21, Try.ntmps21
  go_wp2_with (first | (go_at_call 17; refine (rretry_any _ _ _ _ _ _ _).mono ?_; rintro e w' ⟨rfl, hb⟩; obtain ⟨hc, hf, hz⟩ := bcell hb; (try simp at hz); (try (have hz0 : w.heap.size < w'.heap.size := by omega)); (try (have hz1 : w.heap.size + 1 < w'.heap.size := by omega)); (try (have hz2 : w.heap.size + 1 + 1 < w'.heap.size := by omega)); (try (have hz3 : w.heap.size + 1 + 1 + 1 < w'.heap.size := by omega))))
  go_ret
  exact ⟨rfl, (by repeat (first | (with_reducible exact Below.refl _ _) | (with_reducible assumption) | (with_reducible refine Below.drew ?_) | (with_reducible refine below_drewN ?_ _) | ((with_reducible refine bAlloc ?_ ?_ _); focus (first | omega | (simp; done) | (simp; omega))) | ((with_reducible refine bSet ?_ ?_ _); focus (first | omega | (simp; done) | (simp; omega))) | (refine Below.trans ?_ (Below.mono (by with_reducible assumption) (by first | omega | (simp; done) | (simp; omega))))))⟩

end Go.Proofs.Ytdaankgaigjahaa.Bud
