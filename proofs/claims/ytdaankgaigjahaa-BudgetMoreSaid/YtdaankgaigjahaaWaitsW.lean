/- The walk of the law BudgetWaits: two steps of time add as much as one; more time, or one more request, never leaves less. -/
import Derived.Test.YtdaankgaigjahaaBudLives
namespace Go.Proofs.Ytdaankgaigjahaa.Bud
open Go.RowKit

theorem asH_min {r s m v a n : Int} (kc : okC r s m) (kb : okB m v a n) (hn : a ≤ n) : 0 ≤ (n - a) * s ∧ asH s m v a n = min m (v + (n - a) * s) := by
  obtain ⟨c1, c2, c3, c4, c5, c6⟩ := kc
  obtain ⟨b1, b2, b3, b4, b5, b6⟩ := kb
  have p0 : 0 ≤ (n - a) * s := Int.mul_nonneg (by omega) c3
  refine ⟨p0, ?_⟩
  unfold asH
  by_cases h1 : n ≤ a
  · have : n = a := by omega
    subst this
    rw [if_pos h1]
    simp
    omega
  rw [if_neg h1]
  by_cases h2 : s = 0
  · subst h2; rw [if_pos rfl]; simp; omega
  rw [if_neg h2]
  by_cases h3 : n - a ≤ (m - v) / s
  · rw [if_pos h3]
    have hp1 : (n - a) * s ≤ m - v := Int.le_trans (Int.mul_le_mul_of_nonneg_right h3 c3) (Int.ediv_mul_le _ h2)
    omega
  · rw [if_neg h3]
    have h4 : (m - v) / s + 1 ≤ n - a := by omega
    have h5 : ((m - v) / s + 1) * s ≤ (n - a) * s := Int.mul_le_mul_of_nonneg_right h4 c3
    have h6 : m - v < ((m - v) / s + 1) * s := Int.lt_ediv_add_one_mul_self _ (by omega)
    omega

/-- The plain law. -/
theorem waits_plain {r s m v a t u : Int} (kc : okC r s m) (h0 : 0 ≤ v) (hm : v ≤ m) (ha : 0 ≤ a) (hat : a ≤ t) (htu : t ≤ u) (hu : u ≤ 253402300799) :
    ∃ X Y Z : Int, atH r s m v a t = X ∧ atA r s m v a t = t ∧ atH r s m v a u = Y ∧ atA r s m v a u = u ∧ atH r s m X t u = Y ∧ atA r s m X t u = u ∧ rqH r s m X t u = Z ∧ mayE r s m X t u = 0 ∧
      v ≤ X ∧ X ≤ Y ∧ Y ≤ Z ∧ Z - Y ≤ r ∧ Z ≤ m := by
  have kt : okB m v a t := ⟨by omega, by omega, h0, hm, ha, by omega⟩
  have ku : okB m v a u := ⟨by omega, by omega, h0, hm, ha, by omega⟩
  obtain ⟨p1, e1⟩ := asH_min kc kt hat
  obtain ⟨p2, e2⟩ := asH_min kc ku (by omega)
  have hX := asH_bd kc kt
  have kx : okB m (asH s m v a t) t u := ⟨by omega, by omega, by omega, hX.2, by omega, by omega⟩
  obtain ⟨p3, e3⟩ := asH_min kc kx htu
  have hsum : (u - a) * s = (t - a) * s + (u - t) * s := by rw [← Int.add_mul]; congr 1; omega
  refine ⟨asH s m v a t, asH s m v a u, rqH r s m (asH s m v a t) t u, if_pos ⟨kc, kt⟩, ?_, if_pos ⟨kc, ku⟩, ?_, ?_, ?_, rfl, may_ok kc kx, ?_⟩
  · unfold atA; rw [if_pos ⟨kc, kt⟩]; unfold asA; split <;> omega
  · unfold atA; rw [if_pos ⟨kc, ku⟩]; unfold asA; split <;> omega
  · unfold atH; rw [if_pos ⟨kc, kx⟩, e3, e2, e1, hsum]; omega
  · unfold atA; rw [if_pos ⟨kc, kx⟩]; unfold asA; split <;> omega
  · unfold rqH
    rw [if_pos ⟨kc, kx⟩, e3, e2, e1, hsum]
    obtain ⟨c1, c2, c3, c4, c5, c6⟩ := kc
    omega

set_option maxHeartbeats 1000000 in
theorem waits_law (r s m v a t u : Int) (w : World) :
    Calls Try.prog 4 #[.agg #[.int .i64 r, .int .i64 s, .int .i64 m], .agg #[.int .i64 v, .int .i64 a], .int .i64 t, .int .i64 u] w fun e w' =>
      e = .returned (.bool true) ∧ Below w.heap.size w w' := by
  by_cases hv : okC r s m ∧ 0 ≤ v ∧ v ≤ m ∧ 0 ≤ a ∧ a ≤ t ∧ t ≤ u ∧ u ≤ 253402300799
  · obtain ⟨kc, h0, hm, ha, hat, htu, hu⟩ := hv
    obtain ⟨X, Y, Z, e1, e2, e3, e4, e5, e6, e7, e8, i1, i2, i3, i4, i5⟩ := waits_plain kc h0 hm ha hat htu hu
    have hck := chk_yes kc
    obtain ⟨c1, c2, c3, c4, c5, c6⟩ := kc
    go_enter Try.func4, Try.ntmps4
    go_wp2_with fail
    refine (lives_any _).mono ?_; rintro e w1 ⟨rfl, hb1⟩
    have bel : Below w.heap.size w w1 := (by repeat (first | (with_reducible exact Below.refl _ _) | (with_reducible assumption) | (with_reducible refine Below.drew ?_) | (with_reducible refine below_drewN ?_ _) | ((with_reducible refine bAlloc ?_ ?_ _); focus (first | omega | (simp; done) | (simp; omega))) | ((with_reducible refine bSet ?_ ?_ _); focus (first | omega | (simp; done) | (simp; omega))) | (refine Below.trans ?_ (Below.mono (by with_reducible assumption) (by first | omega | (simp; done) | (simp; omega))))))
    have HC := ((Reg.Has.at w w.heap.size [.int .i64 r, .int .i64 s, .int .i64 m] 23 rfl).alloc (.cells #[.int .i64 v, .int .i64 a] 30)).call hb1
    have HB := (Reg.Has.at (w.alloc (.cells #[.int .i64 r, .int .i64 s, .int .i64 m] 23)) (w.heap.size + 1) [.int .i64 v, .int .i64 a] 30 (by simp)).call hb1
    clear hb1
    have p1a := HC.cell 0 _ rfl; have q1a := HC.cell 1 _ rfl; have r1a := HC.cell 2 _ rfl; have u1a := HC.free 0 (by simp); have v1a := HC.free 1 (by simp); have x1a := HC.free 2 (by simp); have z1a := HC.lt
    have p1b := HB.cell 0 _ rfl; have q1b := HB.cell 1 _ rfl; have u1b := HB.free 0 (by simp); have v1b := HB.free 1 (by simp); have z1b := HB.lt
    go_wp2_with fail
    refine (check_any _ _ _ _).mono ?_; rintro e w2 ⟨rfl, hb2⟩
    rw [hck]
    clear hck
    replace bel := bel.trans (hb2.mono bel.size)
    replace HC := HC.call hb2
    replace HB := HB.call hb2
    clear hb2 p1a q1a r1a u1a v1a x1a z1a p1b q1b u1b v1b z1b
    have p2a := HC.cell 0 _ rfl; have q2a := HC.cell 1 _ rfl; have r2a := HC.cell 2 _ rfl; have u2a := HC.free 0 (by simp); have v2a := HC.free 1 (by simp); have x2a := HC.free 2 (by simp); have z2a := HC.lt
    have p2b := HB.cell 0 _ rfl; have q2b := HB.cell 1 _ rfl; have u2b := HB.free 0 (by simp); have v2b := HB.free 1 (by simp); have z2b := HB.lt
    go_wp2_with fail
    refine (at_any _ _ _ _ _ _ _).mono ?_; rintro e w3 ⟨rfl, hb3⟩
    rw [e1, e2]
    clear e1 e2
    replace bel := bel.trans (hb3.mono bel.size)
    replace HC := HC.call hb3
    replace HB := HB.call hb3
    clear hb3 p2a q2a r2a u2a v2a x2a z2a p2b q2b u2b v2b z2b
    have p3a := HC.cell 0 _ rfl; have q3a := HC.cell 1 _ rfl; have r3a := HC.cell 2 _ rfl; have u3a := HC.free 0 (by simp); have v3a := HC.free 1 (by simp); have x3a := HC.free 2 (by simp); have z3a := HC.lt
    have p3b := HB.cell 0 _ rfl; have q3b := HB.cell 1 _ rfl; have u3b := HB.free 0 (by simp); have v3b := HB.free 1 (by simp); have z3b := HB.lt
    go_wp2_with fail
    refine (at_any _ _ _ _ _ _ _).mono ?_; rintro e w4 ⟨rfl, hb4⟩
    rw [e3, e4]
    clear e3 e4
    have HX := (Reg.Has.at w3 w3.heap.size [.int .i64 X, .int .i64 t] 30 rfl).call hb4
    replace bel : Below w.heap.size w w4 := by have := bel.size; exact (by repeat (first | (with_reducible exact Below.refl _ _) | (with_reducible assumption) | (with_reducible refine Below.drew ?_) | (with_reducible refine below_drewN ?_ _) | ((with_reducible refine bAlloc ?_ ?_ _); focus (first | omega | (simp; done) | (simp; omega))) | ((with_reducible refine bSet ?_ ?_ _); focus (first | omega | (simp; done) | (simp; omega))) | (refine Below.trans ?_ (Below.mono (by with_reducible assumption) (by first | omega | (simp; done) | (simp; omega))))))
    replace HC := (HC.alloc _).call hb4
    replace HB := (HB.alloc _).call hb4
    clear hb4 p3a q3a r3a u3a v3a x3a z3a p3b q3b u3b v3b z3b
    have p4a := HC.cell 0 _ rfl; have q4a := HC.cell 1 _ rfl; have r4a := HC.cell 2 _ rfl; have u4a := HC.free 0 (by simp); have v4a := HC.free 1 (by simp); have x4a := HC.free 2 (by simp); have z4a := HC.lt
    have p4b := HB.cell 0 _ rfl; have q4b := HB.cell 1 _ rfl; have u4b := HB.free 0 (by simp); have v4b := HB.free 1 (by simp); have z4b := HB.lt
    have p4c := HX.cell 0 _ rfl; have q4c := HX.cell 1 _ rfl; have u4c := HX.free 0 (by simp); have v4c := HX.free 1 (by simp); have z4c := HX.lt
    go_wp2_with fail
    refine (request_any _ _ _ _ _ _ _).mono ?_; rintro e w5 ⟨rfl, hb5⟩
    rw [e6, e7, e8]
    clear e7 e8
    have HY := (Reg.Has.at w4 w4.heap.size [.int .i64 Y, .int .i64 u] 30 rfl).call hb5
    replace bel : Below w.heap.size w w5 := by have := bel.size; exact (by repeat (first | (with_reducible exact Below.refl _ _) | (with_reducible assumption) | (with_reducible refine Below.drew ?_) | (with_reducible refine below_drewN ?_ _) | ((with_reducible refine bAlloc ?_ ?_ _); focus (first | omega | (simp; done) | (simp; omega))) | ((with_reducible refine bSet ?_ ?_ _); focus (first | omega | (simp; done) | (simp; omega))) | (refine Below.trans ?_ (Below.mono (by with_reducible assumption) (by first | omega | (simp; done) | (simp; omega))))))
    replace HC := (HC.alloc _).call hb5
    replace HB := (HB.alloc _).call hb5
    replace HX := (HX.alloc _).call hb5
    clear hb5 p4a q4a r4a u4a v4a x4a z4a p4b q4b u4b v4b z4b p4c q4c u4c v4c z4c
    go_wp2_with fail
    have HZ := Reg.Has.at w5 w5.heap.size [.int .i64 Z, .int .i64 u] 30 rfl
    replace bel : Below w.heap.size w (w5.alloc (.cells #[.int .i64 Z, .int .i64 u] 30)) := by have := bel.size; exact (by repeat (first | (with_reducible exact Below.refl _ _) | (with_reducible assumption) | (with_reducible refine Below.drew ?_) | (with_reducible refine below_drewN ?_ _) | ((with_reducible refine bAlloc ?_ ?_ _); focus (first | omega | (simp; done) | (simp; omega))) | ((with_reducible refine bSet ?_ ?_ _); focus (first | omega | (simp; done) | (simp; omega))) | (refine Below.trans ?_ (Below.mono (by with_reducible assumption) (by first | omega | (simp; done) | (simp; omega))))))
    replace HC := HC.alloc (.cells #[.int .i64 Z, .int .i64 u] 30)
    replace HB := HB.alloc (.cells #[.int .i64 Z, .int .i64 u] 30)
    replace HX := HX.alloc (.cells #[.int .i64 Z, .int .i64 u] 30)
    replace HY := HY.alloc (.cells #[.int .i64 Z, .int .i64 u] 30)
    generalize hW6 : w5.alloc (.cells #[.int .i64 Z, .int .i64 u] 30) = w6 at *
    generalize w5.heap.size = b5 at *
    generalize w4.heap.size = b4 at *
    generalize w3.heap.size = b3 at *
    clear hW6
    have pc := HC.cell 0 _ rfl; have qc := HC.cell 1 _ rfl; have rc := HC.cell 2 _ rfl; have uc := HC.free 0 (by simp); have vc := HC.free 1 (by simp); have xc := HC.free 2 (by simp); have zc := HC.lt
    have pb := HB.cell 0 _ rfl; have qb := HB.cell 1 _ rfl; have ub := HB.free 0 (by simp); have vb := HB.free 1 (by simp); have zb := HB.lt
    have px := HX.cell 0 _ rfl; have qx := HX.cell 1 _ rfl; have ux := HX.free 0 (by simp); have vx := HX.free 1 (by simp); have zx := HX.lt
    have py := HY.cell 0 _ rfl; have qy := HY.cell 1 _ rfl; have uy := HY.free 0 (by simp); have vy := HY.free 1 (by simp); have zy := HY.lt
    have pz := HZ.cell 0 _ rfl; have qz := HZ.cell 1 _ rfl; have uz := HZ.free 0 (by simp); have vz := HZ.free 1 (by simp); have zz := HZ.lt
    refine Reg.region_more (by kernel_rfl) (by kernel_rfl) ?_
    repeat (go_big_quiet_step ((go_at_call 13; have h := fun w => at_any r s m X t u w; simp only [e5, e6] at h; exact Reg.Calls.more (h _))))
    refine wpQuiet_nil ?_
    intro w7 hb7; obtain ⟨hc7, hf7, hz7⟩ := bcell hb7; (try simp at hz7)
    go_wp2
    go_ret
    exact ⟨rfl, bel.trans (hb7.mono bel.size)⟩
  · by_cases kc : okC r s m
    all_goals first | have hck := chk_yes kc | have hck := chk_no kc
    all_goals
      go_enter Try.func4, Try.ntmps4
      go_wp2_with fail
      refine (lives_any _).mono ?_; rintro e w1 ⟨rfl, hb1⟩
      have bel : Below w.heap.size w w1 := (by repeat (first | (with_reducible exact Below.refl _ _) | (with_reducible assumption) | (with_reducible refine Below.drew ?_) | (with_reducible refine below_drewN ?_ _) | ((with_reducible refine bAlloc ?_ ?_ _); focus (first | omega | (simp; done) | (simp; omega))) | ((with_reducible refine bSet ?_ ?_ _); focus (first | omega | (simp; done) | (simp; omega))) | (refine Below.trans ?_ (Below.mono (by with_reducible assumption) (by first | omega | (simp; done) | (simp; omega))))))
      have HC := ((Reg.Has.at w w.heap.size [.int .i64 r, .int .i64 s, .int .i64 m] 23 rfl).alloc (.cells #[.int .i64 v, .int .i64 a] 30)).call hb1
      have HB := (Reg.Has.at (w.alloc (.cells #[.int .i64 r, .int .i64 s, .int .i64 m] 23)) (w.heap.size + 1) [.int .i64 v, .int .i64 a] 30 (by simp)).call hb1
      clear hb1
      have p1a := HC.cell 0 _ rfl; have q1a := HC.cell 1 _ rfl; have r1a := HC.cell 2 _ rfl; have u1a := HC.free 0 (by simp); have v1a := HC.free 1 (by simp); have x1a := HC.free 2 (by simp); have z1a := HC.lt
      have p1b := HB.cell 0 _ rfl; have q1b := HB.cell 1 _ rfl; have u1b := HB.free 0 (by simp); have v1b := HB.free 1 (by simp); have z1b := HB.lt
      go_wp2_with fail
      refine (check_any _ _ _ _).mono ?_; rintro e w2 ⟨rfl, hb2⟩
      rw [hck]
      clear hck
      replace bel := bel.trans (hb2.mono bel.size)
      replace HC := HC.call hb2
      replace HB := HB.call hb2
      clear hb2 p1a q1a r1a u1a v1a x1a z1a p1b q1b u1b v1b z1b
      have p2a := HC.cell 0 _ rfl; have q2a := HC.cell 1 _ rfl; have r2a := HC.cell 2 _ rfl; have u2a := HC.free 0 (by simp); have v2a := HC.free 1 (by simp); have x2a := HC.free 2 (by simp); have z2a := HC.lt
      have p2b := HB.cell 0 _ rfl; have q2b := HB.cell 1 _ rfl; have u2b := HB.free 0 (by simp); have v2b := HB.free 1 (by simp); have z2b := HB.lt
      go_wp2_with fail
      all_goals first | (go_ret; exact ⟨rfl, bel⟩) | (exfalso; exact hv ⟨kc, by omega, by omega, by omega, by omega, by omega, by omega⟩)
end Go.Proofs.Ytdaankgaigjahaa.Bud
