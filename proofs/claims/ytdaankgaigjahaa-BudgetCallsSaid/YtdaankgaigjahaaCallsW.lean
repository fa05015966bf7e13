/- The walk of the law BudgetCalls: what a budget has, and becomes, is what the document says. -/
import Derived.Test.YtdaankgaigjahaaBudLives
import Derived.Test.YtdaankgaigjahaaBudRefs2
namespace Go.Proofs.Ytdaankgaigjahaa.Bud
open Go.RowKit

theorem calls_law (r s m v a n : Int) (w : World) :
    Calls Try.prog 6 #[.agg #[.int .i64 r, .int .i64 s, .int .i64 m], .agg #[.int .i64 v, .int .i64 a], .int .i64 n] w fun e w' =>
      e = .returned (.bool true) ∧ Below w.heap.size w w' := by
  go_enter Try.func6, Try.ntmps6
  go_wp2_with fail
  refine (lives_any _).mono ?_; rintro e w1 ⟨rfl, hb1⟩
  have bel : Below w.heap.size w w1 := (by repeat (first | (with_reducible exact Below.refl _ _) | (with_reducible assumption) | (with_reducible refine Below.drew ?_) | (with_reducible refine below_drewN ?_ _) | ((with_reducible refine bAlloc ?_ ?_ _); focus (first | omega | (simp; done) | (simp; omega))) | ((with_reducible refine bSet ?_ ?_ _); focus (first | omega | (simp; done) | (simp; omega))) | (refine Below.trans ?_ (Below.mono (by with_reducible assumption) (by first | omega | (simp; done) | (simp; omega))))))
  have HC := ((Reg.Has.at w w.heap.size [.int .i64 r, .int .i64 s, .int .i64 m] 23 rfl).alloc (.cells #[.int .i64 v, .int .i64 a] 30)).call hb1
  have HB := (Reg.Has.at (w.alloc (.cells #[.int .i64 r, .int .i64 s, .int .i64 m] 23)) (w.heap.size + 1) [.int .i64 v, .int .i64 a] 30 (by simp)).call hb1
  clear hb1
  have p1a := HC.cell 0 _ rfl; have q1a := HC.cell 1 _ rfl; have r1a := HC.cell 2 _ rfl; have u1a := HC.free 0 (by simp); have v1a := HC.free 1 (by simp); have x1a := HC.free 2 (by simp); have z1a := HC.lt
  have p1b := HB.cell 0 _ rfl; have q1b := HB.cell 1 _ rfl; have u1b := HB.free 0 (by simp); have v1b := HB.free 1 (by simp); have z1b := HB.lt
  go_wp2_with fail
  refine (request_any _ _ _ _ _ _ _).mono ?_; rintro e w2 ⟨rfl, hb2⟩
  replace bel := bel.trans (hb2.mono bel.size)
  replace HC := HC.call hb2
  replace HB := HB.call hb2
  clear hb2
  have p2a := HC.cell 0 _ rfl; have q2a := HC.cell 1 _ rfl; have r2a := HC.cell 2 _ rfl; have u2a := HC.free 0 (by simp); have v2a := HC.free 1 (by simp); have x2a := HC.free 2 (by simp); have z2a := HC.lt
  have p2b := HB.cell 0 _ rfl; have q2b := HB.cell 1 _ rfl; have u2b := HB.free 0 (by simp); have v2b := HB.free 1 (by simp); have z2b := HB.lt
  go_wp2_with fail
  refine (rrequest_any _ _ _ _ _ _ _).mono ?_; rintro e w3 ⟨rfl, hb3⟩
  have HX := (Reg.Has.at w2 w2.heap.size [.int .i64 (rqH r s m v a n), .int .i64 (atA r s m v a n)] 30 rfl).call hb3
  replace bel : Below w.heap.size w w3 := by have := bel.size; exact (by repeat (first | (with_reducible exact Below.refl _ _) | (with_reducible assumption) | (with_reducible refine Below.drew ?_) | (with_reducible refine below_drewN ?_ _) | ((with_reducible refine bAlloc ?_ ?_ _); focus (first | omega | (simp; done) | (simp; omega))) | ((with_reducible refine bSet ?_ ?_ _); focus (first | omega | (simp; done) | (simp; omega))) | (refine Below.trans ?_ (Below.mono (by with_reducible assumption) (by first | omega | (simp; done) | (simp; omega))))))
  replace HC := (HC.alloc _).call hb3
  replace HB := (HB.alloc _).call hb3
  clear hb3
  have p3a := HC.cell 0 _ rfl; have q3a := HC.cell 1 _ rfl; have r3a := HC.cell 2 _ rfl; have u3a := HC.free 0 (by simp); have v3a := HC.free 1 (by simp); have x3a := HC.free 2 (by simp); have z3a := HC.lt
  have p3b := HB.cell 0 _ rfl; have q3b := HB.cell 1 _ rfl; have u3b := HB.free 0 (by simp); have v3b := HB.free 1 (by simp); have z3b := HB.lt
  go_wp2_with fail
  refine (retry_any _ _ _ _ _ _ _).mono ?_; rintro e w4 ⟨rfl, hb4⟩
  have HY := (Reg.Has.at w3 w3.heap.size [.int .i64 (rqH r s m v a n), .int .i64 (atA r s m v a n)] 30 rfl).call hb4
  replace bel : Below w.heap.size w w4 := by have := bel.size; exact (by repeat (first | (with_reducible exact Below.refl _ _) | (with_reducible assumption) | (with_reducible refine Below.drew ?_) | (with_reducible refine below_drewN ?_ _) | ((with_reducible refine bAlloc ?_ ?_ _); focus (first | omega | (simp; done) | (simp; omega))) | ((with_reducible refine bSet ?_ ?_ _); focus (first | omega | (simp; done) | (simp; omega))) | (refine Below.trans ?_ (Below.mono (by with_reducible assumption) (by first | omega | (simp; done) | (simp; omega))))))
  replace HC := (HC.alloc _).call hb4
  replace HB := (HB.alloc _).call hb4
  replace HX := (HX.alloc _).call hb4
  clear hb4
  have p4a := HC.cell 0 _ rfl; have q4a := HC.cell 1 _ rfl; have r4a := HC.cell 2 _ rfl; have u4a := HC.free 0 (by simp); have v4a := HC.free 1 (by simp); have x4a := HC.free 2 (by simp); have z4a := HC.lt
  have p4b := HB.cell 0 _ rfl; have q4b := HB.cell 1 _ rfl; have u4b := HB.free 0 (by simp); have v4b := HB.free 1 (by simp); have z4b := HB.lt
  go_wp2_with fail
  refine (rretry_any _ _ _ _ _ _ _).mono ?_; rintro e w5 ⟨rfl, hb5⟩
  have HU := (Reg.Has.at w4 w4.heap.size [.int .i64 (rtH r s m v a n), .int .i64 (rtA r s m v a n)] 30 rfl).call hb5
  replace bel : Below w.heap.size w w5 := by have := bel.size; exact (by repeat (first | (with_reducible exact Below.refl _ _) | (with_reducible assumption) | (with_reducible refine Below.drew ?_) | (with_reducible refine below_drewN ?_ _) | ((with_reducible refine bAlloc ?_ ?_ _); focus (first | omega | (simp; done) | (simp; omega))) | ((with_reducible refine bSet ?_ ?_ _); focus (first | omega | (simp; done) | (simp; omega))) | (refine Below.trans ?_ (Below.mono (by with_reducible assumption) (by first | omega | (simp; done) | (simp; omega))))))
  replace HC := (HC.alloc _).call hb5
  replace HB := (HB.alloc _).call hb5
  replace HX := (HX.alloc _).call hb5
  replace HY := (HY.alloc _).call hb5
  clear hb5
  go_wp2_with fail
  have HV := (Reg.Has.at w5 w5.heap.size [.int .i64 (rtH r s m v a n), .int .i64 (rtA r s m v a n)] 30 rfl)
  replace bel : Below w.heap.size w (w5.alloc (.cells #[.int .i64 (rtH r s m v a n), .int .i64 (rtA r s m v a n)] 30)) := by have := bel.size; exact (by repeat (first | (with_reducible exact Below.refl _ _) | (with_reducible assumption) | (with_reducible refine Below.drew ?_) | (with_reducible refine below_drewN ?_ _) | ((with_reducible refine bAlloc ?_ ?_ _); focus (first | omega | (simp; done) | (simp; omega))) | ((with_reducible refine bSet ?_ ?_ _); focus (first | omega | (simp; done) | (simp; omega))) | (refine Below.trans ?_ (Below.mono (by with_reducible assumption) (by first | omega | (simp; done) | (simp; omega))))))
  replace HC := HC.alloc (.cells #[.int .i64 (rtH r s m v a n), .int .i64 (rtA r s m v a n)] 30)
  replace HB := HB.alloc (.cells #[.int .i64 (rtH r s m v a n), .int .i64 (rtA r s m v a n)] 30)
  replace HX := HX.alloc (.cells #[.int .i64 (rtH r s m v a n), .int .i64 (rtA r s m v a n)] 30)
  replace HY := HY.alloc (.cells #[.int .i64 (rtH r s m v a n), .int .i64 (rtA r s m v a n)] 30)
  replace HU := HU.alloc (.cells #[.int .i64 (rtH r s m v a n), .int .i64 (rtA r s m v a n)] 30)
  generalize hW6 : w5.alloc (.cells #[.int .i64 (rtH r s m v a n), .int .i64 (rtA r s m v a n)] 30) = w6 at *
  generalize w5.heap.size = b5 at *
  generalize w4.heap.size = b4 at *
  generalize w3.heap.size = b3 at *
  generalize w2.heap.size = b2 at *
  clear hW6
  clear p1a q1a r1a u1a v1a x1a z1a p1b q1b u1b v1b z1b
  clear p2a q2a r2a u2a v2a x2a z2a p2b q2b u2b v2b z2b
  clear p3a q3a r3a u3a v3a x3a z3a p3b q3b u3b v3b z3b
  clear p4a q4a r4a u4a v4a x4a z4a p4b q4b u4b v4b z4b
  clear w5 w4 w3 w2 w1
  have pc := HC.cell 0 _ rfl; have qc := HC.cell 1 _ rfl; have rc := HC.cell 2 _ rfl; have uc := HC.free 0 (by simp); have vc := HC.free 1 (by simp); have xc := HC.free 2 (by simp); have zc := HC.lt
  have pb := HB.cell 0 _ rfl; have qb := HB.cell 1 _ rfl; have ub := HB.free 0 (by simp); have vb := HB.free 1 (by simp); have zb := HB.lt
  have px := HX.cell 0 _ rfl; have qx := HX.cell 1 _ rfl; have ux := HX.free 0 (by simp); have vx := HX.free 1 (by simp); have zx := HX.lt
  have py := HY.cell 0 _ rfl; have qy := HY.cell 1 _ rfl; have uy := HY.free 0 (by simp); have vy := HY.free 1 (by simp); have zy := HY.lt
  have pu := HU.cell 0 _ rfl; have qu := HU.cell 1 _ rfl; have uu := HU.free 0 (by simp); have vu := HU.free 1 (by simp); have zu := HU.lt
  have pv := HV.cell 0 _ rfl; have qv := HV.cell 1 _ rfl; have uv := HV.free 0 (by simp); have vv := HV.free 1 (by simp); have zv := HV.lt
  refine Reg.region_more (by kernel_rfl) (by kernel_rfl) ?_
  repeat (go_big_quiet_step ((first | (go_at_call 9; exact Reg.Calls.more (check_any _ _ _ _)) | (go_at_call 18; exact Reg.Calls.more (rcheck_any _ _ _ _)) | (go_at_call 14; exact Reg.Calls.more (new_any _ _ _ _)) | (go_at_call 19; exact Reg.Calls.more (rnew_any _ _ _ _)) | (go_at_call 13; exact Reg.Calls.more (at_any _ _ _ _ _ _ _)) | (go_at_call 20; exact Reg.Calls.more (rat_any _ _ _ _ _ _ _)) | (go_at_call 15; exact Reg.Calls.more (may'_any _ _ _ _ _ _ _)) | (go_at_call 21; exact Reg.Calls.more (rmay'_any _ _ _ _ _ _ _)))))
  refine wpQuiet_nil ?_
  intro w7 hb7; obtain ⟨hc7, hf7, hz7⟩ := bcell hb7; (try simp at hz7)
  go_wp2
  go_ret
  exact ⟨rfl, bel.trans (hb7.mono bel.size)⟩
end Go.Proofs.Ytdaankgaigjahaa.Bud
